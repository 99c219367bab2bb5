/-
  Sums and maps.
-/
import Derived.Test.YtdgiianbihfkoaaVpR
open Go Go.VS
namespace Go.VxW

/-! sums and maps -/
def sumL : List Int → Int
  | [] => 0
  | x :: xs => x + sumL xs
theorem sumL_fold (l : List Int) (s : Int) : l.foldl (· + ·) s = s + sumL l := by
  induction l generalizing s with
  | nil => simp [sumL]
  | cons x xs ih => simp only [List.foldl_cons, sumL]; rw [ih]; omega
theorem sum_go {l : List Int} (hl : l.length ≤ 1048576) (hb : ∀ x ∈ l, -1000000000000 ≤ x ∧ x ≤ 1000000000000) {f : Int × Int → Option (LR (Int × Int) Int)}
    (hs : ∀ (k : Nat) (hk : k < l.length) (s : Int), f (s, k) = some (.next (IntKind.i64.wrap (s + l[k]), (k : Int) + 1))) (hz : ∀ s, f (s, l.length) = some (.done s)) : whl f (0, 0) = some (sumL l) := by
  have := whl_lgo l f (fun k s => (s, k)) (fun _ x s => .next (s + x)) (fun s => s) (fun k s => -1000000000000 * (k : Int) ≤ s ∧ s ≤ 1000000000000 * k) (fun k hk s hi => by
    have hx := hb _ (List.getElem_mem hk)
    rw [hs k hk, w64 (by omega)]
    refine ⟨rfl, fun s' h => ?_⟩
    simp only [LR.next.injEq] at h
    omega) (fun s _ => hz s) 0 (by simp)
  rw [this, lgo_fold (· + ·) (fun _ _ _ => rfl), sumL_fold]
  simp
theorem fold_app {α β : Type} (h : α → β) (l : List α) (a : List β) : l.foldl (fun a x => a ++ [h x]) a = a ++ l.map h := by
  induction l generalizing a with
  | nil => simp
  | cons x xs ih => simp [ih]
theorem map_go {α : Type} {l : List α} (_hl : l.length ≤ 1048576) {h : α → Int} {f : Int × List Int → Option (LR (Int × List Int) (List Int))}
    (hs : ∀ (k : Nat) (hk : k < l.length) (a : List Int), a.length = k → f (k, a) = some (.next ((k : Int) + 1, a ++ [h l[k]]))) (hz : ∀ a, f (l.length, a) = some (.done a)) : whl f (0, []) = some (l.map h) := by
  have := whl_lgo l f (fun k a => (k, a)) (fun _ x a => .next (a ++ [h x])) (fun a => a) (fun k a => a.length = k) (fun k hk a hi => by
    rw [hs k hk a hi]
    refine ⟨rfl, fun s' h => ?_⟩
    simp only [LR.next.injEq] at h
    subst h
    simp [hi]) (fun s _ => hz s) [] (by simp)
  rw [this, lgo_fold (fun a x => a ++ [h x]) (fun _ _ _ => rfl), fold_app]
  simp

theorem sum_set : ∀ (l : List Int) (k : Nat) (v : Int) (h : k < l.length), sumL (l.set k v) = sumL l - l[k] + v
  | x :: xs, 0, v, _ => by simp [sumL]; omega
  | x :: xs, k + 1, v, h => by
    simp only [List.set_cons_succ, sumL, List.getElem_cons_succ]
    rw [sum_set xs k v (by simpa using h)]; omega
end Go.VxW
