/-
  VS, part 47: plain words about loops and numbers, for what is left when the code is gone.
-/
import Derived.Test.YtkmcnmjjfgahpaaVtT
namespace Go.VS

theorem w64 {x : Int} (h : -9223372036854775808 ≤ x ∧ x ≤ 9223372036854775807) : IntKind.i64.wrap x = x := IntWalk.i64_in x (by omega)

section
open Go.ChangeShapes Go.WideShapes Go.ChangeAt
theorem trodCons {H : Type} {enc : TypeId × Value → H} {P : Program} {W : World} {b : Nat} {sp : Nat → Bool} {held : Bool} {t : TypeId} {ts : List TypeId} {vs : List Value} {ds : List (DataW H)} {ps : List MemPlace} (h : DataW.TrodAll enc P W b sp held (t :: ts) vs ds ps) :
    ∃ v vs' d ds' p q, vs = v :: vs' ∧ ds = d :: ds' ∧ DataW.Trod enc P W b sp held t v d p ∧ DataW.TrodAll enc P W b sp held ts vs' ds' q := by
  match vs, ds, h with
  | v :: vs', d :: ds', h =>
    obtain ⟨p, q, h1, h2, _⟩ := h
    exact ⟨v, vs', d, ds', p, q, rfl, rfl, h1, h2⟩
  | [], _ :: _, h => exact h.elim
  | [], [], h => exact h.elim
  | _ :: _, [], h => exact h.elim
theorem trodNil {H : Type} {enc : TypeId × Value → H} {P : Program} {W : World} {b : Nat} {sp : Nat → Bool} {held : Bool} {vs : List Value} {ds : List (DataW H)} {ps : List MemPlace} (h : DataW.TrodAll enc P W b sp held [] vs ds ps) : vs = [] ∧ ds = [] := by
  match vs, ds, h with
  | [], [], _ => exact ⟨rfl, rfl⟩
  | [], _ :: _, h => exact h.elim
  | _ :: _, _, h => exact h.elim
end

def R64 (x : Int) : Prop := -9223372036854775808 ≤ x ∧ x ≤ 9223372036854775807
theorem r64_wrap (x : Int) : R64 (IntKind.i64.wrap x) := by
  rw [R64, IntKind.wrap_i64]; omega

/-- A loop that comes nearer its end each round. -/
theorem whl_inv {σ ρ : Type} {f : σ → Option (LR σ ρ)} (m : σ → Nat) (I : σ → Prop) (Q : ρ → Prop) (h : ∀ x, I x → ∃ y, f x = some y ∧ match y with | .next x' => I x' ∧ m x' < m x | .done r => Q r) :
    ∀ x, I x → ∃ r, whl f x = some r ∧ Q r := by
  intro x
  generalize hn : m x = n
  induction n using Nat.strongRecOn generalizing x with
  | ind n ih =>
    intro hi
    obtain ⟨y, h1, h2⟩ := h x hi
    rw [whl_eq, h1]
    cases y with
    | next x' =>
      subst hn
      exact ih _ h2.2 x' rfl h2.1
    | done r => exact ⟨r, rfl, h2⟩
theorem whl_to {σ ρ : Type} {f : σ → Option (LR σ ρ)} (m : σ → Nat) (I : σ → Prop) (r : ρ) (h : ∀ x, I x → ∃ y, f x = some y ∧ match y with | .next x' => I x' ∧ m x' < m x | .done r' => r' = r) (x : σ) (hx : I x) : whl f x = some r := by
  obtain ⟨r', h1, rfl⟩ := whl_inv m I (· = r) h x hx
  exact h1
/-- Two loops in step. -/
theorem whl2 {σ ρ : Type} {f g : σ → Option (LR σ ρ)} (m : σ → Nat) (I : σ → Prop) (Q : ρ → Prop) (h : ∀ x, I x → ∃ y, f x = some y ∧ g x = some y ∧ match y with | .next x' => I x' ∧ m x' < m x | .done r => Q r) :
    ∀ x, I x → ∃ r, whl f x = some r ∧ whl g x = some r ∧ Q r := by
  intro x
  generalize hn : m x = n
  induction n using Nat.strongRecOn generalizing x with
  | ind n ih =>
    intro hi
    obtain ⟨y, h1, h2, h3⟩ := h x hi
    rw [whl_eq f, h1, whl_eq g, h2]
    cases y with
    | next x' =>
      subst hn
      exact ih _ h3.2 x' rfl h3.1
    | done r => exact ⟨r, rfl, rfl, h3⟩
theorem idx_nat {α : Type} (l : List α) (k : Nat) : idx l (k : Int) = l[k]? := by
  simp [idx]
theorem idx_lt {α : Type} {l : List α} {k : Nat} (h : k < l.length) : idx l (k : Int) = some l[k] := by
  rw [idx_nat, List.getElem?_eq_getElem h]
theorem roomy_of {n b : Nat} (h : n ≤ 2 ^ 32) (hb : b ≤ 4096) : roomy n b = true := by
  have h1 : (n + 512) * b ≤ (2 ^ 32 + 512) * 4096 := Nat.mul_le_mul (by omega) hb
  simp only [roomy, Bool.and_eq_true, decide_eq_true_eq]
  constructor
  · omega
  · omega
theorem mkL_of {α : Type} {b : Nat} {n : Nat} {d : α} (h : n ≤ 2 ^ 32) (hb : b ≤ 4096) : mkL b (n : Int) d = some (List.replicate n d) := by
  have := roomy_of h hb
  simp only [mkL, Int.toNat_natCast, this, and_true, Int.natCast_nonneg, if_true]
theorem app_of {α : Type} {b : Nat} {l m : List α} (h : l.length + m.length ≤ 2 ^ 32) (hb : b ≤ 4096) : app b l m = some (l ++ m) := by
  simp only [app, roomy_of h hb, if_true]
/-- A list is copied, place by place. -/
theorem set_take {α : Type} (l : List α) (k : Nat) (h : k < l.length) (d : List α) (hd : d.length = l.length) : (l.take k ++ d.drop k).set k l[k] = l.take (k + 1) ++ d.drop (k + 1) := by
  apply List.ext_getElem?
  intro i
  rw [List.getElem?_set]
  by_cases hi : k = i
  · subst hi
    have hl : k < (l.take k ++ d.drop k).length := by simp; omega
    rw [if_pos rfl, if_pos hl, List.getElem?_append_left (by simp; omega), List.getElem?_take, if_pos (by omega), List.getElem?_eq_getElem h]
  · rw [if_neg hi]
    simp only [List.getElem?_append, List.length_take, List.getElem?_take, List.getElem?_drop]
    rcases Nat.lt_trichotomy i k with h1 | h1 | h1
    · rw [if_pos (by omega), if_pos h1, if_pos (by omega), if_pos (by omega)]
    · omega
    · rw [if_neg (by omega), if_neg (by omega)]
      congr 1
      omega
end Go.VS
