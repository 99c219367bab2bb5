/-
  FnKarn: what is drawn, and the law.
-/
import Derived.Test.YtkmcnmjjfgahpaaVyM
import Derived.Test.YtkmcnmjjfgahpaaVpK
open Go Go.VS
namespace Go.VxW

theorem drawAll_ok {l : List Int} (hl : l.length ≤ 1048576) (hb : ∀ x ∈ l, 0 ≤ x ∧ x ≤ 255) : ∃ n s, spec_DrawSeeAll l = some (n, s) ∧ s.length ≤ 61 := by
  unfold spec_DrawSeeAll
  obtain ⟨n, c, e1, _, h1⟩ := among_ok (l := [0, 1, 10, 10, 50, 1000, 1001]) (cur0 hl hb) (by omega) (by simp)
  rw [e1, Option.bind_some]
  obtain ⟨s, d, e2, h2, _⟩ := allSeen_ok h1 (by omega)
  simp only [e2]
  exact ⟨_, _, rfl, h2⟩
theorem drawRange_ok {l : List Int} (hl : l.length ≤ 1048576) (hb : ∀ x ∈ l, 0 ≤ x ∧ x ≤ 255) : ∃ s, spec_DrawRangeOf l = some s ∧ s.length ≤ 61 := by
  unfold spec_DrawRangeOf
  obtain ⟨s, d, e2, h2, _⟩ := allSeen_ok (cur0 hl hb) (by omega)
  rw [e2]
  exact ⟨_, rfl, h2⟩
theorem few_ok {l : List Seen} (hl : l.length ≤ 61) : whl (laws_FnKarn_l0 l) ([], 0) = some (l.filter movesB) := by
  rw [whl_lgo l (laws_FnKarn_l0 l) (fun k (s : List Seen) => (s, k)) (fun _ x s => .next (if movesB x then s ++ [x] else s)) (fun s => s) (fun k s => s.length ≤ k) (fun k hk s hi => by
      simp only [laws_FnKarn_l0, Int.ofNat_lt, hk, decide_true, cond_true, idx_lt, Option.bind_some]
      have e : l[k].Took = l[k].Took := rfl
      rw [w64 (by omega), app_of (by simp; omega) (by omega)]
      unfold movesB
      cases l[k].Twice <;> cases l[k].Lost <;> simp [LR.mapN] <;> omega) (fun s _ => by simp [laws_FnKarn_l0]) [] (by simp), lgo_fold (fun s x => if movesB x then s ++ [x] else s) (fun _ _ _ => rfl)]
  congr 1
  have : ∀ (l s : List Seen), l.foldl (fun s x => if movesB x then s ++ [x] else s) s = s ++ l.filter movesB := by
    intro l
    induction l with
    | nil => simp
    | cons x xs ih =>
      intro s
      simp only [List.foldl_cons, ih, List.filter_cons]
      cases movesB x <;> simp
  simpa using this l []
theorem pureKarn (a b : List Int) (ha : a.length < 2 ^ 47) (hb : b.length < 2 ^ 47) (ka : ∀ x ∈ a, 0 ≤ x ∧ x ≤ 255) (kb : ∀ x ∈ b, 0 ≤ x ∧ x ≤ 255) : laws_FnKarn a b = some true := by
  unfold laws_FnKarn
  rw [w64 (by omega)]
  by_cases h : (1048576 : Int) < (a.length : Int) + (b.length : Int)
  · rw [show decide ((1048576 : Int) < (a.length : Int) + (b.length : Int)) = true by simpa using h]; rfl
  · rw [show decide ((1048576 : Int) < (a.length : Int) + (b.length : Int)) = false by simpa using h]
    simp only [cond_false]
    obtain ⟨n, l, e1, hl⟩ := drawAll_ok (l := a) (by omega) ka
    obtain ⟨x, e2, hx⟩ := drawRange_ok (l := b) (by omega) kb
    rw [e1, Option.bind_some]
    simp only [iSeeAll n (l := l) (by omega), sSeeAll n (l := l) (by omega), iRange (l := l) (by omega), iRange (l := x) (by omega), sRange (l := x) (by omega), e2, few_ok hl, Option.bind_some, beq_self_eq_true, Bool.not_true, cond_false, Bool.and_self, cond_true,
      iSeeAll n (l := l.filter movesB) (by have := List.length_filter_le movesB l; omega), iGood]
    have last : (bif (!(if allSeen x = true then rangeF x else (0, 0, false)).2.2) then some true else some (decide ((if allSeen x = true then rangeF x else (0, 0, false)).1 ≤ (if allSeen x = true then rangeF x else (0, 0, false)).2.1))) = some true := by
      cases hs : allSeen x
      · rfl
      · simp only [if_true]
        have hs' : x.all seenB = true := by unfold allSeen at hs; simp only [Bool.and_eq_true] at hs; exact hs.1
        have := range_in x hs' (0, 0, false) (by simp)
        unfold rangeF
        cases hr : (x.foldl rgF (0, 0, false)).2.2
        · rfl
        · have := this hr
          simp only [Bool.not_true, cond_false]
          congr 1; simp; omega
    cases hok : allOk n l
    · simp only [cond_false, Option.bind_some]
      exact last
    · unfold allOk at hok
      simp only [Bool.and_eq_true] at hok
      have hn := inB_iff.1 hok.1
      have hs := hok.2
      have hs' : l.all seenB = true := by unfold allSeen at hs; simp only [Bool.and_eq_true] at hs; exact hs.1
      have hlen : l.length ≤ 60 := by unfold allSeen at hs; simp only [Bool.and_eq_true] at hs; simpa using hs.2
      have hg0 : goodB ⟨8 * n, 2 * n, 1, 0⟩ = true := goodB_iff.2 ⟨by simp only; omega, by simp only; omega, by simp, by simp⟩
      have hf : allOk n (l.filter movesB) = true := by
        unfold allOk allSeen
        have h1 := List.length_filter_le movesB l
        simp only [Bool.and_eq_true, decide_eq_true_eq, List.all_eq_true] at hs' ⊢
        exact ⟨hok.1, fun y hy => hs' y (List.mem_filter.1 hy).1, by omega⟩
      simp only [cond_true, hs, if_true, hf, Bool.not_true, cond_false]
      obtain ⟨m1, m2⟩ := few_alike l ⟨8 * n, 2 * n, 1, 0⟩ ⟨8 * n, 2 * n, 1, 0⟩ rfl rfl
      rw [show (seeAllF n (l.filter movesB)).Mean = (seeAllF n l).Mean from m1, show (seeAllF n (l.filter movesB)).Swing = (seeAllF n l).Swing from m2]
      obtain ⟨r1, r2⟩ := range_ok l (0, 0, false)
      have r3 := range_in l hs' (0, 0, false) (by simp)
      unfold rangeF at *
      generalize hr : l.foldl rgF (0, 0, false) = r at *
      obtain ⟨lo, hi, is⟩ := r
      simp only at r1 r2 r3
      have hmean : ∀ lo' hi' : Int, 0 ≤ lo' → hi' ≤ 1000 → lo' ≤ n → n ≤ hi' → (is = true → lo' ≤ lo ∧ hi ≤ hi') → goodB (seeAllF n l) = true ∧ 8 * lo' ≤ (seeAllF n l).Mean ∧ (seeAllF n l).Mean ≤ 8 * hi' + 7 := by
        intro lo' hi' q1 q2 q3 q4 q5
        refine mean_in l ⟨8 * n, 2 * n, 1, 0⟩ lo' hi' q1 q2 hs' hg0 (by simp only; omega) (by simp only; omega) (fun y hy h1 h2 => ?_)
        have hm : movesB y = true := by unfold movesB; simp [h1, h2]
        cases is with
        | false => have := (r1 rfl).2 y hy; rw [hm] at this; simp at this
        | true =>
          have h3 := (r2 rfl).2 y hy hm
          have h4 := q5 rfl
          omega
      have e3 : ∀ p : Bool × Int × Int, p = p := fun _ => rfl
      cases is
      · simp only [Bool.not_false, cond_true, Option.bind_some, Int.lt_irrefl, decide_false, cond_false]
        obtain ⟨g1, g2, g3⟩ := hmean n n (by omega) (by omega) (by omega) (by omega) (by simp)
        rw [w64 (x := 8 * n) (by omega), w64 (x := 8 * n + 7) (by omega), show decide ((seeAllF n l).Mean < 8 * n) = false by simp; omega, show decide (8 * n + 7 < (seeAllF n l).Mean) = false by simp; omega]
        simp only [cond_false, g1, Bool.not_true, Option.bind_some, bne_self_eq_false]
        exact last
      · have r3 := r3 rfl
        simp only [Bool.not_true, cond_false, Option.bind_some]
        have e4 : (bif decide (n < lo) then some n else some lo) = some (if n < lo then n else lo) := by
          by_cases h : n < lo <;> simp [h]
        have e5 : (bif decide (hi < n) then some n else some hi) = some (if hi < n then n else hi) := by
          by_cases h : hi < n <;> simp [h]
        rw [e4, e5]
        simp only [Option.bind_some]
        obtain ⟨g1, g2, g3⟩ := hmean (if n < lo then n else lo) (if hi < n then n else hi) (by split <;> omega) (by split <;> omega) (by split <;> omega) (by split <;> omega) (fun _ => by constructor <;> split <;> omega)
        have b1 : 0 ≤ (if n < lo then n else lo) ∧ (if n < lo then n else lo) ≤ 1000 := by split <;> omega
        have b2 : 0 ≤ (if hi < n then n else hi) ∧ (if hi < n then n else hi) ≤ 1000 := by split <;> omega
        generalize (if n < lo then n else lo) = lo' at *
        generalize (if hi < n then n else hi) = hi' at *
        rw [w64 (x := 8 * lo') (by omega), w64 (x := 8 * hi') (by omega), w64 (x := 8 * hi' + 7) (by omega), show decide ((seeAllF n l).Mean < 8 * lo') = false by simp; omega, show decide (8 * hi' + 7 < (seeAllF n l).Mean) = false by simp; omega]
        simp only [cond_false, g1, Bool.not_true, Option.bind_some, bne_self_eq_false]
        exact last
end Go.VxW
