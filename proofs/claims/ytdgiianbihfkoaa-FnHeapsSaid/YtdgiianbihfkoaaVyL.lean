/-
  FnGuesses: what is seen moves a guess alike on both sides, and a guess stays good.
-/
import Derived.Test.YtdgiianbihfkoaaVyC
open Go Go.VS
namespace Go.VxW

/-! plain words -/
def inB (n a b : Int) : Bool := decide (a ≤ n) && decide (n ≤ b)
theorem sIn (n a b : Int) : spec_l1In n a b = some (inB n a b) := by
  unfold spec_l1In inB; cases decide (a ≤ n) <;> rfl
theorem iIn (n a b : Int) : impl_in n a b = some (inB n a b) := by
  unfold impl_in inB; cases decide (a ≤ n) <;> rfl
theorem inB_iff {n a b : Int} : inB n a b = true ↔ a ≤ n ∧ n ≤ b := by simp [inB]
def leastF (a b : Int) : Int := if a < b then a else b
theorem sLeast (a b : Int) : spec_l1Least a b = some (leastF a b) := by
  unfold spec_l1Least leastF
  by_cases h : a < b
  · rw [show decide (a < b) = true by simpa using h, if_pos h]; rfl
  · rw [show decide (a < b) = false by simpa using h, if_neg h]; rfl
def dF (g : Guess) (s : Seen) : Int := IntKind.i64.wrap (s.Took - IntKind.i64.wrap (Int.tdiv g.Mean 8))
def absF (d : Int) : Int := if d < 0 then IntKind.i64.wrap (0 - d) else d
def seeF (g : Guess) (s : Seen) : Guess :=
  if s.Lost then ⟨g.Mean, g.Swing, g.Many, leastF 6 (IntKind.i64.wrap (g.Back + 1))⟩
  else if s.Twice then ⟨g.Mean, g.Swing, leastF 1000 (IntKind.i64.wrap (g.Many + 1)), g.Back⟩
  else ⟨IntKind.i64.wrap (g.Mean + dF g s), IntKind.i64.wrap (g.Swing + IntKind.i64.wrap (absF (dF g s) - IntKind.i64.wrap (Int.tdiv g.Swing 4))), leastF 1000 (IntKind.i64.wrap (g.Many + 1)), 0⟩
theorem sSee (g : Guess) (s : Seen) : spec_l9See g s = some (seeF g s) := by
  unfold spec_l9See seeF
  rw [sLeast, sLeast]
  cases s.Lost
  · cases s.Twice
    · simp only [cond_false, Option.bind_some, Bool.false_eq_true, if_false]
      have e : (bif (decide ((IntKind.i64.wrap (s.Took - (IntKind.i64.wrap (Int.tdiv g.Mean 8)))) < 0)) then some ((IntKind.i64.wrap (0 - (IntKind.i64.wrap (s.Took - (IntKind.i64.wrap (Int.tdiv g.Mean 8))))))) else some ((IntKind.i64.wrap (s.Took - (IntKind.i64.wrap (Int.tdiv g.Mean 8)))))) = some (absF (dF g s)) := by
        unfold absF dF
        by_cases h : IntKind.i64.wrap (s.Took - (IntKind.i64.wrap (Int.tdiv g.Mean 8))) < 0
        · rw [if_pos h, show decide (_ < (0 : Int)) = true by simpa using h]; rfl
        · rw [if_neg h, show decide (_ < (0 : Int)) = false by simpa using h]; rfl
      rw [e]
      rfl
    · rfl
  · rfl
theorem abs_eq {d : Int} (h : R64 d) : (if IntKind.i64.wrap (0 - d) > d then IntKind.i64.wrap (0 - d) else d) = absF d := by
  unfold absF
  unfold R64 at h
  by_cases hm : d = -9223372036854775808
  · subst hm
    decide
  · rw [w64 (x := 0 - d) (by omega)]
    by_cases h0 : d < 0
    · rw [if_pos (by omega), if_pos h0]
    · rw [if_neg (by omega), if_neg h0]
theorem iSee (g : Guess) (s : Seen) : impl_Guess_see g s = some (seeF g s) := by
  unfold impl_Guess_see seeF
  cases s.Lost
  · cases s.Twice
    · simp only [cond_false, Bool.false_eq_true, if_false]
      rw [abs_eq (r64_wrap _)]
      rfl
    · rfl
  · rfl
def seenB (s : Seen) : Bool := inB s.Took 0 1000 && (!s.Lost || (s.Took == 0 && !s.Twice))
theorem sSeen (s : Seen) : spec_l9Seen s = some (seenB s) := by
  unfold spec_l9Seen seenB
  rw [sIn]
  cases inB s.Took 0 1000 <;> cases s.Lost <;> cases (s.Took == 0) <;> cases s.Twice <;> rfl
theorem iSeen (s : Seen) : impl_isSeen s = some (seenB s) := by
  unfold impl_isSeen seenB
  rw [iIn]
  cases h : inB s.Took 0 1000
  · rfl
  · have := inB_iff.1 h
    have e : (!(decide (0 < s.Took))) = (s.Took == 0) := by
      by_cases h0 : s.Took = 0
      · simp [h0]
      · rw [show decide (0 < s.Took) = true by simp <;> omega]; simp [h0]
    cases s.Lost <;> cases s.Twice <;> simp [e]
def goodB (g : Guess) : Bool := inB g.Mean 0 8000 && (inB g.Swing 0 4000 && (inB g.Many 0 1000 && inB g.Back 0 6))
theorem iGood (g : Guess) : impl_GoodGuess g = some (goodB g) := by
  unfold impl_GoodGuess goodB
  rw [iIn, iIn, iIn, iIn]
  cases inB g.Mean 0 8000 <;> cases inB g.Swing 0 4000 <;> cases inB g.Many 0 1000 <;> cases inB g.Back 0 6 <;> rfl
theorem sGood (g : Guess) : spec_GoodGuess g = some (goodB g) := by
  unfold spec_GoodGuess goodB
  rw [sIn, sIn, sIn, sIn]
  cases inB g.Mean 0 8000 <;> cases inB g.Swing 0 4000 <;> cases inB g.Many 0 1000 <;> cases inB g.Back 0 6 <;> rfl
theorem goodB_iff {g : Guess} : goodB g = true ↔ (0 ≤ g.Mean ∧ g.Mean ≤ 8000) ∧ (0 ≤ g.Swing ∧ g.Swing ≤ 4000) ∧ (0 ≤ g.Many ∧ g.Many ≤ 1000) ∧ (0 ≤ g.Back ∧ g.Back ≤ 6) := by
  simp [goodB, inB]

def pF (m : Int) : Int := if m < 4 then 4 else m
def waitF (g : Guess) : Int := leastF 400 (pF (g.Mean / 8 + g.Swing) * 2 ^ g.Back.toNat)
theorem two_pow {b : Int} (hb : 0 ≤ b ∧ b ≤ 6) : 1 ≤ (2 : Int) ^ b.toNat ∧ (2 : Int) ^ b.toNat ≤ 64 := by
  have hc : b = 0 ∨ b = 1 ∨ b = 2 ∨ b = 3 ∨ b = 4 ∨ b = 5 ∨ b = 6 := by omega
  rcases hc with rfl | rfl | rfl | rfl | rfl | rfl | rfl <;> decide
theorem sl_ok {a b : Int} (ha : 0 ≤ a ∧ a ≤ 5000) (hb : 0 ≤ b ∧ b ≤ 6) : sl .i64 a b = some (a * 2 ^ b.toNat) := by
  unfold sl
  rw [if_neg (by omega)]
  have e : min b.toNat IntKind.i64.bits = b.toNat := Nat.min_eq_left (by show b.toNat ≤ 64; omega)
  obtain ⟨p1, p2⟩ := two_pow hb
  have h1 : 0 ≤ a * 2 ^ b.toNat := Int.mul_nonneg ha.1 (by omega)
  have h2 : a * 2 ^ b.toNat ≤ 5000 * 64 := Int.mul_le_mul ha.2 p2 (by omega) (by omega)
  rw [e, w64 (by omega)]
theorem mid_ok {g : Guess} (h : goodB g = true) : IntKind.i64.wrap (IntKind.i64.wrap (Int.tdiv g.Mean 8) + g.Swing) = g.Mean / 8 + g.Swing ∧ 0 ≤ g.Mean / 8 + g.Swing ∧ g.Mean / 8 + g.Swing ≤ 5000 := by
  obtain ⟨h1, h2, h3, h4⟩ := goodB_iff.1 h
  have e : Int.tdiv g.Mean 8 = g.Mean / 8 := Int.tdiv_eq_ediv_of_nonneg h1.1
  rw [e, w64 (x := g.Mean / 8) (by omega), w64 (by omega)]
  omega
theorem pF_ok {m : Int} (h : 0 ≤ m ∧ m ≤ 5000) : 4 ≤ pF m ∧ pF m ≤ 5000 := by
  unfold pF; split <;> omega
theorem iWait (g : Guess) : impl_WaitOf g = some (if goodB g = true then waitF g else 0, goodB g) := by
  unfold impl_WaitOf
  rw [iGood]
  cases h : goodB g
  · rfl
  · obtain ⟨h1, h2, h3, h4⟩ := goodB_iff.1 h
    obtain ⟨e1, e2, e3⟩ := mid_ok h
    simp only [Option.bind_some, Bool.not_true, cond_false]
    rw [e1, show (if 4 > g.Mean / 8 + g.Swing then 4 else g.Mean / 8 + g.Swing) = pF (g.Mean / 8 + g.Swing) from rfl, sl_ok (by have := pF_ok ⟨e2, e3⟩; omega) h4]
    rfl
theorem sWait (g : Guess) : spec_WaitOf g = some (if goodB g = true then waitF g else 0, goodB g) := by
  unfold spec_WaitOf
  rw [sGood]
  cases h : goodB g
  · rfl
  · obtain ⟨h1, h2, h3, h4⟩ := goodB_iff.1 h
    obtain ⟨e1, e2, e3⟩ := mid_ok h
    simp only [Option.bind_some, Bool.not_true, cond_false]
    unfold spec_l9Wait spec_l1Most
    have e : (bif decide (g.Mean / 8 + g.Swing < 4) then some (4 : Int) else some (g.Mean / 8 + g.Swing)) = some (pF (g.Mean / 8 + g.Swing)) := by
      unfold pF
      by_cases hc : g.Mean / 8 + g.Swing < 4
      · rw [if_pos hc, show decide (g.Mean / 8 + g.Swing < 4) = true by simpa using hc]; rfl
      · rw [if_neg hc, show decide (g.Mean / 8 + g.Swing < 4) = false by simpa using hc]; rfl
    rw [e1, e, IntWalk.u64_in _ (by omega), Option.bind_some, sl_ok (by have := pF_ok ⟨e2, e3⟩; omega) h4, Option.bind_some, sLeast]
    rfl
theorem least_iff (a b : Int) : (leastF a b = a ∧ a ≤ b) ∨ (leastF a b = b ∧ b ≤ a) := by
  unfold leastF; split
  · exact .inl ⟨rfl, by omega⟩
  · exact .inr ⟨rfl, by omega⟩
theorem wait_ok {g : Guess} (h : goodB g = true) : 4 ≤ waitF g ∧ waitF g ≤ 400 := by
  obtain ⟨h1, h2, h3, h4⟩ := goodB_iff.1 h
  obtain ⟨_, e2, e3⟩ := mid_ok h
  have hp := pF_ok ⟨e2, e3⟩
  have h2 := (two_pow h4).1
  have : 4 ≤ pF (g.Mean / 8 + g.Swing) * 2 ^ g.Back.toNat := by
    calc (4 : Int) = 4 * 1 := by rfl
      _ ≤ pF (g.Mean / 8 + g.Swing) * 2 ^ g.Back.toNat := Int.mul_le_mul hp.1 h2 (by omega) (by omega)
  unfold waitF
  rcases least_iff 400 (pF (g.Mean / 8 + g.Swing) * 2 ^ g.Back.toNat) with ⟨a, b⟩ | ⟨a, b⟩ <;> omega

theorem see_good {g : Guess} {s : Seen} (h : goodB g = true) (hs : seenB s = true) : goodB (seeF g s) = true := by
  obtain ⟨h1, h2, h3, h4⟩ := goodB_iff.1 h
  have ht : 0 ≤ s.Took ∧ s.Took ≤ 1000 := by
    unfold seenB at hs
    exact inB_iff.1 (by revert hs; cases inB s.Took 0 1000 <;> simp)
  rw [goodB_iff]
  unfold seeF
  have e : Int.tdiv g.Mean 8 = g.Mean / 8 := Int.tdiv_eq_ediv_of_nonneg h1.1
  have e2 : Int.tdiv g.Swing 4 = g.Swing / 4 := Int.tdiv_eq_ediv_of_nonneg h2.1
  have hb := least_iff 6 (IntKind.i64.wrap (g.Back + 1))
  have hm := least_iff 1000 (IntKind.i64.wrap (g.Many + 1))
  rw [w64 (x := g.Back + 1) (by omega)] at hb
  rw [w64 (x := g.Many + 1) (by omega)] at hm
  split
  · simp only; rw [w64 (x := g.Back + 1) (by omega)]; omega
  · split
    · simp only; rw [w64 (x := g.Many + 1) (by omega)]; omega
    · have hd : dF g s = s.Took - g.Mean / 8 := by
        unfold dF; rw [e, w64 (x := g.Mean / 8) (by omega), w64 (by omega)]
      have ha : absF (dF g s) = if s.Took - g.Mean / 8 < 0 then g.Mean / 8 - s.Took else s.Took - g.Mean / 8 := by
        unfold absF; rw [hd]
        split
        · rw [w64 (by omega)]; omega
        · rfl
      simp only
      rw [w64 (x := g.Many + 1) (by omega), hd, ← hd, ha, hd, e2, w64 (x := g.Swing / 4) (by omega), w64 (x := g.Mean + (s.Took - g.Mean / 8)) (by omega)]
      split
      · rw [w64 (x := g.Mean / 8 - s.Took - g.Swing / 4) (by omega), w64 (by omega)]; omega
      · rw [w64 (x := s.Took - g.Mean / 8 - g.Swing / 4) (by omega), w64 (by omega)]; omega
end Go.VxW
