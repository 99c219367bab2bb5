/-
  FnGuesses: the law itself.
-/
import Derived.Test.YtkmcnmjjfgahpaaVyM
open Go Go.VS
namespace Go.VxW

def seeG (g : Guess) (s : Seen) : Guess := bif goodB g && seenB s then seeF g s else ⟨0, 0, 0, 0⟩
theorem iSeeG (g : Guess) (s : Seen) : impl_SeeGuess g s = some (seeG g s, goodB g && seenB s) := by
  unfold impl_SeeGuess seeG
  rw [iGood, iSeen, iSee]
  cases goodB g <;> cases seenB s <;> rfl
theorem sSeeG (g : Guess) (s : Seen) : spec_SeeGuess g s = some (seeG g s, goodB g && seenB s) := by
  unfold spec_SeeGuess seeG
  rw [sGood, sSeen, sSee]
  cases goodB g <;> cases seenB s <;> rfl
theorem newB (n : Int) : impl_NewGuess n = spec_NewGuess n := by
  unfold impl_NewGuess spec_NewGuess
  rw [iIn, sIn]

theorem wait_lost {g : Guess} {s : Seen} (h : goodB g = true) (hl : s.Lost = true) : waitF g ≤ waitF (seeF g s) ∧ (g.Back < 6 → waitF (seeF g s) = 2 * waitF g ∨ waitF (seeF g s) = 400) := by
  obtain ⟨h1, h2, h3, h4⟩ := goodB_iff.1 h
  obtain ⟨_, e2, e3⟩ := mid_ok h
  have hp := pF_ok ⟨e2, e3⟩
  have hs : seeF g s = ⟨g.Mean, g.Swing, g.Many, leastF 6 (g.Back + 1)⟩ := by
    unfold seeF; rw [if_pos hl, w64 (by omega)]
  rw [hs]
  unfold waitF
  simp only
  generalize pF (g.Mean / 8 + g.Swing) = m at *
  by_cases hb : g.Back = 6
  · have : leastF 6 (g.Back + 1) = 6 := by rw [hb]; rfl
    rw [this, hb]
    exact ⟨Int.le_refl _, by omega⟩
  · have hl2 : leastF 6 (g.Back + 1) = g.Back + 1 := by
      rcases least_iff 6 (g.Back + 1) with ⟨a, b⟩ | ⟨a, b⟩
      · omega
      · exact a
    rw [hl2, show (g.Back + 1).toNat = g.Back.toNat + 1 by omega, Int.pow_succ]
    have hq := (two_pow h4).1
    have : 0 ≤ m * 2 ^ g.Back.toNat := Int.mul_nonneg (by omega) (by omega)
    rw [← Int.mul_assoc]
    generalize m * 2 ^ g.Back.toNat = x at *
    rcases least_iff 400 (x * 2) with ⟨a, b⟩ | ⟨a, b⟩ <;> rcases least_iff 400 x with ⟨c, d⟩ | ⟨c, d⟩ <;> omega

theorem pureGuesses (a b : List Int) (ha : a.length < 2 ^ 47) (hb : b.length < 2 ^ 47) (ka : ∀ x ∈ a, 0 ≤ x ∧ x ≤ 255) (kb : ∀ x ∈ b, 0 ≤ x ∧ x ≤ 255) : laws_FnGuesses a b = some true := by
  unfold laws_FnGuesses
  rw [w64 (by omega)]
  by_cases h : (1048576 : Int) < (a.length : Int) + (b.length : Int)
  · rw [show decide ((1048576 : Int) < (a.length : Int) + (b.length : Int)) = true by simpa using h]; rfl
  · rw [show decide ((1048576 : Int) < (a.length : Int) + (b.length : Int)) = false by simpa using h]
    simp only [cond_false]
    obtain ⟨g, s, e1⟩ := drawSee_ok (l := a) (by omega) ka
    obtain ⟨n, e2⟩ := drawNew_ok (l := b) (by omega) kb
    rw [e1, Option.bind_some]
    simp only
    rw [iSeeG, sSeeG, iWait, sWait, iGood, e2]
    simp only [Option.bind_some, beq_self_eq_true, Bool.not_true, cond_false, Bool.and_self, bne_self_eq_false]
    have last : ((impl_NewGuess n).bind fun (b76, b77) => (spec_NewGuess n).bind fun (b82, b83) => ((bif (!(b77 == b83)) then some (true) else some ((!((b76.Mean == b82.Mean) && ((b76.Swing == b82.Swing) && ((b76.Many == b82.Many) && ((b76.Back == b82.Back) && true)))))))).bind fun x88 => (bif x88 then some false else (bif (!b77) then some true else (impl_GoodGuess b76).bind fun b95 => some b95))) = some true := by
      rw [newB]
      unfold spec_NewGuess
      rw [sIn]
      cases hn : inB n 1 1000
      · rfl
      · have := inB_iff.1 hn
        simp only [Option.bind_some, Bool.not_true, cond_false, beq_self_eq_true, Bool.and_self]
        rw [iGood, w64 (x := 8 * n) (by omega), w64 (x := 2 * n) (by omega), Option.bind_some, goodB_iff.2 ⟨by simp only; omega, by simp only; omega, by simp, by simp⟩]
    cases hok : (goodB g && seenB s)
    · simp only [cond_false, Option.bind_some]
      exact last
    · simp only [Bool.and_eq_true] at hok
      have hg : goodB (seeG g s) = true := by
        unfold seeG; rw [hok.1, hok.2]; exact see_good hok.1 hok.2
      have hw := wait_ok hg
      simp only [cond_true]
      rw [iWait, iGood, hg, hok.1]
      simp only [Option.bind_some, if_true, Bool.not_true, cond_false]
      rw [show decide (waitF (seeG g s) < 4) = false by simp; omega, show decide (400 < waitF (seeG g s)) = false by simp; omega]
      simp only [cond_false, Option.bind_some]
      cases hl : s.Lost
      · simp only [cond_false, Option.bind_some]
        exact last
      · obtain ⟨w1, w2⟩ := wait_lost (s := s) hok.1 hl
        have es : seeG g s = seeF g s := by unfold seeG; rw [hok.1, hok.2]; rfl
        have hw0 := wait_ok hok.1
        rw [es] at hw ⊢
        simp only [cond_true]
        rw [show decide (waitF (seeF g s) < waitF g) = false by simp; omega]
        simp only [cond_false]
        by_cases h6 : g.Back < 6
        · rw [show decide (g.Back < 6) = true by simpa using h6, w64 (x := 2 * waitF g) (by omega)]
          simp only [cond_true]
          rcases w2 h6 with e | e
          · rw [show (waitF (seeF g s) != 2 * waitF g) = false by simp [e]]
            simp only [cond_false, Option.bind_some]
            exact last
          · rw [show (waitF (seeF g s) != 400) = false by simp [e]]
            cases (waitF (seeF g s) != 2 * waitF g)
            · simp only [cond_false, Option.bind_some]; exact last
            · simp only [cond_true, cond_false, Option.bind_some]; exact last
        · rw [show decide (g.Back < 6) = false by simpa using h6]
          simp only [cond_false, Option.bind_some]
          exact last
end Go.VxW
