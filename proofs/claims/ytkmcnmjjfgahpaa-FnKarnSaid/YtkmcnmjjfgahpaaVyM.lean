/-
  FnGuesses: what is drawn, and the law.
-/
import Derived.Test.YtkmcnmjjfgahpaaVyL
open Go Go.VS
namespace Go.VxW

theorem seen_ok {c : L1Cur} {b : Int} (h : Cur c b) (hb : b ≤ 3000000000000000000) : ∃ x d, spec_l1Cur_seen c = some (x, d) ∧ Cur d (b + 6) := by
  unfold spec_l1Cur_seen
  obtain ⟨x1, c1, e1, _, h1⟩ := pick_ok (n := 8) h (by omega)
  rw [e1, Option.bind_some]
  simp only
  cases (x1 == 0)
  · simp only [cond_false]
    cases (x1 == 1)
    · simp only [cond_false]
      obtain ⟨x2, c2, e2, _, h2⟩ := pick_ok (n := 9) h1 (by omega)
      rw [e2, Option.bind_some]
      simp only
      obtain ⟨x3, c3, e3, _, h3⟩ := among_ok (l := [0, 5, 10, 11, 12, 20, 100, 1000, (IntKind.i64.wrap (1000 + (IntKind.i64.wrap (Int.tdiv x2 8))))]) h2 (by omega) (by simp)
      rw [e3]
      exact ⟨_, _, rfl, h3.mono (by omega)⟩
    · simp only [cond_true]
      obtain ⟨x2, c2, e2, _, h2⟩ := pick_ok (n := 100) h1 (by omega)
      rw [e2]
      exact ⟨_, _, rfl, h2.mono (by omega)⟩
  · simp only [cond_true]
    obtain ⟨x2, c2, e2, _, h2⟩ := pick_ok (n := 9) h1 (by omega)
    rw [e2, Option.bind_some]
    simp only
    obtain ⟨x3, c3, e3, h3⟩ := one_ok (n := 30) h2 (by omega)
    rw [e3]
    exact ⟨_, _, rfl, h3.mono (by omega)⟩

theorem allSeen_ok {c : L1Cur} {b : Int} (h : Cur c b) (hb : b ≤ 2000000000000000000) : ∃ x d, spec_l1Cur_allSeen c = some (x, d) ∧ x.length ≤ 61 ∧ Cur d (b + 400) := by
  unfold spec_l1Cur_allSeen
  obtain ⟨x1, c1, e1, g1, h1⟩ := pick_ok (n := 14) h (by omega)
  rw [e1, Option.bind_some]
  simp only
  obtain ⟨x2, c2, e2, h2⟩ := one_ok (n := 20) h1 (by omega)
  rw [e2, Option.bind_some]
  simp only
  have e : ∃ k c3, ((bif x2 then (spec_l1Cur_pick c2 3).bind fun (b21, b22) => some ((IntKind.i64.wrap (59 + b21)), b22.Code, b22.At, b22.Seed) else some (x1, c2.Code, c2.At, c2.Seed)) : Option (Int × List Int × Int × Int)) = some (k, c3.Code, c3.At, c3.Seed) ∧ (0 ≤ k ∧ k ≤ 61) ∧ Cur c3 (b + 6) := by
    cases x2
    · exact ⟨x1, c2, rfl, ⟨g1.1, by have := g1.2 (by omega); omega⟩, h2.mono (by omega)⟩
    · simp only [cond_true]
      obtain ⟨x3, c3, e3, g3, h3⟩ := pick_ok (n := 3) h2 (by omega)
      have := g3.2 (by omega)
      rw [e3, Option.bind_some]
      simp only
      rw [w64 (by omega)]
      exact ⟨_, c3, rfl, ⟨by omega, by omega⟩, h3.mono (by omega)⟩
  obtain ⟨k, c3, e3, hk, h3⟩ := e
  rw [e3, Option.bind_some]
  simp only
  obtain ⟨r, q1, q2⟩ := whl_inv (f := spec_l1Cur_allSeen_l0) (fun x => x.2.1.toNat) (fun x => (0 ≤ x.2.1 ∧ x.2.1 ≤ 61) ∧ x.1.length + x.2.1 ≤ 61 ∧ Cur ⟨x.2.2.1, x.2.2.2.1, x.2.2.2.2⟩ (b + 6 + 6 * (61 - x.2.1)))
    (fun r => r.1.length ≤ 61 ∧ Cur ⟨r.2.1, r.2.2.1, r.2.2.2⟩ (b + 400)) (by
      rintro ⟨l, k, co, at_, sd⟩ ⟨k1, k2, k3⟩
      simp only at k1 k2 k3
      simp only [spec_l1Cur_allSeen_l0]
      by_cases hp : 0 < k
      · rw [show decide (0 < k) = true by simpa using hp]
        simp only [cond_true]
        obtain ⟨y, d, f1, f2⟩ := seen_ok k3 (by omega)
        rw [f1, Option.bind_some]
        simp only
        rw [app_of (by simp; omega) (by omega), Option.bind_some, w64 (by omega)]
        refine ⟨_, rfl, ⟨⟨by simp only; omega, by simp only; omega⟩, by simp; omega, ?_⟩, by simp only; omega⟩
        exact f2.mono (by simp only; omega)
      · rw [show decide (0 < k) = false by simpa using hp]
        exact ⟨_, rfl, by simp only; omega, k3.mono (by omega)⟩) ([], k, c3.Code, c3.At, c3.Seed) ⟨hk, by simp; omega, h3.mono (by simp only; omega)⟩
  rw [q1, Option.bind_some]
  exact ⟨_, _, rfl, q2.1, q2.2⟩

theorem seeAll_ok (n : Int) {l : List Seen} (hl : l.length ≤ 61) : ∃ x, spec_SeeAll n l = some x := by
  unfold spec_SeeAll spec_NewGuess
  rw [sIn]
  simp only [Option.bind_some]
  cases inB n 1 1000
  · exact ⟨_, rfl⟩
  · simp only [Bool.not_true, cond_false, Option.bind_some]
    cases decide (60 < (l.length : Int))
    · simp only [cond_false]
      obtain ⟨r, q1, _⟩ := whl_inv (f := spec_SeeAll_l0 l) (fun x => l.length - x.1.toNat) (fun x => 0 ≤ x.1 ∧ x.1 ≤ l.length) (fun _ => True) (by
        rintro ⟨i, a1, a2, a3, a4⟩ ⟨k1, k2⟩
        simp only at k1 k2
        simp only [spec_SeeAll_l0]
        obtain ⟨m, rfl⟩ := Int.eq_ofNat_of_zero_le k1
        by_cases hi : m < l.length
        · rw [show decide ((m : Int) < (l.length : Int)) = true by simpa using hi, idx_lt hi]
          simp only [cond_true, Option.bind_some]
          rw [sSeen, Option.bind_some, w64 (by omega)]
          cases seenB l[m]
          · exact ⟨_, rfl, trivial⟩
          · simp only [Bool.not_true, cond_false]
            rw [sSee, Option.bind_some]
            exact ⟨_, rfl, ⟨by simp only; omega, by simp only; omega⟩, by simp only; omega⟩
        · rw [show decide ((m : Int) < (l.length : Int)) = false by simpa using hi]
          exact ⟨_, rfl, trivial⟩) (0, (⟨(IntKind.i64.wrap (8 * n)), (IntKind.i64.wrap (2 * n)), 1, 0⟩ : Guess).Mean, (⟨(IntKind.i64.wrap (8 * n)), (IntKind.i64.wrap (2 * n)), 1, 0⟩ : Guess).Swing, (⟨(IntKind.i64.wrap (8 * n)), (IntKind.i64.wrap (2 * n)), 1, 0⟩ : Guess).Many, (⟨(IntKind.i64.wrap (8 * n)), (IntKind.i64.wrap (2 * n)), 1, 0⟩ : Guess).Back) ⟨by simp, by simp⟩
      rw [q1, Option.bind_some]
      cases r with
      | next x => exact ⟨_, rfl⟩
      | done z => exact ⟨_, rfl⟩
    · exact ⟨_, rfl⟩

theorem guess_ok {c : L1Cur} {b : Int} (h : Cur c b) (hb : b ≤ 1000000000000000000) : ∃ x d, spec_l1Cur_guess c = some (x, d) ∧ Cur d (b + 1000) := by
  unfold spec_l1Cur_guess
  obtain ⟨x1, c1, e1, _, h1⟩ := pick_ok (n := 100) h (by omega)
  rw [e1, Option.bind_some]
  simp only
  obtain ⟨x2, c2, e2, g2, h2⟩ := allSeen_ok h1 (by omega)
  rw [e2, Option.bind_some]
  simp only
  obtain ⟨⟨g, ok⟩, e3⟩ := seeAll_ok (IntKind.i64.wrap (1 + x1)) g2
  rw [e3, Option.bind_some]
  simp only
  have e : ∃ t c4, ((bif (!ok) then some (true, c2.Code, c2.At, c2.Seed) else (spec_l1Cur_one c2 12).bind fun (b29, b30) => some (b29, b30.Code, b30.At, b30.Seed)) : Option (Bool × List Int × Int × Int)) = some (t, c4.Code, c4.At, c4.Seed) ∧ Cur c4 (b + 500) := by
    cases ok
    · exact ⟨true, c2, rfl, h2.mono (by omega)⟩
    · obtain ⟨x3, c3, e3, h3⟩ := one_ok (n := 12) h2 (by omega)
      simp only [Bool.not_true, cond_false]
      rw [e3]
      exact ⟨_, c3, rfl, h3.mono (by omega)⟩
  obtain ⟨t, c4, e4, h4⟩ := e
  rw [e4, Option.bind_some]
  simp only
  cases t
  · exact ⟨_, _, rfl, (show Cur ⟨c4.Code, c4.At, c4.Seed⟩ _ from h4).mono (by omega)⟩
  · simp only [cond_true]
    obtain ⟨y1, d1, f1, _, k1⟩ := among_ok (l := [0, 80, 8000, 8001]) (show Cur ⟨c4.Code, c4.At, c4.Seed⟩ _ from h4) (by omega) (by simp)
    rw [f1, Option.bind_some]
    simp only
    obtain ⟨y2, d2, f2, _, k2⟩ := among_ok (l := [0, 7, 4000]) k1 (by omega) (by simp)
    rw [f2, Option.bind_some]
    simp only
    obtain ⟨y3, d3, f3, _, k3⟩ := among_ok (l := [0, 1000]) k2 (by omega) (by simp)
    rw [f3, Option.bind_some]
    simp only
    obtain ⟨y4, d4, f4, _, k4⟩ := pick_ok (n := 8) k3 (by omega)
    rw [f4]
    exact ⟨_, _, rfl, (show Cur ⟨d4.Code, d4.At, d4.Seed⟩ _ from k4).mono (by omega)⟩

theorem drawSee_ok {l : List Int} (hl : l.length ≤ 1048576) (hb : ∀ x ∈ l, 0 ≤ x ∧ x ≤ 255) : ∃ g s, spec_DrawSeeGuess l = some (g, s) := by
  unfold spec_DrawSeeGuess
  obtain ⟨g, c, e1, h1⟩ := guess_ok (cur0 hl hb) (by omega)
  rw [e1, Option.bind_some]
  simp only
  obtain ⟨s, d, e2, _⟩ := seen_ok h1 (by omega)
  rw [e2]
  exact ⟨_, _, rfl⟩
theorem drawNew_ok {l : List Int} (hl : l.length ≤ 1048576) (hb : ∀ x ∈ l, 0 ≤ x ∧ x ≤ 255) : ∃ n, spec_DrawNewGuess l = some n := by
  unfold spec_DrawNewGuess
  obtain ⟨x, c, e1, _, h1⟩ := among_ok (l := [0, 1, 5, 1000, 1001]) (cur0 hl hb) (by omega) (by simp)
  rw [e1]
  exact ⟨_, rfl⟩
end Go.VxW
