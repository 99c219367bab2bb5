/-
  The reading of a drawing code: what a cursor gives, and how far it comes.
-/
import Derived.Test.YtdgiianbihfkoaaVyGF
import Derived.Test.YtdgiianbihfkoaaVaF
open Go Go.VS
namespace Go.VxW

structure Cur (c : L1Cur) (b : Int) : Prop where
  len : c.Code.length ≤ 1048576
  bytes : ∀ x ∈ c.Code, 0 ≤ x ∧ x ≤ 255
  lo : 0 ≤ c.At
  hi : c.At ≤ b
theorem Cur.mono {c : L1Cur} {b d : Int} (h : Cur c b) (hd : b ≤ d) : Cur c d := ⟨h.len, h.bytes, h.lo, by have := h.hi; omega⟩

theorem and255 (k : Int) : 0 ≤ andL .u64 k 255 ∧ andL .u64 k 255 ≤ 255 := by
  have h : (BitVec.ofInt IntKind.u64.bits k &&& BitVec.ofInt IntKind.u64.bits 255).toNat ≤ 255 := by
    rw [BitVec.toNat_and]
    exact Nat.and_le_right
  unfold andL
  rw [IntWalk.u64_in _ (by omega)]
  omega

theorem next_ok {c : L1Cur} {b : Int} (h : Cur c b) (hb : b ≤ 4611686018427387904) : ∃ x d, spec_l1Cur_next c = some (x, d) ∧ (0 ≤ x ∧ x ≤ 255) ∧ Cur d (b + 1) := by
  obtain ⟨h1, h2, h3, h4⟩ := h
  unfold spec_l1Cur_next
  rw [w64 (x := c.At + 1) (by omega)]
  have e : ∃ x5, (bif (decide (c.At < (c.Code.length : Int))) then (idx c.Code c.At).bind fun b10 => some ((IntKind.i64.wrap b10)) else some (0)) = some x5 ∧ 0 ≤ x5 ∧ x5 ≤ 255 := by
    by_cases hc : c.At < c.Code.length
    · rw [show decide (c.At < (c.Code.length : Int)) = true by simpa using hc]
      obtain ⟨n, hn⟩ := Int.eq_ofNat_of_zero_le h3
      rw [hn, idx_lt (show n < c.Code.length by omega)]
      have := h2 _ (List.getElem_mem (show n < c.Code.length by omega))
      simp only [cond_true, Option.bind_some]
      rw [w64 (by omega)]
      exact ⟨_, rfl, this⟩
    · rw [show decide (c.At < (c.Code.length : Int)) = false by simpa using hc]
      exact ⟨0, rfl, by omega, by omega⟩
  obtain ⟨x5, e1, e2⟩ := e
  rw [e1, Option.bind_some]
  cases decide (c.At + 1 ≤ (c.Code.length : Int))
  · refine ⟨_, _, rfl, ?_, ⟨h1, h2, by simp only; omega, by simp only; omega⟩⟩
    have := and255 (shrL .u64 (IntKind.u64.wrap ((IntKind.u64.wrap ((IntKind.u64.wrap (c.Seed * 6364136223846793005)) + (IntKind.u64.wrap x5))) + 1442695040888963407)) 40)
    rw [w64 (by omega)]
    exact this
  · exact ⟨_, _, rfl, e2, ⟨h1, h2, by simp only; omega, by simp only; omega⟩⟩

theorem md_ok {x n : Int} (hx : 0 ≤ x) (hn : 1 < n) : ∃ r, md x n = some r ∧ 0 ≤ r ∧ r < n := by
  unfold md
  rw [if_neg (by omega)]
  refine ⟨_, rfl, ?_, ?_⟩
  · rw [Int.tmod_eq_emod_of_nonneg hx]; exact Int.emod_nonneg _ (by omega)
  · rw [Int.tmod_eq_emod_of_nonneg hx]; exact Int.emod_lt_of_pos _ (by omega)

theorem pick_ok {c : L1Cur} {b n : Int} (h : Cur c b) (hb : b ≤ 4000000000000000000) : ∃ x d, spec_l1Cur_pick c n = some (x, d) ∧ (0 ≤ x ∧ (1 ≤ n → x < n)) ∧ Cur d (b + 2) := by
  unfold spec_l1Cur_pick
  by_cases hn : n ≤ 1
  · rw [show decide (n ≤ 1) = true by simpa using hn]
    exact ⟨0, c, rfl, ⟨by omega, by omega⟩, h.mono (by omega)⟩
  · rw [show decide (n ≤ 1) = false by simpa using hn]
    obtain ⟨x, d, e1, e2, e3⟩ := next_ok h (by omega)
    simp only [cond_false]
    rw [e1, Option.bind_some]
    cases decide (200 < n)
    · simp only [cond_false, Option.bind_some]
      obtain ⟨r, r1, r2, r3⟩ := md_ok (x := x) e2.1 (show 1 < n by omega)
      rw [r1]
      exact ⟨r, _, rfl, ⟨r2, fun _ => r3⟩, e3.mono (by omega)⟩
    · simp only [cond_true]
      obtain ⟨y, d', f1, f2, f3⟩ := next_ok e3 (by omega)
      rw [f1]
      simp only [Option.bind_some]
      rw [w64 (x := x * 256) (by omega), w64 (by omega)]
      obtain ⟨r, r1, r2, r3⟩ := md_ok (x := x * 256 + y) (by omega) (show 1 < n by omega)
      rw [r1]
      exact ⟨r, _, rfl, ⟨r2, fun _ => r3⟩, f3.mono (by omega)⟩

theorem one_ok {c : L1Cur} {b n : Int} (h : Cur c b) (hb : b ≤ 4000000000000000000) : ∃ x d, spec_l1Cur_one c n = some (x, d) ∧ Cur d (b + 2) := by
  obtain ⟨x, d, e1, _, e3⟩ := pick_ok (n := n) h hb
  unfold spec_l1Cur_one
  rw [e1]
  exact ⟨_, _, rfl, e3⟩

theorem among_ok {c : L1Cur} {b : Int} {l : List Int} (h : Cur c b) (hb : b ≤ 4000000000000000000) (hl : l ≠ []) : ∃ x d, spec_l1Cur_among c l = some (x, d) ∧ x ∈ l ∧ Cur d (b + 2) := by
  obtain ⟨x, d, e1, e2, e3⟩ := pick_ok (n := (l.length : Int)) h hb
  have hl' : 1 ≤ l.length := by cases l with | nil => exact absurd rfl hl | cons _ _ => simp
  unfold spec_l1Cur_among
  rw [e1]
  obtain ⟨n, rfl⟩ := Int.eq_ofNat_of_zero_le e2.1
  have hn : n < l.length := by have := e2.2 (by omega); omega
  simp only [Option.bind_some]
  rw [idx_lt hn]
  exact ⟨_, _, rfl, List.getElem_mem hn, e3⟩

theorem cur0 {l : List Int} (hl : l.length ≤ 1048576) (hb : ∀ x ∈ l, 0 ≤ x ∧ x ≤ 255) : Cur ⟨l, 0, 0⟩ 0 := ⟨hl, hb, by simp, by simp⟩
end Go.VxW
