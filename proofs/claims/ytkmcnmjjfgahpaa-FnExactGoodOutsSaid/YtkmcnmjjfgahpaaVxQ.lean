/-
  DueIn and PickPart: the specification's loops and the program's go in step.
-/
import Derived.Test.YtkmcnmjjfgahpaaVxP
import Derived.Test.YtkmcnmjjfgahpaaVxH
open Go Go.VS
namespace Go.VxW

theorem dueIn0 {o : Out} (h : o.Heard.length ≤ 1048576) (a : Int) (ha : R64 a) : ∃ r, whl (spec_DueIn_l0 o) (a, 0) = some r ∧ whl (impl_DueIn_l0 o) (a, 0) = some r ∧ R64 r := by
  refine whl2 (fun x : Int × Int => o.Heard.length - x.2.toNat) (fun x => R64 x.1 ∧ 0 ≤ x.2 ∧ x.2 ≤ o.Heard.length) R64 ?_ (a, 0) ⟨ha, by simp, by simp⟩
  rintro ⟨x, i⟩ ⟨k1, k2, k3⟩
  simp only at k1 k2 k3
  simp only [spec_DueIn_l0, impl_DueIn_l0]
  obtain ⟨n, rfl⟩ := Int.eq_ofNat_of_zero_le k2
  by_cases hi : n < o.Heard.length
  · rw [show decide ((n : Int) < (o.Heard.length : Int)) = true by simpa using hi, idx_lt hi, w64 (x := (n : Int) + 1) (by omega)]
    simp only [cond_true, Option.bind_some]
    cases o.Heard[n]
    · exact ⟨_, rfl, rfl, ⟨r64_wrap _, by simp only; omega, by simp only; omega⟩, by simp only; omega⟩
    · have e : IntKind.i64.wrap (x + 0) = x := by rw [Int.add_zero]; exact w64 k1
      refine ⟨.next (x, (n : Int) + 1), ?_, rfl, ⟨k1, by simp only; omega, by simp only; omega⟩, by simp only; omega⟩
      show some (LR.next (IntKind.i64.wrap (x + 0), (n : Int) + 1)) = _
      rw [e]
  · rw [show decide ((n : Int) < (o.Heard.length : Int)) = false by simpa using hi]
    exact ⟨_, rfl, rfl, k1⟩

theorem dueIn1 {l : List Out} (now : Int) (h : l.length ≤ 1048576) (ho : ∀ o ∈ l, o.Heard.length ≤ 1048576) : ∃ r, whl (spec_DueIn_l1 l now) (0, 0) = some r ∧ whl (impl_DueIn_l1 l now) (0, 0) = some r ∧ R64 r := by
  refine whl2 (fun x : Int × Int => l.length - x.2.toNat) (fun x => R64 x.1 ∧ 0 ≤ x.2 ∧ x.2 ≤ l.length) R64 ?_ (0, 0) ⟨by simp [R64], by simp, by simp⟩
  rintro ⟨x, i⟩ ⟨k1, k2, k3⟩
  simp only at k1 k2 k3
  simp only [spec_DueIn_l1, impl_DueIn_l1]
  obtain ⟨n, rfl⟩ := Int.eq_ofNat_of_zero_le k2
  by_cases hi : n < l.length
  · rw [show decide ((n : Int) < (l.length : Int)) = true by simpa using hi, idx_lt hi, w64 (x := (n : Int) + 1) (by omega)]
    simp only [cond_true, Option.bind_some]
    obtain ⟨r, q1, q2, q3⟩ := dueIn0 (ho _ (List.getElem_mem hi)) x k1
    rw [q1, q2]
    cases h1 : (l[n].Final != 0)
    · simp only [cond_false, Option.bind_some]
      cases h2 : decide (now < l[n].End)
      · exact ⟨_, rfl, rfl, ⟨q3, by simp only; omega, by simp only; omega⟩, by simp only; omega⟩
      · exact ⟨_, rfl, rfl, ⟨k1, by simp only; omega, by simp only; omega⟩, by simp only; omega⟩
    · exact ⟨_, rfl, rfl, ⟨k1, by simp only; omega, by simp only; omega⟩, by simp only; omega⟩
  · rw [show decide ((n : Int) < (l.length : Int)) = false by simpa using hi]
    exact ⟨_, rfl, rfl, k1⟩

theorem dueIn {l : List Out} (now : Int) (h : l.length ≤ 1048576) (ho : ∀ o ∈ l, o.Text.length ≤ 1048576 ∧ o.Heard.length ≤ 1048576) : ∃ a b, spec_DueIn l now = some (a, b) ∧ impl_DueIn l now = some (a, b) := by
  unfold spec_DueIn impl_DueIn
  rw [sGoodOuts h (fun o hm => (ho o hm).1), iGoodOuts h (fun o hm => (ho o hm).1), sIn, iIn]
  obtain ⟨r, q1, q2, _⟩ := dueIn1 now h (fun o hm => (ho o hm).2)
  rw [q1, q2]
  cases goodOuts l
  · exact ⟨0, false, rfl, rfl⟩
  · cases inB now 0 200
    · exact ⟨0, false, rfl, rfl⟩
    · exact ⟨r, true, rfl, rfl⟩

theorem pureDueIn (l : List Out) (now : Int) (hl : l.length ≤ maxLen) (ho : ∀ o ∈ l, okOut o) : laws_FnExactDueIn l now = some true := by
  unfold laws_FnExactDueIn
  obtain ⟨k, h1, h2⟩ := szOutS hl ho
  rw [h1, Option.bind_some]
  by_cases hk : k < 0
  · rw [show decide (k < 0) = true by simpa using hk]; rfl
  · obtain ⟨h3, h4⟩ := h2 (by omega)
    rw [show decide (k < 0) = false by simpa using hk]
    rw [toOutS h3 (fun o hm => (h4 o hm).2)]
    simp only [cond_false, Option.bind_some]
    obtain ⟨a, b, e1, e2⟩ := dueIn now h3 h4
    rw [e1, e2, eqOutS h3 (fun o hm => (h4 o hm).2)]
    simp

theorem first {o : Out} (h : o.Heard.length ≤ 1048576) : ∃ r, spec_l17First o = some r ∧ slices_Index_bool o.Heard false = some r := by
  unfold spec_l17First slices_Index_bool
  obtain ⟨r, q1, q2, _⟩ := whl2 (f := spec_l17First_l0 o) (g := slices_Index_bool_l0 o.Heard false) (fun x => o.Heard.length - x.toNat) (fun x => 0 ≤ x ∧ x ≤ o.Heard.length) (fun _ => True) (by
    rintro i ⟨k2, k3⟩
    simp only [spec_l17First_l0, slices_Index_bool_l0]
    obtain ⟨n, rfl⟩ := Int.eq_ofNat_of_zero_le k2
    by_cases hi : n < o.Heard.length
    · rw [show decide ((n : Int) < (o.Heard.length : Int)) = true by simpa using hi, idx_lt hi, w64 (x := (n : Int) + 1) (by omega)]
      simp only [cond_true, Option.bind_some]
      cases o.Heard[n]
      · exact ⟨_, rfl, rfl, trivial⟩
      · exact ⟨_, rfl, rfl, ⟨by omega, by omega⟩, by omega⟩
    · rw [show decide ((n : Int) < (o.Heard.length : Int)) = false by simpa using hi]
      exact ⟨_, rfl, rfl, trivial⟩) 0 ⟨by omega, by omega⟩
  rw [q1, q2]
  cases r with
  | next _ => exact ⟨-1, rfl, rfl⟩
  | done z => exact ⟨z, rfl, rfl⟩

theorem pick0 {l : List Out} (h : l.length ≤ 1048576) (ho : ∀ o ∈ l, o.Heard.length ≤ 1048576) : ∃ r, whl (spec_l17Pick_l0 l) (-1, 0) = some r ∧ whl (impl_pick_l0 l) (-1, 0) = some r ∧ (-1 ≤ r ∧ r < l.length) := by
  refine whl2 (fun x : Int × Int => l.length - x.2.toNat) (fun x => (-1 ≤ x.1 ∧ x.1 < l.length) ∧ 0 ≤ x.2 ∧ x.2 ≤ l.length) _ ?_ (-1, 0) ⟨⟨by simp, by simp only; omega⟩, by simp, by simp⟩
  rintro ⟨x, i⟩ ⟨k1, k2, k3⟩
  simp only at k1 k2 k3
  simp only [spec_l17Pick_l0, impl_pick_l0]
  obtain ⟨n, rfl⟩ := Int.eq_ofNat_of_zero_le k2
  by_cases hi : n < l.length
  · rw [show decide ((n : Int) < (l.length : Int)) = true by simpa using hi, idx_lt hi, w64 (x := (n : Int) + 1) (by omega)]
    simp only [cond_true, Option.bind_some]
    obtain ⟨r, q1, q2⟩ := first (ho _ (List.getElem_mem hi))
    unfold slices_Contains_bool
    rw [q1, q2]
    simp only [Option.bind_some]
    have hb : ∃ b, (bif (l[n].Final == 0) then (bif decide (0 ≤ r) then (bif decide (x < 0) then some true else (idx l x).bind fun b35 => some (decide (l[n].End < b35.End))) else some false) else some false) = some b := by
      cases (l[n].Final == 0)
      · exact ⟨_, rfl⟩
      · cases decide (0 ≤ r)
        · exact ⟨_, rfl⟩
        · by_cases hx : x < 0
          · rw [show decide (x < 0) = true by simpa using hx]
            exact ⟨_, rfl⟩
          · rw [show decide (x < 0) = false by simpa using hx]
            obtain ⟨m, rfl⟩ := Int.eq_ofNat_of_zero_le (show 0 ≤ x by omega)
            rw [idx_lt (show m < l.length by omega)]
            exact ⟨_, rfl⟩
    obtain ⟨b, hb⟩ := hb
    rw [hb]
    cases b
    · exact ⟨_, rfl, rfl, ⟨k1, by simp only; omega, by simp only; omega⟩, by simp only; omega⟩
    · exact ⟨_, rfl, rfl, ⟨⟨by simp only; omega, by simp only; omega⟩, by simp only; omega, by simp only; omega⟩, by simp only; omega⟩
  · rw [show decide ((n : Int) < (l.length : Int)) = false by simpa using hi]
    exact ⟨_, rfl, rfl, k1⟩

theorem pickPart {l : List Out} (h : l.length ≤ 1048576) (ho : ∀ o ∈ l, o.Text.length ≤ 1048576 ∧ o.Heard.length ≤ 1048576) : ∃ a b c d, spec_PickPart l = some (a, b, c, d) ∧ impl_PickPart l = some (a, b, c, d) := by
  unfold spec_PickPart impl_PickPart
  rw [sGoodOuts h (fun o hm => (ho o hm).1), iGoodOuts h (fun o hm => (ho o hm).1)]
  simp only [Option.bind_some]
  cases goodOuts l
  · exact ⟨_, _, _, _, rfl, rfl⟩
  · obtain ⟨r, q1, q2, k1, k2⟩ := pick0 h (fun o hm => (ho o hm).2)
    unfold spec_l17Pick impl_pick
    rw [q1, q2]
    simp only [Option.bind_some, Bool.not_true, cond_false]
    by_cases hr : r < 0
    · rw [show decide (r < 0) = true by simpa using hr]
      exact ⟨_, _, _, _, rfl, rfl⟩
    · rw [show decide (r < 0) = false by simpa using hr]
      obtain ⟨m, rfl⟩ := Int.eq_ofNat_of_zero_le (show 0 ≤ r by omega)
      have hm : m < l.length := by omega
      rw [idx_lt hm]
      obtain ⟨z, e1, e2⟩ := first (ho _ (List.getElem_mem hm)).2
      simp only [Option.bind_some, cond_false]
      rw [e1, e2]
      simp only [Option.bind_some]
      rw [show decide ((m : Int) < 0) = false by simp]
      exact ⟨_, _, _, _, rfl, rfl⟩

theorem purePickPart (l : List Out) (hl : l.length ≤ maxLen) (ho : ∀ o ∈ l, okOut o) : laws_FnExactPickPart l = some true := by
  unfold laws_FnExactPickPart
  obtain ⟨k, h1, h2⟩ := szOutS hl ho
  rw [h1, Option.bind_some]
  by_cases hk : k < 0
  · rw [show decide (k < 0) = true by simpa using hk]; rfl
  · obtain ⟨h3, h4⟩ := h2 (by omega)
    rw [show decide (k < 0) = false by simpa using hk]
    rw [toOutS h3 (fun o hm => (h4 o hm).2)]
    simp only [cond_false, Option.bind_some]
    obtain ⟨a, b, c, d, e1, e2⟩ := pickPart h3 h4
    rw [e1, e2, eqOutS h3 (fun o hm => (h4 o hm).2)]
    simp

theorem lawGoodOuts (l : List Out) (k : ok22 l) : laws_FnExactGoodOuts l = some true := pureGoodOuts l k.1 k.2
theorem lawDueIn (l : List Out) (k : ok22 l) (n : Int) (_ : ok3 n) : laws_FnExactDueIn l n = some true := pureDueIn l n k.1 k.2
theorem lawPickPart (l : List Out) (k : ok22 l) : laws_FnExactPickPart l = some true := purePickPart l k.1 k.2
end Go.VxW
