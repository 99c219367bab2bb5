import Derived.Test.YtkmcnmjjfgahpaaVxG
import Derived.Test.YtkmcnmjjfgahpaaVtU
open Go Go.VS
namespace Go.VxW

/-! sizes -/
theorem szBool {l : List Bool} {n : Int} (h0 : 0 ≤ n) (h1 : n ≤ 1048576) (hl : l.length ≤ maxLen) : laws_szBoolS l n = some (if n < l.length then -1 else n - l.length) := by
  have hl' : (l.length : Int) ≤ 9223372036854775807 := by unfold maxLen at hl; omega
  unfold laws_szBoolS
  rw [w64 (by omega)]
  by_cases h : n < l.length
  · rw [if_pos h, show decide (n - (l.length : Int) < 0) = true by simp; omega]; rfl
  · rw [if_neg h, show decide (n - (l.length : Int) < 0) = false by simp; omega]; rfl

def okOut (o : Out) : Prop := o.Text.length ≤ maxLen ∧ inK .i64 o.End ∧ (o.Heard.length ≤ maxLen ∧ ∀ b ∈ o.Heard, True) ∧ inK .i64 o.Final

theorem szOut {o : Out} {n : Int} (h0 : 0 ≤ n) (h1 : n ≤ 1048576) (ho : okOut o) : ∃ k, laws_szOut o n = some k ∧ (0 ≤ k → k ≤ n ∧ o.Text.length ≤ 1048576 ∧ o.Heard.length ≤ 1048576) := by
  obtain ⟨ht, _, ⟨hh, _⟩, _⟩ := ho
  have ht' : (o.Text.length : Int) ≤ 9223372036854775807 := by unfold maxLen at ht; omega
  unfold laws_szOut
  rw [w64 (by omega)]
  by_cases h : n < o.Text.length
  · rw [show decide (n - (o.Text.length : Int) < 0) = true by simp; omega]
    exact ⟨-1, rfl, by omega⟩
  · rw [show decide (n - (o.Text.length : Int) < 0) = false by simp; omega]
    simp only [cond_false]
    rw [szBool (by omega) (by omega) hh, Option.bind_some]
    by_cases h2 : n - o.Text.length < o.Heard.length
    · rw [if_pos h2]; exact ⟨-1, rfl, by omega⟩
    · rw [if_neg h2, show decide (n - (o.Text.length : Int) - o.Heard.length < 0) = false by simp; omega]
      exact ⟨_, rfl, by omega⟩

theorem szOutS {l : List Out} (hl : l.length ≤ maxLen) (ho : ∀ o ∈ l, okOut o) : ∃ k, laws_szOutS l 1048576 = some k ∧ (0 ≤ k → l.length ≤ 1048576 ∧ ∀ o ∈ l, o.Text.length ≤ 1048576 ∧ o.Heard.length ≤ 1048576) := by
  have hl' : (l.length : Int) ≤ 9223372036854775807 := by unfold maxLen at hl; omega
  unfold laws_szOutS
  rw [w64 (by omega)]
  by_cases h : (1048576 : Int) < l.length
  · rw [show decide (1048576 - (l.length : Int) < 0) = true by simp; omega]
    exact ⟨-1, rfl, by omega⟩
  · rw [show decide (1048576 - (l.length : Int) < 0) = false by simp; omega]
    simp only [cond_false]
    obtain ⟨r, h1, h2⟩ := whl_inv (f := laws_szOutS_l0 l) (fun x => l.length - x.2.toNat) (fun x => 0 ≤ x.1 ∧ x.1 ≤ 1048576 ∧ 0 ≤ x.2 ∧ x.2 ≤ l.length ∧ ∀ i, i < x.2.toNat → ∀ o, l[i]? = some o → o.Text.length ≤ 1048576 ∧ o.Heard.length ≤ 1048576)
      (fun r => match r with | .next k => ∀ o ∈ l, o.Text.length ≤ 1048576 ∧ o.Heard.length ≤ 1048576 | .done k => k = -1) (by
        rintro ⟨a, i⟩ ⟨k1, k2, k3, k4, k5⟩
        simp only at k1 k2 k3 k4 k5
        simp only [laws_szOutS_l0]
        by_cases hi : i < l.length
        · rw [show decide (i < (l.length : Int)) = true by simpa using hi]
          obtain ⟨n, rfl⟩ := Int.eq_ofNat_of_zero_le k3
          have hn : n < l.length := by omega
          rw [idx_lt hn]
          simp only [cond_true, Option.bind_some]
          obtain ⟨k, q1, q2⟩ := szOut k1 k2 (ho l[n] (List.getElem_mem hn))
          rw [q1, Option.bind_some, w64 (by omega)]
          by_cases hk : k < 0
          · rw [show decide (k < 0) = true by simpa using hk]
            exact ⟨_, rfl, rfl⟩
          · rw [show decide (k < 0) = false by simpa using hk]
            refine ⟨_, rfl, ⟨by simp only; omega, by have := q2 (by omega); simp only; omega, by simp only; omega, by simp only; omega, fun j hj o hjo => ?_⟩, by simp only; omega⟩
            simp only at hj
            by_cases hjn : j = n
            · subst hjn
              rw [List.getElem?_eq_getElem hn] at hjo
              simp only [Option.some.injEq] at hjo; subst hjo
              exact (q2 (by omega)).2
            · exact k5 j (by simp only [Int.toNat_natCast]; omega) o hjo
        · rw [show decide (i < (l.length : Int)) = false by simpa using hi]
          refine ⟨_, rfl, fun o hm => ?_⟩
          obtain ⟨j, hj⟩ := List.mem_iff_getElem?.1 hm
          have := (List.getElem?_eq_some_iff.1 hj).1
          exact k5 j (by omega) o hj) (1048576 - l.length, 0) ⟨by simp only; omega, by simp only; omega, by simp, by simp, fun i hi => by simp at hi⟩
    rw [h1, Option.bind_some]
    cases r with
    | next k => exact ⟨k, rfl, fun _ => ⟨by omega, h2⟩⟩
    | done k => subst h2; exact ⟨-1, rfl, by omega⟩

/-! copies -/
theorem toBool {l : List Bool} (h : l.length ≤ 1048576) : laws_toBoolS l = some l := by
  unfold laws_toBoolS
  rw [mkL_of (by omega) (by omega), Option.bind_some]
  rw [whl_to (f := laws_toBoolS_l0 l) (fun x => l.length - x.2.toNat) (fun x => 0 ≤ x.2 ∧ x.2 ≤ l.length ∧ x.1 = l.take x.2.toNat ++ (List.replicate l.length false).drop x.2.toNat) l (by
    rintro ⟨a, i⟩ ⟨k1, k2, k3⟩
    simp only at k1 k2 k3
    simp only [laws_toBoolS_l0]
    obtain ⟨n, rfl⟩ := Int.eq_ofNat_of_zero_le k1
    simp only [Int.toNat_natCast] at k3
    by_cases hi : n < l.length
    · rw [show decide ((n : Int) < (l.length : Int)) = true by simpa using hi, idx_lt hi]
      have hal : a.length = l.length := by rw [k3]; simp; omega
      rw [idx_lt (by omega : n < a.length)]
      simp only [cond_true, Option.bind_some, Int.toNat_natCast]
      rw [w64 (by omega)]
      refine ⟨_, rfl, ⟨by simp only; omega, by simp only; omega, ?_⟩, by simp only; omega⟩
      simp only
      rw [k3, set_take l n hi _ (by simp)]
      rfl
    · rw [show decide ((n : Int) < (l.length : Int)) = false by simpa using hi]
      refine ⟨_, rfl, ?_⟩
      simp only
      have : n = l.length := by omega
      subst this
      rw [k3]
      simp) (List.replicate l.length false, 0) ⟨by simp, by simp, by simp⟩]
  rfl
theorem toOut {o : Out} (h : o.Heard.length ≤ 1048576) : laws_toOut o = some o := by
  unfold laws_toOut
  rw [toBool h]
  rfl
theorem toOutS {l : List Out} (h : l.length ≤ 1048576) (ho : ∀ o ∈ l, o.Heard.length ≤ 1048576) : laws_toOutS l = some l := by
  unfold laws_toOutS
  rw [mkL_of (by omega) (by omega), Option.bind_some]
  generalize (⟨[], 0, [], 0⟩ : Out) = z
  rw [whl_to (f := laws_toOutS_l0 l) (fun x => l.length - x.2.toNat) (fun x => 0 ≤ x.2 ∧ x.2 ≤ l.length ∧ x.1 = l.take x.2.toNat ++ (List.replicate l.length z).drop x.2.toNat) l (by
    rintro ⟨a, i⟩ ⟨k1, k2, k3⟩
    simp only at k1 k2 k3
    simp only [laws_toOutS_l0]
    obtain ⟨n, rfl⟩ := Int.eq_ofNat_of_zero_le k1
    simp only [Int.toNat_natCast] at k3
    by_cases hi : n < l.length
    · rw [show decide ((n : Int) < (l.length : Int)) = true by simpa using hi, idx_lt hi]
      have hal : a.length = l.length := by rw [k3]; simp; omega
      rw [idx_lt (by omega : n < a.length)]
      simp only [cond_true, Option.bind_some, Int.toNat_natCast]
      rw [toOut (ho _ (List.getElem_mem hi)), Option.bind_some, w64 (by omega)]
      refine ⟨_, rfl, ⟨by simp only; omega, by simp only; omega, ?_⟩, by simp only; omega⟩
      simp only
      rw [k3, set_take l n hi _ (by simp)]
      rfl
    · rw [show decide ((n : Int) < (l.length : Int)) = false by simpa using hi]
      refine ⟨_, rfl, ?_⟩
      simp only
      have : n = l.length := by omega
      subst this
      rw [k3]
      simp) (List.replicate l.length z, 0) ⟨by simp, by simp, by simp⟩]
  rfl

/-! equality with oneself -/
theorem eqBool {l : List Bool} (h : l.length ≤ 1048576) : laws_eqBoolS l l = some true := by
  unfold laws_eqBoolS
  rw [show ((l.length : Int) != (l.length : Int)) = false by simp]
  simp only [cond_false]
  rw [whl_to (f := laws_eqBoolS_l0 l l) (fun x => l.length - x.toNat) (fun x => 0 ≤ x ∧ x ≤ l.length) (.next ()) (by
    intro i ⟨k1, k2⟩
    simp only [laws_eqBoolS_l0]
    obtain ⟨n, rfl⟩ := Int.eq_ofNat_of_zero_le k1
    by_cases hi : n < l.length
    · rw [show decide ((n : Int) < (l.length : Int)) = true by simpa using hi, idx_lt hi]
      simp only [cond_true, Option.bind_some, beq_self_eq_true, Bool.not_true, cond_false]
      rw [w64 (by omega)]
      exact ⟨_, rfl, ⟨by omega, by omega⟩, by omega⟩
    · rw [show decide ((n : Int) < (l.length : Int)) = false by simpa using hi]
      exact ⟨_, rfl, rfl⟩) 0 ⟨by omega, by omega⟩]
  rfl
theorem eqOut {o : Out} (h : o.Heard.length ≤ 1048576) : laws_eqOut o o = some true := by
  unfold laws_eqOut
  rw [eqBool h]
  simp
theorem eqOutS {l : List Out} (h : l.length ≤ 1048576) (ho : ∀ o ∈ l, o.Heard.length ≤ 1048576) : laws_eqOutS l l = some true := by
  unfold laws_eqOutS
  rw [show ((l.length : Int) != (l.length : Int)) = false by simp]
  simp only [cond_false]
  rw [whl_to (f := laws_eqOutS_l0 l l) (fun x => l.length - x.toNat) (fun x => 0 ≤ x ∧ x ≤ l.length) (.next ()) (by
    intro i ⟨k1, k2⟩
    simp only [laws_eqOutS_l0]
    obtain ⟨n, rfl⟩ := Int.eq_ofNat_of_zero_le k1
    by_cases hi : n < l.length
    · rw [show decide ((n : Int) < (l.length : Int)) = true by simpa using hi, idx_lt hi]
      simp only [cond_true, Option.bind_some]
      rw [eqOut (ho _ (List.getElem_mem hi)), w64 (by omega)]
      exact ⟨_, rfl, ⟨by omega, by omega⟩, by omega⟩
    · rw [show decide ((n : Int) < (l.length : Int)) = false by simpa using hi]
      exact ⟨_, rfl, rfl⟩) 0 ⟨by omega, by omega⟩]
  rfl

/-! what is good -/
def inB (n a b : Int) : Bool := decide (a ≤ n) && decide (n ≤ b)
theorem sIn (n a b : Int) : spec_l1In n a b = some (inB n a b) := by
  unfold spec_l1In inB; cases decide (a ≤ n) <;> rfl
theorem iIn (n a b : Int) : impl_in n a b = some (inB n a b) := by
  unfold impl_in inB; cases decide (a ≤ n) <;> rfl
def goodOut (o : Out) : Bool := inB o.Text.length 1 40 && (inB o.End 0 100 && (((o.Heard.length : Int) == Int.tdiv (o.Text.length + 3) 4) && inB o.Final 0 2))
def goodOuts (l : List Out) : Bool := decide ((l.length : Int) ≤ 6) && l.all goodOut

theorem iIsOut {o : Out} (h : o.Text.length ≤ 1048576) : impl_isOut o = some (goodOut o) := by
  unfold impl_isOut goodOut
  rw [iIn, iIn, iIn]
  have hd : 0 ≤ Int.tdiv ((o.Text.length : Int) + 3) 4 ∧ Int.tdiv ((o.Text.length : Int) + 3) 4 ≤ o.Text.length + 3 := by
    rw [Int.tdiv_eq_ediv_of_nonneg (by omega)]; omega
  rw [w64 (x := (o.Text.length : Int) + 4) (by omega), show (o.Text.length : Int) + 4 - 1 = o.Text.length + 3 by omega, w64 (x := (o.Text.length : Int) + 3) (by omega), w64 (x := Int.tdiv ((o.Text.length : Int) + 3) 4) (by omega)]
  simp only [Option.bind_some]
  cases inB o.Text.length 1 40 <;> cases inB o.End 0 100 <;> cases ((o.Heard.length : Int) == Int.tdiv (o.Text.length + 3) 4) <;> rfl
theorem iGood1 {o : Out} (h : o.Text.length ≤ 1048576) : impl_GoodOuts_1 o = some (!goodOut o) := by
  unfold impl_GoodOuts_1; rw [iIsOut h]; rfl

theorem idxFunc {l : List Out} {g : Out → Option Bool} {q : Out → Bool} (h : l.length ≤ 1048576) (hg : ∀ o ∈ l, g o = some (q o)) : ∃ k, slices_IndexFunc_impl_Out l g = some k ∧ (decide (0 ≤ k)) = l.any q := by
  unfold slices_IndexFunc_impl_Out
  obtain ⟨r, h1, h2⟩ := whl_inv (f := slices_IndexFunc_impl_Out_l0 l g) (fun x => l.length - x.toNat) (fun x => 0 ≤ x ∧ x ≤ l.length ∧ ∀ o ∈ l.take x.toNat, q o = false)
    (fun r => match r with | .next _ => l.any q = false | .done k => 0 ≤ k ∧ l.any q = true) (by
    intro i ⟨k1, k2, k3⟩
    simp only [slices_IndexFunc_impl_Out_l0]
    obtain ⟨n, rfl⟩ := Int.eq_ofNat_of_zero_le k1
    simp only [Int.toNat_natCast] at k3
    by_cases hi : n < l.length
    · rw [show decide ((n : Int) < (l.length : Int)) = true by simpa using hi, idx_lt hi]
      simp only [cond_true, Option.bind_some]
      rw [hg _ (List.getElem_mem hi), Option.bind_some, w64 (by omega)]
      cases hq : q l[n] with
      | true => exact ⟨_, rfl, by omega, List.any_eq_true.2 ⟨_, List.getElem_mem hi, hq⟩⟩
      | false =>
        refine ⟨_, rfl, ⟨by omega, by omega, fun o ho => ?_⟩, by omega⟩
        have e : ((n : Int) + 1).toNat = n + 1 := by omega
        rw [e, List.take_add_one, List.getElem?_eq_getElem hi] at ho
        rcases List.mem_append.1 ho with ho | ho
        · exact k3 o ho
        · simp at ho; subst ho; exact hq
    · rw [show decide ((n : Int) < (l.length : Int)) = false by simpa using hi]
      refine ⟨_, rfl, ?_⟩
      rw [List.take_of_length_le (by omega)] at k3
      simp only [List.any_eq_false]
      intro o ho; simp [k3 o ho]) 0 ⟨by omega, by omega, by simp⟩
  rw [h1, Option.bind_some]
  cases r with
  | next _ => exact ⟨-1, rfl, by rw [h2]; rfl⟩
  | done k => exact ⟨k, rfl, by rw [h2.2]; simpa using h2.1⟩

theorem iGoodOuts {l : List Out} (h : l.length ≤ 1048576) (ho : ∀ o ∈ l, o.Text.length ≤ 1048576) : impl_GoodOuts l = some (goodOuts l) := by
  unfold impl_GoodOuts goodOuts
  cases hd : decide ((l.length : Int) ≤ 6) with
  | false => rfl
  | true =>
    simp only [cond_true, Bool.true_and]
    unfold slices_ContainsFunc_impl_Out
    obtain ⟨k, h1, h2⟩ := idxFunc (q := fun o => !goodOut o) h (fun o hm => iGood1 (ho o hm))
    rw [h1, Option.bind_some, Option.bind_some, h2]
    congr 1
    rw [List.all_eq_not_any_not]

theorem sGoodOuts {l : List Out} (h : l.length ≤ 1048576) (ho : ∀ o ∈ l, o.Text.length ≤ 1048576) : spec_GoodOuts l = some (goodOuts l) := by
  unfold spec_GoodOuts goodOuts
  obtain ⟨r, h1, h2⟩ := whl_inv (f := spec_GoodOuts_l0 l) (fun x => l.length - x.toNat) (fun x => 0 ≤ x ∧ x ≤ l.length ∧ ∀ o ∈ l.take x.toNat, goodOut o = true)
    (fun r => match r with | .next _ => l.all goodOut = true | .done k => k = false ∧ l.all goodOut = false) (by
    intro i ⟨k1, k2, k3⟩
    simp only [spec_GoodOuts_l0]
    obtain ⟨n, rfl⟩ := Int.eq_ofNat_of_zero_le k1
    simp only [Int.toNat_natCast] at k3
    by_cases hi : n < l.length
    · rw [show decide ((n : Int) < (l.length : Int)) = true by simpa using hi, idx_lt hi]
      simp only [cond_true, Option.bind_some]
      have hT := ho _ (List.getElem_mem hi)
      generalize hoo : l[n] = o at hT
      have hd : 0 ≤ Int.tdiv ((o.Text.length : Int) + 3) 4 ∧ Int.tdiv ((o.Text.length : Int) + 3) 4 ≤ o.Text.length + 3 := by
        rw [Int.tdiv_eq_ediv_of_nonneg (by omega)]; omega
      have key : ((spec_l1In (o.Text.length : Int) 1 40).bind fun b27 => (bif (!b27) then some (true) else (spec_l1In o.End 0 100).bind fun b28 => (bif (!b28) then some (true) else (spec_l17Parts (o.Text.length : Int)).bind fun b29 => (bif ((o.Heard.length : Int) != b29) then some (true) else (spec_l16Verdict o.Final).bind fun b30 => some ((!b30)))))) = some (!goodOut o) := by
        unfold spec_l17Parts spec_l16Verdict goodOut
        rw [sIn, sIn, sIn, w64 (x := (o.Text.length : Int) + 4) (by omega), show (o.Text.length : Int) + 4 - 1 = o.Text.length + 3 by omega, w64 (x := (o.Text.length : Int) + 3) (by omega), w64 (x := Int.tdiv ((o.Text.length : Int) + 3) 4) (by omega)]
        simp only [Option.bind_some, bne]
        cases inB o.Text.length 1 40 <;> cases inB o.End 0 100 <;> cases ((o.Heard.length : Int) == Int.tdiv (o.Text.length + 3) 4) <;> cases inB o.Final 0 2 <;> rfl
      rw [key, Option.bind_some, w64 (by omega)]
      cases hq : goodOut o with
      | false =>
        refine ⟨_, rfl, rfl, ?_⟩
        rw [List.all_eq_false]
        exact ⟨o, by rw [← hoo]; exact List.getElem_mem hi, by simp [hq]⟩
      | true =>
        refine ⟨_, rfl, ⟨by omega, by omega, fun p hp => ?_⟩, by omega⟩
        have e : ((n : Int) + 1).toNat = n + 1 := by omega
        rw [e, List.take_add_one, List.getElem?_eq_getElem hi] at hp
        rcases List.mem_append.1 hp with hp | hp
        · exact k3 p hp
        · simp at hp; rw [hoo] at hp; subst hp; exact hq
    · rw [show decide ((n : Int) < (l.length : Int)) = false by simpa using hi]
      refine ⟨_, rfl, ?_⟩
      rw [List.take_of_length_le (by omega)] at k3
      exact List.all_eq_true.2 k3) 0 ⟨by omega, by omega, by simp⟩
  rw [h1, Option.bind_some]
  cases r with
  | next _ => simp only at h2 ⊢; rw [h2, Bool.and_true]
  | done k => obtain ⟨rfl, h3⟩ := h2; simp only; rw [h3, Bool.and_false]

theorem pureGoodOuts (l : List Out) (hl : l.length ≤ maxLen) (ho : ∀ o ∈ l, okOut o) : laws_FnExactGoodOuts l = some true := by
  unfold laws_FnExactGoodOuts
  obtain ⟨k, h1, h2⟩ := szOutS hl ho
  rw [h1, Option.bind_some]
  by_cases hk : k < 0
  · rw [show decide (k < 0) = true by simpa using hk]; rfl
  · obtain ⟨h3, h4⟩ := h2 (by omega)
    rw [show decide (k < 0) = false by simpa using hk]
    rw [toOutS h3 (fun o hm => (h4 o hm).2)]
    simp only [cond_false, Option.bind_some]
    rw [sGoodOuts h3 (fun o hm => (h4 o hm).1), iGoodOuts h3 (fun o hm => (h4 o hm).1), eqOutS h3 (fun o hm => (h4 o hm).2)]
    simp
end Go.VxW
