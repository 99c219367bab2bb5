/-
  Demand: the nearest end first meets all ends that can be met; FnDemand, FnEarliest.
-/
import Derived.Test.YtdgiianbihfkoaaVpD
import Derived.Test.YtdgiianbihfkoaaVpT
open Go Go.VS
namespace Go.VxW

/-! demand -/
def inJ (l : List Job) (a b : Int) (i : Nat) : Bool := decide (a ≤ jst l i) && decide (jen l i ≤ b)
def dem (l : List Job) (a b : Int) : Int := sumN l.length fun i => if inJ l a b i then jnd l i else 0
/-- Nobody late: no demand too great. -/
theorem late_none {l : List Job} {f : Nat → Int} (h : lateL l f = []) : ∀ i, i < l.length → jnd l i ≤ cs f i (jen l i).toNat := by
  intro i hi
  unfold lateL at h
  simp only [List.map_eq_nil_iff, List.filter_eq_nil_iff, List.mem_range, decide_eq_true_eq] at h
  have := h i hi
  omega
theorem late_some {l : List Job} {f : Nat → Int} (h : lateL l f ≠ []) : ∃ i, i < l.length ∧ cs f i (jen l i).toNat < jnd l i := by
  rcases Decidable.em (∃ i, i < l.length ∧ cs f i (jen l i).toNat < jnd l i) with hh | hh
  · exact hh
  · refine absurd ?_ h
    unfold lateL
    simp only [List.map_eq_nil_iff, List.filter_eq_nil_iff, List.mem_range, decide_eq_true_eq]
    intro i hi hc
    exact hh ⟨i, hi, hc⟩
theorem no_over {l : List Job} {f : Nat → Int} (hg : ∀ x ∈ l, goodJ x) (hs : ∀ t, t < 24 → 0 ≤ f t → jst l (f t).toNat ≤ t) (hl : lateL l f = []) {a b : Nat} (hab : a ≤ b) (hb : b ≤ 24) : dem l a b ≤ b - a := by
  have h1 := late_none hl
  have h2 := csP_le l.length (inJ l a b) f hab
  have h3 : csP l.length (inJ l a b) f a = 0 := by
    unfold csP
    rw [sumN_congr _ _ (fun _ => 0) (fun i hi => ?_), sumN_zero]
    cases hp : inJ l a b i
    · rfl
    · unfold inJ at hp
      simp only [Bool.and_eq_true, decide_eq_true_eq] at hp
      simp only [if_true]
      refine cs_zero fun s hs' he => ?_
      have := hs s (by omega) (by omega)
      rw [he, Int.toNat_natCast] at this
      omega
  have h4 : dem l a b ≤ csP l.length (inJ l a b) f b := by
    refine sumN_le _ _ _ fun i hi => ?_
    cases hp : inJ l a b i
    · simp
    · have hp' := hp
      unfold inJ at hp'
      simp only [Bool.and_eq_true, decide_eq_true_eq] at hp'
      have hj := job_in hg i
      have := h1 i hi
      have := cs_mono f i (show (jen l i).toNat ≤ b by omega)
      simp only [if_true]; omega
  omega
theorem eb_le {l : List Job} (i t : Nat) (hn : 0 ≤ jnd l i) : cs (eb l) i t ≤ jnd l i := by
  induction t with
  | zero => exact hn
  | succ t ih =>
    simp only [cs]
    by_cases h : eb l t = i
    · have := (eb_ok (l := l) (t := t)).1 (by omega)
      rw [h, Int.toNat_natCast] at this
      rw [dec_t h]
      simp only [indB, if_true]; omega
    · rw [dec_f h]; simp only [indB, Bool.false_eq_true, if_false]; omega
theorem eb_start {l : List Job} {t : Nat} (h : 0 ≤ eb l t) : jst l (eb l t).toNat ≤ t := ((eb_ok (l := l) (t := t)).1 h).1
/-- One late with the nearest end first: a demand too great. -/
theorem over {l : List Job} (hg : ∀ x ∈ l, goodJ x) (hl : lateL l (eb l) ≠ []) : ∃ a b : Nat, a < b ∧ b ≤ 24 ∧ (b : Int) - a < dem l a b := by
  obtain ⟨i, hi, hc⟩ := late_some hl
  have hj := job_in hg i
  obtain ⟨D, hD⟩ : ∃ D : Nat, jen l i = D := ⟨(jen l i).toNat, by omega⟩
  obtain ⟨S, hS⟩ : ∃ S : Nat, jst l i = S := ⟨(jst l i).toNat, by omega⟩
  rw [hD, Int.toNat_natCast] at hc
  -- a run of slots that all go to jobs with so near an end
  let good : Nat → Prop := fun u => 0 ≤ eb l u ∧ jen l (eb l u).toNat ≤ D
  have h0 : ∀ u, S ≤ u → u < D → good u := by
    intro u h1 h2
    have := cs_mono (eb l) i (show u ≤ D by omega)
    have := (eb_ok (l := l) (t := u)).2 i hi (by omega) (by omega)
    exact ⟨this.1, by rw [hD] at this; exact this.2⟩
  have hrun : ∀ s : Nat, (∀ u, s ≤ u → u < D → good u) → ∃ t0, t0 ≤ s ∧ (∀ u, t0 ≤ u → u < D → good u) ∧ (t0 = 0 ∨ ¬ good (t0 - 1)) := by
    intro s
    induction s with
    | zero => intro h; exact ⟨0, by omega, h, .inl rfl⟩
    | succ s ih =>
      intro h
      rcases Classical.em (good s) with hh | hh
      · obtain ⟨t0, a1, a2, a3⟩ := ih (fun u h1 h2 => by
          rcases Nat.lt_or_ge s u with h3 | h3
          · exact h u (by omega) h2
          · rw [show u = s by omega]; exact hh)
        exact ⟨t0, by omega, a2, a3⟩
      · exact ⟨s + 1, by omega, h, .inr (by simpa using hh)⟩
  obtain ⟨t0, a1, a2, a3⟩ := hrun S h0
  have ht0 : t0 < D := by omega
  refine ⟨t0, D, ht0, by omega, ?_⟩
  -- those served in the run start in it
  have hst : ∀ u, t0 ≤ u → u < D → (t0 : Int) ≤ jst l (eb l u).toNat := by
    intro u h1 h2
    obtain ⟨g1, g2⟩ := a2 u h1 h2
    rcases a3 with h3 | h3
    · have := job_in hg (eb l u).toNat
      omega
    · rcases Int.lt_or_le (jst l (eb l u).toNat) t0 with h4 | h4
      · exfalso
        have hin := eb_in l u
        have he := (eb_ok (l := l) (t := u)).1 g1
        have hm := cs_mono (eb l) (eb l u).toNat (show t0 - 1 ≤ u by omega)
        have := (eb_ok (l := l) (t := t0 - 1)).2 (eb l u).toNat (by omega) (by have := job_in hg (eb l u).toNat; omega) (by omega)
        exact h3 ⟨this.1, by omega⟩
      · exact h4
  have hfull := csP_full l.length (inJ l t0 D) (eb l) (show t0 ≤ D by omega) (fun u h1 h2 => by
    obtain ⟨g1, g2⟩ := a2 u h1 h2
    refine ⟨g1, (eb_in l u).2, ?_⟩
    unfold inJ
    rw [dec_t (hst u h1 h2), dec_t g2]; rfl)
  have hnn : 0 ≤ csP l.length (inJ l t0 D) (eb l) t0 := sumN_nn fun i _ => by
    have := cs_in (eb l) i t0
    split <;> omega
  have hlt : csP l.length (inJ l t0 D) (eb l) D < dem l t0 D := by
    refine sumN_lt (j := i) (fun k hk => ?_) hi ?_
    · have := eb_le (l := l) k D (by have := job_in hg k; omega)
      split <;> omega
    · have : inJ l t0 D i = true := by
        unfold inJ
        rw [dec_t (p := (t0 : Int) ≤ jst l i) (by omega), dec_t (p := jen l i ≤ D) (by omega)]; rfl
      simp only [this, if_true]
      exact hc
  omega

/-! what the code computes of it -/
theorem dem_in {l : List Job} (hg : ∀ x ∈ l, goodJ x) (hl : l.length ≤ 8) (a b : Int) : ∀ k, k ≤ l.length → 0 ≤ sumN k (fun i => if inJ l a b i then jnd l i else 0) ∧ sumN k (fun i => if inJ l a b i then jnd l i else 0) ≤ 6 * k
  | 0, _ => by simp [sumN]
  | k + 1, h => by
    have := dem_in hg hl a b k (by omega)
    have hj := job_in hg k
    simp only [sumN]
    split <;> omega
theorem iDem {l : List Job} (hg : ∀ x ∈ l, goodJ x) (hl : l.length ≤ 8) (a b : Int) : impl_demand l a b = some (dem l a b) ∧ spec_l4Demand l a b = some (dem l a b) := by
  have go : ∀ (j k : Nat), k + j = l.length → whl (impl_demand_l0 l a b) (sumN k (fun i => if inJ l a b i then jnd l i else 0), (k : Int)) = some (dem l a b) := by
    intro j
    induction j with
    | zero =>
      intro k hk
      rw [whl_eq]
      simp only [impl_demand_l0]
      rw [dec_f (by omega), show k = l.length by omega]; rfl
    | succ j ih =>
      intro k hk
      have hk' : k < l.length := by omega
      have hj := job_in hg k
      have hd := dem_in hg hl a b k (by omega)
      obtain ⟨g1, g2, g3⟩ := job_get hk'
      have := ih (k + 1) (by omega)
      rw [show ((k + 1 : Nat) : Int) = (k : Int) + 1 by omega] at this
      rw [whl_eq]
      simp only [impl_demand_l0]
      rw [dec_t (by omega), idx_lt hk']
      simp only [cond_true, Option.bind_some]
      rw [g1, g2, g3, w64 (x := (k : Int) + 1) (by omega)]
      have e : sumN (k + 1) (fun i => if inJ l a b i then jnd l i else 0) = sumN k (fun i => if inJ l a b i then jnd l i else 0) + (if inJ l a b k then jnd l k else 0) := rfl
      rw [e] at this
      rw [w64 (by omega)]
      by_cases h1 : a ≤ jst l k
      · by_cases h2 : jen l k ≤ b
        · rw [dec_t h1, dec_t h2]
          have hi : inJ l a b k = true := by unfold inJ; rw [dec_t h1, dec_t h2]; rfl
          simp only [hi, if_true] at this
          exact this
        · rw [dec_t h1, dec_f h2]
          have hi : inJ l a b k = false := by unfold inJ; rw [dec_f h2]; simp
          simp only [hi, Bool.false_eq_true, if_false, Int.add_zero] at this
          exact this
      · rw [dec_f h1]
        have hi : inJ l a b k = false := by unfold inJ; rw [dec_f h1]; rfl
        simp only [hi, Bool.false_eq_true, if_false, Int.add_zero] at this
        exact this
  have h := go l.length 0 (by omega)
  have h' : impl_demand l a b = some (dem l a b) := by
    unfold impl_demand
    simp only [sumN] at h
    rw [show ((0 : Nat) : Int) = 0 from rfl] at h
    rw [h]; rfl
  exact ⟨h', by rw [← h']; rfl⟩
def demLF (l : List Job) (a b : Int) : Int × Bool := if jobsB l && (inB b 0 24 && inB a 0 (b - 1)) then (dem l a b, true) else (0, false)
theorem iDemA {l : List Job} {a b : Int} (hl : l.length ≤ 1048576) (ha : -100 ≤ a ∧ a ≤ 100) (hb : -100 ≤ b ∧ b ≤ 100) : impl_DemandIn l a b = some (demLF l a b) ∧ spec_DemandIn l a b = some (demLF l a b) := by
  unfold impl_DemandIn spec_DemandIn demLF
  rw [iAreJobs hl, sGoodJobs hl, iIn, iIn, sIn, sIn, w64 (by omega), w64 (by omega)]
  cases h : jobsB l
  · exact ⟨rfl, rfl⟩
  obtain ⟨h8, hg⟩ := jobsB_iff h
  rw [(iDem hg h8 a b).1, (iDem hg h8 a b).2]
  by_cases h1 : 0 ≤ a ∧ a < b ∧ b ≤ 24
  · rw [inB_iff.2 (show 0 ≤ b ∧ b ≤ 24 by omega), inB_iff.2 (show 0 ≤ a ∧ a ≤ b - 1 by omega), inB_iff.2 (show 0 ≤ a ∧ a ≤ 24 by omega), inB_iff.2 (show a + 1 ≤ b ∧ b ≤ 24 by omega)]
    exact ⟨rfl, rfl⟩
  · have e1 : (inB b 0 24 && inB a 0 (b - 1)) = false := by rw [← Bool.not_eq_true, Bool.and_eq_true, inB_iff, inB_iff]; omega
    have e2 : (inB a 0 24 && inB b (a + 1) 24) = false := by rw [← Bool.not_eq_true, Bool.and_eq_true, inB_iff, inB_iff]; omega
    rw [e1]
    constructor
    · revert e1; cases inB b 0 24 <;> cases inB a 0 (b - 1) <;> simp
    · revert e2; cases inB a 0 24 <;> cases inB b (a + 1) 24 <;> simp
/-- The first too great demand. -/
def ovT (l : List Job) (a : Nat) : Nat → Nat → Option Nat
  | 0, _ => none
  | j + 1, b => if (b : Int) - a < dem l a b then some b else ovT l a j (b + 1)
def ovF (l : List Job) : Nat → Nat → Option (Nat × Nat)
  | 0, _ => none
  | j + 1, a => match ovT l a (24 - a) (a + 1) with
    | some b => some (a, b)
    | none => ovF l j (a + 1)
theorem ovT_ok (l : List Job) (a : Nat) : ∀ (j b : Nat), match ovT l a j b with
    | some c => b ≤ c ∧ c < b + j ∧ (c : Int) - a < dem l a c
    | none => ∀ c, b ≤ c → c < b + j → dem l a c ≤ (c : Int) - a
  | 0, b => by simp only [ovT]; intro c h1 h2; omega
  | j + 1, b => by
    simp only [ovT]
    by_cases h : (b : Int) - a < dem l a b
    · rw [if_pos h]; exact ⟨by omega, by omega, h⟩
    · rw [if_neg h]
      have := ovT_ok l a j (b + 1)
      cases hf : ovT l a j (b + 1) with
      | some c => rw [hf] at this; exact ⟨by omega, by omega, this.2.2⟩
      | none =>
        rw [hf] at this
        intro c h1 h2
        by_cases hc : c = b
        · subst hc; omega
        · exact this c (by omega) (by omega)
theorem ovF_ok (l : List Job) : ∀ (j a : Nat), a + j = 24 → match ovF l j a with
    | some p => a ≤ p.1 ∧ p.1 < p.2 ∧ p.2 ≤ 24 ∧ (p.2 : Int) - p.1 < dem l p.1 p.2
    | none => ∀ c b : Nat, a ≤ c → c < b → b ≤ 24 → dem l c b ≤ (b : Int) - c
  | 0, a, h => by simp only [ovF]; intro c b h1 h2 h3; omega
  | j + 1, a, h => by
    simp only [ovF]
    have h1 := ovT_ok l a (24 - a) (a + 1)
    cases hf : ovT l a (24 - a) (a + 1) with
    | some b => rw [hf] at h1; exact ⟨by omega, by omega, by omega, h1.2.2⟩
    | none =>
      rw [hf] at h1
      have h2 := ovF_ok l j (a + 1) (by omega)
      cases hg : ovF l j (a + 1) with
      | some p => rw [hg] at h2; exact ⟨by omega, h2.2⟩
      | none =>
        rw [hg] at h2
        intro c b h3 h4 h5
        by_cases hc : c = a
        · subst hc; exact h1 b (by omega) (by omega)
        · exact h2 c b (by omega) h4 h5
def overLF (l : List Job) : Int × Int × Bool × Bool := if jobsB l then (match ovF l 24 0 with | some p => ((p.1 : Int), (p.2 : Int), true, true) | none => (0, 0, false, true)) else (0, 0, false, false)
theorem iOver {l : List Job} (hl : l.length ≤ 1048576) : impl_FirstOverload l = some (overLF l) ∧ spec_FirstOverload l = some (overLF l) := by
  have inner : ∀ (_ : ∀ x ∈ l, goodJ x) (_ : l.length ≤ 8) (a : Nat), a ≤ 24 → ∀ (j b : Nat), b + j = 25 → whl (impl_FirstOverload_l0 l a) (b : Int) = some (match ovT l a j b with | some c => .done (.done (.done ((a : Int), (c : Int), true, true))) | none => .next ()) := by
    intro hg h8 a ha j
    induction j with
    | zero =>
      intro b hb
      rw [whl_eq]
      simp only [impl_FirstOverload_l0]
      rw [dec_f (by omega)]; rfl
    | succ j ih =>
      intro b hb
      rw [whl_eq]
      simp only [impl_FirstOverload_l0, ovT]
      rw [dec_t (by omega), (iDem hg h8 a b).1]
      simp only [cond_true, Option.bind_some]
      rw [w64 (by omega), w64 (by omega)]
      by_cases h : (b : Int) - a < dem l a b
      · rw [dec_t h, if_pos h]; rfl
      · rw [dec_f h, if_neg h]
        have := ih (b + 1) (by omega)
        rw [show ((b + 1 : Nat) : Int) = (b : Int) + 1 by omega] at this
        exact this
  have outer : ∀ (_ : ∀ x ∈ l, goodJ x) (_ : l.length ≤ 8) (j a : Nat), a + j = 24 → whl (impl_FirstOverload_l1 l) (a : Int) = some (match ovF l j a with | some p => .done ((p.1 : Int), (p.2 : Int), true, true) | none => .next ()) := by
    intro hg h8 j
    induction j with
    | zero =>
      intro a ha
      rw [whl_eq]
      simp only [impl_FirstOverload_l1]
      rw [dec_f (by omega)]; rfl
    | succ j ih =>
      intro a ha
      have h1 := inner hg h8 a (by omega) (24 - a) (a + 1) (by omega)
      have h2 := ih (a + 1) (by omega)
      rw [show ((a + 1 : Nat) : Int) = (a : Int) + 1 by omega] at h1 h2
      rw [whl_eq]
      simp only [impl_FirstOverload_l1, ovF]
      rw [dec_t (by omega), w64 (by omega), h1]
      cases ovT l a (24 - a) (a + 1) with
      | some b => rfl
      | none => exact h2
  have e : impl_FirstOverload l = some (overLF l) := by
    unfold impl_FirstOverload overLF
    rw [iAreJobs hl]
    cases h : jobsB l
    · rfl
    · obtain ⟨h8, hg⟩ := jobsB_iff h
      have := outer hg h8 24 0 (by omega)
      rw [show ((0 : Nat) : Int) = 0 from rfl] at this
      simp only [Option.bind_some, Bool.not_true, cond_false]
      rw [this]
      cases ovF l 24 0 <;> rfl
  refine ⟨e, ?_⟩
  rw [← e]
  unfold impl_FirstOverload spec_FirstOverload
  rw [iAreJobs hl, sGoodJobs hl]
  rfl
/-! can all be met -/
def meetB (l : List Job) : Bool := decide (lateL l (eb l) = [])
theorem fS_tab (f : Nat → Int) {t : Nat} (h : t < 24) : fS (tab f 24 0) t = f t := by
  unfold fS
  rw [List.getD_eq_getElem?_getD, tab_get f 24 0 t h]
  simp
theorem late_tab {l : List Job} (hg : ∀ x ∈ l, goodJ x) (f : Nat → Int) : lateL l (fS (tab f 24 0)) = lateL l f := by
  unfold lateL
  congr 1
  refine List.filter_congr fun i _ => ?_
  have hj := job_in hg i
  rw [cs_congr (fun s hs => fS_tab f (show s < 24 by omega))]
theorem iMeet {l : List Job} (hg : ∀ x ∈ l, goodJ x) (hl : l.length ≤ 8) : impl_canMeet l = some (meetB l) ∧ spec_l4Meet l = some (meetB l) := by
  unfold impl_canMeet spec_l4Meet meetB
  rw [(iEarl hl).1, (iEarl hl).2]
  simp only [Option.bind_some]
  rw [iLateJ hg hl (tab_len _ _ _), sLateJ hg hl (tab_len _ _ _), late_tab hg]
  have : (((lateL l (eb l)).length : Int) == 0) = decide (lateL l (eb l) = []) := by
    cases lateL l (eb l) with
    | nil => rfl
    | cons x xs => simp; omega
  simp only [Option.bind_some, this, and_self]
theorem iMeetA {l : List Job} (hl : l.length ≤ 1048576) : impl_CanMeet l = some (if jobsB l then meetB l else false, jobsB l) ∧ spec_CanMeet l = some (if jobsB l then meetB l else false, jobsB l) := by
  unfold impl_CanMeet spec_CanMeet
  rw [iAreJobs hl, sGoodJobs hl]
  cases h : jobsB l
  · exact ⟨rfl, rfl⟩
  · obtain ⟨h8, hg⟩ := jobsB_iff h
    simp only [Option.bind_some, Bool.not_true, cond_false]
    rw [(iMeet hg h8).1, (iMeet hg h8).2]
    exact ⟨rfl, rfl⟩
theorem meet_iff {l : List Job} (hg : ∀ x ∈ l, goodJ x) : meetB l = true ↔ ∀ a b : Nat, a < b → b ≤ 24 → dem l a b ≤ (b : Int) - a := by
  unfold meetB
  rw [decide_eq_true_eq]
  constructor
  · intro h a b h1 h2
    have := no_over hg (fun t _ ht => eb_start ht) h (show a ≤ b by omega) h2
    omega
  · intro h
    rcases Decidable.em (lateL l (eb l) = []) with hh | hh
    · exact hh
    · obtain ⟨a, b, h1, h2, h3⟩ := over hg hh
      have := h a b h1 h2
      omega
theorem ov_meet {l : List Job} (hg : ∀ x ∈ l, goodJ x) : (ovF l 24 0).isSome = !meetB l := by
  have h := ovF_ok l 24 0 (by omega)
  cases hf : ovF l 24 0 with
  | some p =>
    rw [hf] at h
    have : meetB l = false := by
      rw [← Bool.not_eq_true, meet_iff hg]
      intro hh
      have := hh p.1 p.2 h.2.1 h.2.2.1
      omega
    rw [this]; rfl
  | none =>
    rw [hf] at h
    have : meetB l = true := (meet_iff hg).2 fun a b h1 h2 => h a b (by omega) h1 h2
    rw [this]; rfl

/-! one more -/
theorem app24 {l m : List Job} (h : l.length + m.length ≤ 1048600) : app 24 l m = some (l ++ m) := by
  have : (l.length + m.length + 512) * 24 ≤ (1048600 + 512) * 24 := Nat.mul_le_mul_right _ (by omega)
  simp only [app, roomy, Bool.and_eq_true, decide_eq_true_eq]
  rw [if_pos]; constructor <;> omega
def admF (l : List Job) (x : Job) : List Job × Bool := if jobsB (l ++ [x]) && meetB (l ++ [x]) then (l ++ [x], true) else ([], false)
theorem jobsB_app (l : List Job) (x : Job) : jobsB (l ++ [x]) = (jobsB l && (jobB x && !((l.length : Int) == 8))) := by
  unfold jobsB
  simp only [List.length_append, List.length_singleton, List.all_append, List.all_cons, List.all_nil, Bool.and_true]
  by_cases h : l.length ≤ 7
  · rw [dec_t (p := l.length + 1 ≤ 8) (by omega), dec_t (p := l.length ≤ 8) (by omega), show ((l.length : Int) == 8) = false by simp <;> omega]
    simp
  · rw [dec_f (p := l.length + 1 ≤ 8) (by omega)]
    by_cases h8 : l.length = 8
    · rw [show ((l.length : Int) == 8) = true by simp <;> omega]; simp
    · rw [dec_f (p := l.length ≤ 8) (by omega)]; simp
theorem iAdm {l : List Job} {x : Job} (hl : l.length ≤ 100000) : impl_AdmitJob l x = some (admF l x) ∧ spec_AdmitJob l x = some (admF l x) := by
  unfold impl_AdmitJob spec_AdmitJob admF slices_Clone_impl_Job
  rw [app24 (by simp <;> omega), sGoodJobs (by omega), sJob]
  simp only [List.nil_append, Option.bind_some]
  rw [app24 (by simp <;> omega)]
  simp only [Option.bind_some]
  rw [iAreJobs (by simp <;> omega), jobsB_app]
  cases h : jobsB l
  · exact ⟨rfl, rfl⟩
  cases hx : jobB x
  · exact ⟨rfl, rfl⟩
  cases h8 : ((l.length : Int) == 8)
  · have hg := jobsB_iff (l := l ++ [x]) (by rw [jobsB_app, h, hx, h8]; rfl)
    simp only [Option.bind_some, Bool.not_true, Bool.not_false, Bool.and_self, cond_false, Bool.true_and]
    rw [(iMeet hg.2 hg.1).1, (iMeet hg.2 hg.1).2]
    cases meetB (l ++ [x]) <;> exact ⟨rfl, rfl⟩
  · exact ⟨rfl, rfl⟩
theorem dem_app {l : List Job} {x : Job} (hx : goodJ x) (a b : Int) : dem l a b ≤ dem (l ++ [x]) a b := by
  have hget : ∀ i, i < l.length → (l ++ [x]).getD i ⟨0, 1, 1⟩ = l.getD i ⟨0, 1, 1⟩ := fun i hi => by
    rw [List.getD_eq_getElem?_getD, List.getD_eq_getElem?_getD, List.getElem?_append_left hi]
  unfold dem
  rw [List.length_append, List.length_singleton]
  simp only [sumN]
  have e : sumN l.length (fun i => if inJ (l ++ [x]) a b i then jnd (l ++ [x]) i else 0) = sumN l.length (fun i => if inJ l a b i then jnd l i else 0) := sumN_congr _ _ _ fun i hi => by
    unfold inJ jnd jst jen
    rw [hget i hi]
  have hn : 0 ≤ jnd (l ++ [x]) l.length := by
    unfold jnd
    rw [List.getD_eq_getElem?_getD, List.getElem?_append_right (Nat.le_refl _)]
    simp only [Nat.sub_self, List.getElem?_cons_zero, Option.getD_some]
    have := hx.2.1
    omega
  rw [e]
  split <;> omega
theorem meet_app {l : List Job} {x : Job} (hg : ∀ y ∈ l ++ [x], goodJ y) (h : meetB (l ++ [x]) = true) : meetB l = true := by
  have hgl : ∀ y ∈ l, goodJ y := fun y hy => hg y (by simp [hy])
  rw [meet_iff hg] at h
  rw [meet_iff hgl]
  intro a b h1 h2
  have := h a b h1 h2
  have := dem_app (l := l) (hg x (by simp)) a b
  omega
end Go.VxW
