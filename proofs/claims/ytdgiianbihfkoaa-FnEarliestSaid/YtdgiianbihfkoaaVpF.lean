/-
  FnDemand, FnEarliest: the laws.
-/
import Derived.Test.YtdgiianbihfkoaaVpE
open Go Go.VS
namespace Go.VxW

theorem okS_start {l : List Job} {f : Nat → Int} : ∀ (j t : Nat), okS l f j t = true → ∀ s, t ≤ s → s < t + j → 0 ≤ f s → jst l (f s).toNat ≤ s
  | 0, t, _ => by intro s h1 h2; omega
  | j + 1, t, h => by
    intro s h1 h2 h3
    simp only [okS] at h
    by_cases hs : s = t
    · subst hs
      rw [if_neg (by omega)] at h
      simp only [Bool.and_eq_true, decide_eq_true_eq] at h
      exact h.1
    · refine okS_start j (t + 1) ?_ s (by omega) (by omega) h3
      split at h
      · exact h
      · simp only [Bool.and_eq_true] at h
        exact h.2.2
theorem okS_eb {l : List Job} (hg : ∀ x ∈ l, goodJ x) : ∀ (j t : Nat), t + j = 24 → okS l (fS (tab (eb l) 24 0)) j t = true
  | 0, _, _ => rfl
  | j + 1, t, h => by
    have ih := okS_eb hg j (t + 1) (by omega)
    simp only [okS]
    rw [ih, fS_tab _ (show t < 24 by omega)]
    by_cases hn : eb l t < 0
    · rw [if_pos hn]
    · have h1 := eb_start (l := l) (t := t) (by omega)
      have h2 := eb_le (l := l) (eb l t).toNat (t + 1) (by have := job_in hg (eb l t).toNat; omega)
      rw [if_neg hn, dec_t h1, cs_congr (fun s hs => fS_tab (eb l) (show s < 24 by omega)), dec_t h2]; rfl
theorem sched_eb {l : List Job} (hg : ∀ x ∈ l, goodJ x) : planB l (tab (eb l) 24 0) = true ∧ schedB l (tab (eb l) 24 0) = true := by
  have hp : planB l (tab (eb l) 24 0) = true := by
    unfold planB
    rw [tab_len, dec_t rfl, Bool.true_and, List.all_eq_true]
    intro x hx
    obtain ⟨i, hi, rfl⟩ := List.getElem_of_mem hx
    rw [tab_len] at hi
    have := tab_get (eb l) 24 0 i hi
    rw [List.getElem?_eq_getElem (by rw [tab_len]; exact hi)] at this
    simp only [Option.some.injEq] at this
    rw [this]
    have := eb_in l (0 + i)
    exact inB_iff.2 (by omega)
  refine ⟨hp, ?_⟩
  unfold schedB
  rw [hp, okS_eb hg 24 0 (by omega)]; rfl
def earlF (l : List Job) : List Int × Bool := if jobsB l then (tab (eb l) 24 0, true) else ([], false)
theorem iEarlA {l : List Job} (hl : l.length ≤ 1048576) : impl_EarliestFirst l = some (earlF l) ∧ spec_EarliestFirst l = some (earlF l) := by
  unfold impl_EarliestFirst spec_EarliestFirst earlF
  rw [iAreJobs hl, sGoodJobs hl]
  cases h : jobsB l
  · exact ⟨rfl, rfl⟩
  · obtain ⟨h8, hg⟩ := jobsB_iff h
    simp only [Option.bind_some, Bool.not_true, cond_false]
    rw [(iEarl h8).1, (iEarl h8).2]
    exact ⟨rfl, rfl⟩
def lateLF (l : List Job) (s : List Int) : List Int × Bool := if jobsB l && schedB l s then (lateL l (fS s), true) else ([], false)
theorem iLateA {l : List Job} {s : List Int} (hl : l.length ≤ 1048576) (hs : s.length ≤ 1048576) : impl_LateIn l s = some (lateLF l s) ∧ spec_LateIn l s = some (lateLF l s) := by
  unfold impl_LateIn spec_LateIn lateLF
  rw [iPlan hl hs, sGoodJobs hl]
  cases h : jobsB l
  · exact ⟨rfl, rfl⟩
  · obtain ⟨h8, hg⟩ := jobsB_iff h
    simp only [Option.bind_some, Bool.not_true, cond_false, Bool.true_and]
    rw [sSched hg h8 hs]
    cases hp : planB l s
    · have : schedB l s = false := by unfold schedB; rw [hp]; rfl
      rw [this]; exact ⟨rfl, rfl⟩
    · obtain ⟨h24, _⟩ := plan_iff hp
      have e : schedB l s = okS l (fS s) 24 0 := by unfold schedB; rw [hp]; rfl
      rw [iSched hg h8 hp, e, iLateJ hg h8 h24, sLateJ hg h8 h24]
      cases okS l (fS s) 24 0 <;> exact ⟨rfl, rfl⟩
def isF (l : List Job) (s : List Int) : Bool × Bool := if jobsB l then (schedB l s, true) else (false, false)
theorem iIsS {l : List Job} {s : List Int} (hl : l.length ≤ 1048576) (hs : s.length ≤ 1048576) : impl_IsSchedule l s = some (isF l s) ∧ spec_IsSchedule l s = some (isF l s) := by
  unfold impl_IsSchedule spec_IsSchedule isF
  rw [iAreJobs hl, iPlan hl hs, sGoodJobs hl]
  cases h : jobsB l
  · exact ⟨rfl, rfl⟩
  · obtain ⟨h8, hg⟩ := jobsB_iff h
    simp only [Option.bind_some, Bool.not_true, cond_false, Bool.true_and]
    rw [sSched hg h8 hs]
    cases hp : planB l s
    · have : schedB l s = false := by unfold schedB; rw [hp]; rfl
      rw [this]; exact ⟨rfl, rfl⟩
    · have e : schedB l s = okS l (fS s) 24 0 := by unfold schedB; rw [hp]; rfl
      rw [iSched hg h8 hp, e]
      exact ⟨rfl, rfl⟩
theorem sameJ {l : List Job} (hl : l.length ≤ 1048576) : laws_sameJobs l l = some true := by
  unfold laws_sameJobs
  rw [eqS_go (l := l) (fun k hk => by
    simp only [laws_sameJobs_l0]
    rw [dec_t (by omega), idx_lt hk, w64 (by omega)]
    simp) (by simp [laws_sameJobs_l0])]
  simp

/-! what is drawn -/
theorem job_t {c : L1Cur} {b : Int} (h : Cur c b) (hb : b ≤ 2000000000000000000) : Tot (spec_l1Cur_job c) fun r => True ∧ Cur r.2 (b + 10) := by
  unfold spec_l1Cur_job
  refine Tot.then (one_t (by assumption) (by omega)) ?_
  rintro ⟨x, c_x⟩ x_c
  dsimp only at x_c ⊢
  refine Tot.cnd (fun hc => ?_) (fun hc => ?_)
  · refine Tot.then (among_t (by assumption) (by omega) (by simp)) ?_
    rintro ⟨p, c_p⟩ ⟨p_m, p_c⟩
    dsimp only at p_m p_c ⊢
    refine Tot.then (among_t (by assumption) (by omega) (by simp)) ?_
    rintro ⟨q, c_q⟩ ⟨q_m, q_c⟩
    dsimp only at q_m q_c ⊢
    refine Tot.then (among_t (by assumption) (by omega) (by simp)) ?_
    rintro ⟨r, c_r⟩ ⟨r_m, r_c⟩
    dsimp only at r_m r_c ⊢
    exact .ret ⟨trivial, r_c.mono (by omega)⟩
  · refine Tot.then (pick_t (by assumption) (by omega)) ?_
    rintro ⟨p, c_p⟩ ⟨p_0, p_1, p_c⟩
    dsimp only at p_0 p_1 p_c ⊢
    refine Tot.then (pick_t (by assumption) (by omega)) ?_
    rintro ⟨q, c_q⟩ ⟨q_0, q_1, q_c⟩
    dsimp only at q_0 q_1 q_c ⊢
    refine Tot.then (pick_t (by assumption) (by omega)) ?_
    rintro ⟨r, c_r⟩ ⟨r_0, r_1, r_c⟩
    dsimp only at r_0 r_1 r_c ⊢
    refine Tot.then (pick_t (by assumption) (by omega)) ?_
    rintro ⟨s, c_s⟩ ⟨s_0, s_1, s_c⟩
    dsimp only at s_0 s_1 s_c ⊢
    refine Tot.then (P := fun _ => True) ?_ ?_
    · refine Tot.cnd (fun hc => ?_) (fun hc => ?_)
      · exact .ret trivial
      · exact .ret trivial
    · intro e _
      exact .ret ⟨trivial, s_c.mono (by omega)⟩
theorem jobs_t {c : L1Cur} {b : Int} (h : Cur c b) (hb : b ≤ 1000000000000000000) : Tot (spec_l1Cur_jobs c) fun r => r.1.length ≤ 9 ∧ Cur r.2 (b + 200) := by
  unfold spec_l1Cur_jobs
  refine Tot.then (pick_t (by assumption) (by omega)) ?_
  rintro ⟨x, c_x⟩ ⟨x_0, x_1, x_c⟩
  dsimp only at x_0 x_1 x_c ⊢
  have x_2 := x_1 (by omega)
  refine Tot.then (one_t (by assumption) (by omega)) ?_
  rintro ⟨y, c_y⟩ y_c
  dsimp only at y_c ⊢
  refine Tot.then (P := fun r => (0 ≤ r.1 ∧ r.1 ≤ 9) ∧ Cur ⟨r.2.1, r.2.2.1, r.2.2.2⟩ (b + 10)) ?_ ?_
  · refine Tot.cnd (fun hc => ?_) (fun hc => ?_)
    · refine Tot.then (pick_t (by assumption) (by omega)) ?_
      rintro ⟨z, c_z⟩ ⟨z_0, z_1, z_c⟩
      dsimp only at z_0 z_1 z_c ⊢
      have z_2 := z_1 (by omega)
      rw [w64 (by omega)]
      exact .ret ⟨(by first | omega | (dsimp only; omega)), z_c.mono (by omega)⟩
    · exact .ret ⟨(by first | omega | (dsimp only; omega)), y_c.mono (by omega)⟩
  · rintro ⟨n, co, a, se⟩ ⟨hn, hc0⟩
    dsimp only at hn hc0 ⊢
    refine Tot.then (P := fun r => r.1.length ≤ 9 ∧ Cur ⟨r.2.1, r.2.2.1, r.2.2.2⟩ (b + 200)) (Tot.whl (fun s => s.2.1.toNat) (fun s => ((0 ≤ s.2.1 ∧ s.2.1 ≤ 9) ∧ s.1.length + s.2.1.toNat ≤ 9) ∧ Cur ⟨s.2.2.1, s.2.2.2.1, s.2.2.2.2⟩ (b + 10 + 10 * (9 - s.2.1))) ?_ ⟨⟨(by first | omega | (dsimp only; omega)), by simp only [List.length_nil]; omega⟩, hc0.mono (by first | omega | (dsimp only; omega))⟩) ?_
    · rintro ⟨l, n, co, a, se⟩ ⟨⟨h1, h2⟩, hc0⟩
      dsimp only at h1 h2 hc0 ⊢
      unfold spec_l1Cur_jobs_l0
      dsimp only
      refine Tot.cnd (fun hc => ?_) (fun hc => ?_)
      · simp only [decide_eq_true_eq] at hc
        refine Tot.then (job_t (by assumption) (by omega)) ?_
        rintro ⟨y, c_y⟩ ⟨y_p, y_c⟩
        dsimp only at y_p y_c ⊢
        rw [app24 (by simp <;> omega), Option.bind_some, w64 (x := n - 1) (by omega)]
        exact .ret ⟨⟨⟨(by first | omega | (dsimp only; omega)), by simp only [List.length_append, List.length_singleton]; omega⟩, y_c.mono (by first | omega | (dsimp only; omega))⟩, (by first | omega | (dsimp only; omega))⟩
      · simp only [decide_eq_false_iff_not, Int.not_lt] at hc
        exact .ret ⟨(by first | omega | (dsimp only; omega)), hc0.mono (by first | omega | (dsimp only; omega))⟩
    · rintro ⟨l, co, a, se⟩ ⟨h1, hc0⟩
      exact .ret ⟨h1, hc0⟩
theorem drawOver {l : List Int} (hl : l.length ≤ 1048576) (hb : ∀ x ∈ l, 0 ≤ x ∧ x ≤ 255) : Tot (spec_DrawFirstOverload l) fun r => r.length ≤ 9 := by
  unfold spec_DrawFirstOverload spec_DrawGoodJobs
  have h := cur0 hl hb
  refine Tot.bind (Tot.bind ?_)
  refine (jobs_t h (by omega)).use ?_
  rintro ⟨s, c⟩ ⟨h1, _⟩
  exact .ret (.ret h1)
theorem drawDem {l : List Int} (hl : l.length ≤ 1048576) (hb : ∀ x ∈ l, 0 ≤ x ∧ x ≤ 255) : Tot (spec_DrawDemandIn l) fun r => r.1.length ≤ 9 ∧ (-100 ≤ r.2.1 ∧ r.2.1 ≤ 100) ∧ -100 ≤ r.2.2 ∧ r.2.2 ≤ 100 := by
  unfold spec_DrawDemandIn
  have h := cur0 hl hb
  refine Tot.then (pick_t (by assumption) (by omega)) ?_
  rintro ⟨x, c_x⟩ ⟨x_0, x_1, x_c⟩
  dsimp only at x_0 x_1 x_c ⊢
  have x_2 := x_1 (by omega)
  refine Tot.then (jobs_t (by assumption) (by omega)) ?_
  rintro ⟨j, c_j⟩ ⟨j_p, j_c⟩
  dsimp only at j_p j_c ⊢
  refine Tot.then (pick_t (by assumption) (by omega)) ?_
  rintro ⟨y, c_y⟩ ⟨y_0, y_1, y_c⟩
  dsimp only at y_0 y_1 y_c ⊢
  have y_2 := y_1 (by omega)
  rw [w64 (x := x - 1) (by omega), w64 (by omega)]
  exact .ret ⟨j_p, ⟨(by first | omega | (dsimp only; omega)), (by first | omega | (dsimp only; omega))⟩, (by first | omega | (dsimp only; omega)), (by first | omega | (dsimp only; omega))⟩
theorem drawAdm {l : List Int} (hl : l.length ≤ 1048576) (hb : ∀ x ∈ l, 0 ≤ x ∧ x ≤ 255) : Tot (spec_DrawAdmitJob l) fun r => r.1.length ≤ 9 := by
  unfold spec_DrawAdmitJob
  have h := cur0 hl hb
  refine Tot.then (jobs_t (by assumption) (by omega)) ?_
  rintro ⟨j, c_j⟩ ⟨j_p, j_c⟩
  dsimp only at j_p j_c ⊢
  refine Tot.then (job_t (by assumption) (by omega)) ?_
  rintro ⟨x, c_x⟩ ⟨x_p, x_c⟩
  dsimp only at x_p x_c ⊢
  exact .ret j_p
theorem drawIs {l : List Int} (hl : l.length ≤ 1048576) (hb : ∀ x ∈ l, 0 ≤ x ∧ x ≤ 255) : Tot (spec_DrawIsSchedule l) fun r => r.1.length ≤ 9 ∧ r.2.length ≤ 24 := by
  unfold spec_DrawIsSchedule
  have h := cur0 hl hb
  refine Tot.then (jobs_t (by assumption) (by omega)) ?_
  rintro ⟨j, c_j⟩ ⟨j_p, j_c⟩
  dsimp only at j_p j_c ⊢
  rw [(iEarlA (by omega)).2]
  have he : (earlF j).1.length ≤ 24 := by
    unfold earlF
    split
    · dsimp only; rw [tab_len]; omega
    · simp
  simp only [Option.bind_some]
  refine Tot.then (pick_t (by assumption) (by omega)) ?_
  rintro ⟨x, c_x⟩ ⟨x_0, x_1, x_c⟩
  dsimp only at x_0 x_1 x_c ⊢
  have x_2 := x_1 (by omega)
  refine Tot.then (P := fun r => r.1.length ≤ 24 ∧ Cur ⟨r.2.1, r.2.2.1, r.2.2.2⟩ 400) (Tot.whl (fun s => s.2.1.toNat) (fun s => ((0 ≤ s.2.1 ∧ s.2.1 ≤ 6) ∧ s.1.length ≤ 24) ∧ Cur ⟨s.2.2.1, s.2.2.2.1, s.2.2.2.2⟩ (300 + 4 * (6 - s.2.1))) ?_ ⟨⟨(by first | omega | (dsimp only; omega)), he⟩, x_c.mono (by first | omega | (dsimp only; omega))⟩) ?_
  · rintro ⟨s, n, co, a, se⟩ ⟨⟨h1, h2⟩, hc0⟩
    dsimp only at h1 h2 hc0 ⊢
    unfold spec_DrawIsSchedule_l0
    dsimp only
    refine Tot.then (P := fun r => r = true → 0 < n ∧ 0 < s.length) ?_ ?_
    · refine Tot.cnd (fun hc => ?_) (fun hc => ?_)
      · simp only [decide_eq_true_eq] at hc
        refine .ret fun h => ?_
        simp only [decide_eq_true_eq] at h
        omega
      · exact .ret fun h => by simp at h
    · intro q hq
      refine Tot.cnd (fun hc => ?_) (fun hc => ?_)
      · obtain ⟨q1, q2⟩ := hq hc
        refine Tot.then (pick_t (by assumption) (by omega)) ?_
        rintro ⟨i, c_i⟩ ⟨i_0, i_1, i_c⟩
        dsimp only at i_0 i_1 i_c ⊢
        refine Tot.then (pick_t (by assumption) (by omega)) ?_
        rintro ⟨k, c_k⟩ ⟨k_0, k_1, k_c⟩
        dsimp only at k_0 k_1 k_c ⊢
        have i_2 := i_1 (by omega)
        have k_2 := k_1 (by omega)
        rw [idx_in i_0 (by omega), idx_in k_0 (by omega)]
        simp only [Option.bind_some]
        rw [idx_in k_0 (by rw [List.length_set]; omega)]
        simp only [Option.bind_some]
        rw [w64 (by omega)]
        exact .ret ⟨⟨⟨(by first | omega | (dsimp only; omega)), by simp only [List.length_set]; omega⟩, k_c.mono (by first | omega | (dsimp only; omega))⟩, (by first | omega | (dsimp only; omega))⟩
      · exact .ret ⟨h2, hc0.mono (by first | omega | (dsimp only; omega))⟩
  · rintro ⟨s, co, a, se⟩ ⟨h1, hc0⟩
    dsimp only at h1 hc0 ⊢
    refine Tot.then (P := fun r => (r.1 = true → 1 ≤ s.length) ∧ Cur ⟨r.2.1, r.2.2.1, r.2.2.2⟩ 500) ?_ ?_
    · refine Tot.cnd (fun hc => ?_) (fun hc => ?_)
      · simp only [decide_eq_true_eq] at hc
        refine Tot.then (one_t (by assumption) (by omega)) ?_
        rintro ⟨y, c_y⟩ y_c
        dsimp only at y_c ⊢
        exact .ret ⟨fun _ => (by first | omega | (dsimp only; omega)), y_c.mono (by first | omega | (dsimp only; omega))⟩
      · exact .ret ⟨fun h => by simp at h, hc0.mono (by first | omega | (dsimp only; omega))⟩
    · rintro ⟨t, co, a, se⟩ ⟨h3, hc3⟩
      dsimp only at h3 hc3 ⊢
      refine Tot.then (P := fun r => r.length ≤ 24) ?_ ?_
      · refine Tot.cnd (fun hc => ?_) (fun hc => ?_)
        · have := h3 hc
          refine Tot.then (pick_t (by assumption) (by omega)) ?_
          rintro ⟨y, c_y⟩ ⟨y_0, y_1, y_c⟩
          dsimp only at y_0 y_1 y_c ⊢
          refine Tot.then (pick_t (by assumption) (by omega)) ?_
          rintro ⟨z, c_z⟩ ⟨z_0, z_1, z_c⟩
          dsimp only at z_0 z_1 z_c ⊢
          have y_2 := y_1 (by omega)
          rw [idx_in y_0 (by omega)]
          simp only [Option.bind_some]
          exact .ret (by simp only [List.length_set]; omega)
        · exact .ret h1
      · intro r hr
        exact .ret ⟨j_p, hr⟩
theorem drawLateIn {l : List Int} (hl : l.length ≤ 1048576) (hb : ∀ x ∈ l, 0 ≤ x ∧ x ≤ 255) : Tot (spec_DrawLateIn l) fun r => r.1.length ≤ 9 ∧ r.2.length ≤ 24 := by
  unfold spec_DrawLateIn
  refine Tot.bind ((drawIs hl hb).use ?_)
  rintro ⟨a, b⟩ h
  exact .ret h
theorem pureDemand (a b : List Int) (ha : a.length < 2 ^ 47) (hb : b.length < 2 ^ 47) (ka : ∀ x ∈ a, 0 ≤ x ∧ x ≤ 255) (kb : ∀ x ∈ b, 0 ≤ x ∧ x ≤ 255) : laws_FnDemand a b = some true := by
  unfold laws_FnDemand
  rw [w64 (by omega)]
  by_cases h : (1048576 : Int) < (a.length : Int) + (b.length : Int)
  · rw [dec_t h]; rfl
  rw [dec_f h]
  simp only [cond_false]
  obtain ⟨l, e1, n1⟩ := drawOver (l := a) (by omega) ka
  obtain ⟨⟨x, p, q⟩, e2, n2, n3, n4⟩ := drawDem (l := b) (by omega) kb
  obtain ⟨⟨y, j⟩, e3, n5⟩ := drawAdm (l := b) (by omega) kb
  dsimp only at n2 n3 n4 n5
  simp only [e1, e2, e3, Option.bind_some]
  rw [(iOver (by omega)).1, (iOver (by omega)).2, (iDemA (by omega) n3 n4).1, (iDemA (by omega) n3 n4).2, (iAdm (by omega)).1, (iAdm (by omega)).2]
  simp only [Option.bind_some, beq_self_eq_true, Bool.not_true, cond_false, bne_self_eq_false]
  have hal : (admF y j).1.length ≤ 10 := by
    unfold admF
    split
    · simp; omega
    · simp
  rw [sameJ (l := (admF y j).1) (by omega)]
  simp only [Option.bind_some, Bool.not_true, cond_false]
  have hlast : (bif (admF y j).2 then (impl_CanMeet (admF y j).1).bind fun x => (impl_CanMeet y).bind fun x_1 => bif x.2 then bif x.1 then bif x_1.2 then bif x_1.1 then some (((admF y j).1.length : Int) == IntKind.i64.wrap ((y.length : Int) + 1)) else some false else some false else some false else some false else some true) = some true := by
    unfold admF
    cases hc : (jobsB (y ++ [j]) && meetB (y ++ [j]))
    · rfl
    · simp only [Bool.and_eq_true] at hc
      have hj := hc.1
      rw [jobsB_app] at hj
      simp only [Bool.and_eq_true] at hj
      have hg := (jobsB_iff hc.1).2
      simp only [if_true, cond_true]
      rw [(iMeetA (by simp <;> omega)).1, (iMeetA (by omega)).1, hc.1, hc.2, hj.1, meet_app hg hc.2]
      simp only [if_true, Option.bind_some, cond_true, Option.some.injEq]
      rw [w64 (by omega)]
      simp
  cases hk : jobsB l
  · have : overLF l = (0, 0, false, false) := by unfold overLF; rw [hk]; rfl
    rw [this]
    exact hlast
  · obtain ⟨h8, hg⟩ := jobsB_iff hk
    have hm := ov_meet hg
    have hok := ovF_ok l 24 0 (by omega)
    cases ho : ovF l 24 0 with
    | none =>
      rw [ho] at hm
      have hm' : meetB l = true := by cases h : meetB l <;> simp [h] at hm ⊢
      have : overLF l = (0, 0, false, true) := by unfold overLF; rw [hk, ho]; rfl
      rw [this, (iMeetA (by omega)).1, hk, hm']
      exact hlast
    | some r =>
      rw [ho] at hm hok
      have hm' : meetB l = false := by cases h : meetB l <;> simp [h] at hm ⊢
      have : overLF l = ((r.1 : Int), (r.2 : Int), true, true) := by unfold overLF; rw [hk, ho]; rfl
      rw [this, (iMeetA (by omega)).1, hk, hm', (iDemA (a := (r.1 : Int)) (b := (r.2 : Int)) (by omega) (by omega) (by omega)).1]
      have hd : demLF l r.1 r.2 = (dem l r.1 r.2, true) := by
        unfold demLF
        rw [hk, inB_iff.2 (show (0 : Int) ≤ r.2 ∧ (r.2 : Int) ≤ 24 by omega), inB_iff.2 (show (0 : Int) ≤ r.1 ∧ (r.1 : Int) ≤ r.2 - 1 by omega)]; rfl
      rw [hd, w64 (x := (r.2 : Int) - (r.1 : Int)) (by omega)]
      simp only [if_true, cond_true, Option.bind_some, Bool.not_true, cond_false]
      rw [dec_f (by omega)]
      exact hlast
theorem pureEarliest (a b : List Int) (ha : a.length < 2 ^ 47) (hb : b.length < 2 ^ 47) (ka : ∀ x ∈ a, 0 ≤ x ∧ x ≤ 255) (kb : ∀ x ∈ b, 0 ≤ x ∧ x ≤ 255) : laws_FnEarliest a b = some true := by
  unfold laws_FnEarliest
  rw [w64 (by omega)]
  by_cases h : (1048576 : Int) < (a.length : Int) + (b.length : Int)
  · rw [dec_t h]; rfl
  rw [dec_f h]
  simp only [cond_false]
  obtain ⟨⟨l, s⟩, e1, n1, n2⟩ := drawLateIn (l := a) (by omega) ka
  obtain ⟨⟨j, u⟩, e2, n3, n4⟩ := drawIs (l := b) (by omega) kb
  dsimp only at n1 n2 n3 n4
  simp only [e1, e2, Option.bind_some]
  rw [(iLateA (l := l) (s := s) (by omega) (by omega)).1, (iLateA (l := l) (s := s) (by omega) (by omega)).2, (iEarlA (by omega)).1, (iEarlA (by omega)).2, (iMeetA (by omega)).1, (iMeetA (by omega)).2, iGoodJobs (by omega), (iIsS (l := j) (by omega) (by omega)).1, (iIsS (l := j) (by omega) (by omega)).2]
  have hl1 : (lateLF l s).1.length ≤ 9 := by
    unfold lateLF lateL
    split
    · have := List.length_filter_le (fun i => decide (cs (fS s) i (jen l i).toNat < jnd l i)) (List.range l.length)
      simp only [List.length_map, List.length_range] at this ⊢
      omega
    · simp
  have hl2 : (earlF l).1.length ≤ 24 := by
    unfold earlF
    split
    · dsimp only; rw [tab_len]; omega
    · simp
  simp only [Option.bind_some, beq_self_eq_true, Bool.not_true, cond_false]
  rw [sameI (l := (lateLF l s).1) (by omega)]
  simp only [Option.bind_some, Bool.not_true, cond_false]
  rw [sameI (l := (earlF l).1) (by omega)]
  have e3 : (earlF l).2 = jobsB l := by unfold earlF; cases jobsB l <;> rfl
  rw [e3]
  simp only [Option.bind_some, beq_self_eq_true, Bool.not_true, cond_false, cond_true]
  cases hk : jobsB l
  · rfl
  · obtain ⟨h8, hg⟩ := jobsB_iff hk
    obtain ⟨s1, s2⟩ := sched_eb hg
    have e4 : (earlF l).1 = tab (eb l) 24 0 := by unfold earlF; rw [hk]; rfl
    rw [e4, (iIsS (l := l) (by omega) (by rw [tab_len]; omega)).1, (iLateA (l := l) (s := tab (eb l) 24 0) (by omega) (by rw [tab_len]; omega)).1]
    have e5 : isF l (tab (eb l) 24 0) = (true, true) := by unfold isF; rw [hk, s2]; rfl
    have e6 : lateLF l (tab (eb l) 24 0) = (lateL l (eb l), true) := by unfold lateLF; rw [hk, s2, late_tab hg]; rfl
    have e7 : (((lateL l (eb l)).length : Int) == 0) = meetB l := by
      unfold meetB
      cases lateL l (eb l) with
      | nil => rfl
      | cons x xs => simp; omega
    rw [e5, e6]
    simp only [Option.bind_some, if_true, cond_true, Bool.not_true, cond_false, e7, beq_self_eq_true]
    have e8 : (bif (lateLF l s).2 then bif ((lateLF l s).1.length : Int) == 0 then some (!meetB l) else some false else some false) = some false := by
      unfold lateLF
      rw [hk]
      cases hs : schedB l s
      · rfl
      · simp only [Bool.and_self, if_true, cond_true]
        cases hz : (((lateL l (fS s)).length : Int) == 0)
        · rfl
        · have hnil : lateL l (fS s) = [] := by
            simp only [beq_iff_eq] at hz
            exact List.eq_nil_of_length_eq_zero (by omega)
          unfold schedB at hs
          simp only [Bool.and_eq_true] at hs
          have : meetB l = true := (meet_iff hg).2 fun c d h1 h2 => no_over hg (fun t ht h0 => okS_start 24 0 hs.2 t (by omega) (by omega) h0) hnil (by omega) h2
          rw [this]; rfl
    rw [e8]
    rfl
end Go.VxW
