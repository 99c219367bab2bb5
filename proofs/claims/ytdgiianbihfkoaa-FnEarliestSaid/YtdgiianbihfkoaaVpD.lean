/-
  Jobs and schedules: what the code computes.
-/
import Derived.Test.YtdgiianbihfkoaaVpB
open Go Go.VS
namespace Go.VxW

theorem ixf_impl_Job {l : List Job} (hl : l.length < 2 ^ 60) {g : Job → Option Bool} (p : Job → Bool) (hg : ∀ x ∈ l, g x = some (p x)) : slices_IndexFunc_impl_Job l g = some (ixF p l) := by
  unfold slices_IndexFunc_impl_Job
  rw [ixf_go p (f := slices_IndexFunc_impl_Job_l0 l g) (fun _ => rfl) hl hg]
  have := ixF_ge p l
  by_cases h : ixF p l < 0
  · rw [if_pos h]; simp; omega
  · rw [if_neg h]; rfl
theorem cf_impl_Job {l : List Job} (hl : l.length < 2 ^ 60) {g : Job → Option Bool} (p : Job → Bool) (hg : ∀ x ∈ l, g x = some (p x)) : slices_ContainsFunc_impl_Job l g = some (l.any p) := by
  unfold slices_ContainsFunc_impl_Job
  rw [ixf_impl_Job hl p hg, Option.bind_some, ixF_any]
def jobB (x : Job) : Bool := inB x.Start 0 23 && (inB x.Need 1 6 && inB x.End (x.Start + 1) 24)
def jobsB (l : List Job) : Bool := decide (l.length ≤ 8) && l.all jobB
theorem iJob (x : Job) : impl_isJob x = some (jobB x) := by
  unfold impl_isJob jobB
  simp only [iIn, Option.bind_some]
  cases h : inB x.Start 0 23
  · rfl
  · rw [inB_iff] at h
    rw [w64 (by omega)]
    cases inB x.Need 1 6 <;> rfl
theorem sJob (x : Job) : spec_l4Job x = some (jobB x) := by
  unfold spec_l4Job jobB
  simp only [sIn, Option.bind_some]
  cases h : inB x.Start 0 23
  · rfl
  · rw [inB_iff] at h
    rw [w64 (by omega)]
    cases inB x.Need 1 6 <;> rfl
theorem iAreJobs {l : List Job} (hl : l.length ≤ 1048576) : impl_areJobs l = some (jobsB l) := by
  unfold impl_areJobs jobsB
  rw [cf_impl_Job (by omega) (fun w => !jobB w) (fun w _ => by
    unfold impl_areJobs_1
    rw [iJob]; rfl)]
  have : (!l.any fun w => !jobB w) = l.all jobB := by simp [List.all_eq_not_any_not]
  simp only [Option.bind_some, this]
  by_cases h : l.length ≤ 8
  · rw [dec_t (by omega), dec_t h]; rfl
  · rw [dec_f (by omega), dec_f h]; rfl
theorem iGoodJobs {l : List Job} (hl : l.length ≤ 1048576) : impl_GoodJobs l = some (jobsB l) := by
  unfold impl_GoodJobs
  rw [iAreJobs hl]; rfl
theorem sGoodJobs {l : List Job} (hl : l.length ≤ 1048576) : spec_GoodJobs l = some (jobsB l) := by
  unfold spec_GoodJobs jobsB
  rw [whl_lg l (spec_GoodJobs_l0 l) (fun k (_ : Unit) => k) (fun _ x s => if jobB x then .next s else .done (.done false)) (fun _ => .next ()) (fun k hk s => by
    simp only [spec_GoodJobs_l0]
    rw [dec_t (by omega), idx_lt hk, w64 (by omega)]
    simp only [cond_true, Option.bind_some, sJob]
    by_cases h1 : jobB l[k] = true <;> simp [h1, LR.mapN]) (fun s => by simp [spec_GoodJobs_l0]) (), lgo_all _ _ (fun _ _ _ => rfl)]
  have : decide ((l.length : Int) ≤ 8) = decide (l.length ≤ 8) := by
    by_cases h : l.length ≤ 8
    · rw [dec_t (by omega), dec_t h]
    · rw [dec_f (by omega), dec_f h]
  cases l.all jobB <;> simp [this]
def goodJ (x : Job) : Prop := (0 ≤ x.Start ∧ x.Start ≤ 23) ∧ (1 ≤ x.Need ∧ x.Need ≤ 6) ∧ x.Start + 1 ≤ x.End ∧ x.End ≤ 24
theorem jobB_iff {x : Job} : jobB x = true ↔ goodJ x := by
  unfold jobB goodJ
  simp only [Bool.and_eq_true, inB_iff]
theorem jobsB_iff {l : List Job} (h : jobsB l = true) : l.length ≤ 8 ∧ ∀ x ∈ l, goodJ x := by
  unfold jobsB at h
  simp only [Bool.and_eq_true, decide_eq_true_eq, List.all_eq_true] at h
  exact ⟨h.1, fun x hx => jobB_iff.1 (h.2 x hx)⟩
def jst (l : List Job) (i : Nat) : Int := (l.getD i ⟨0, 1, 1⟩).Start
def jnd (l : List Job) (i : Nat) : Int := (l.getD i ⟨0, 1, 1⟩).Need
def jen (l : List Job) (i : Nat) : Int := (l.getD i ⟨0, 1, 1⟩).End
theorem job_get {l : List Job} {i : Nat} (h : i < l.length) : l[i].Start = jst l i ∧ l[i].Need = jnd l i ∧ l[i].End = jen l i := by
  unfold jst jnd jen
  rw [List.getD_eq_getElem?_getD, List.getElem?_eq_getElem h]; exact ⟨rfl, rfl, rfl⟩
theorem job_in {l : List Job} (hg : ∀ x ∈ l, goodJ x) (i : Nat) : (0 ≤ jst l i ∧ jst l i ≤ 23) ∧ (1 ≤ jnd l i ∧ jnd l i ≤ 6) ∧ jst l i + 1 ≤ jen l i ∧ jen l i ≤ 24 := by
  unfold jst jnd jen
  rw [List.getD_eq_getElem?_getD]
  by_cases h : i < l.length
  · rw [List.getElem?_eq_getElem h]
    exact hg _ (List.getElem_mem h)
  · rw [List.getElem?_eq_none (by omega)]
    simp

/-! who has a slot -/
def eligB (l : List Job) (dn : List Int) (t : Int) (i : Nat) : Bool := decide (jst l i ≤ t) && decide (dn.getD i 0 < jnd l i)
def bestU' (l : List Job) (dn : List Int) (t : Int) (b : Int) (k : Nat) : Int := if eligB l dn t k && (decide (b < 0) || decide (jen l k < jen l b.toNat)) then (k : Int) else b
def bestJ (l : List Job) (dn : List Int) (t : Int) : Int := (List.range l.length).foldl (bestU' l dn t) (-1)
theorem bestJ_fold (l : List Job) (dn : List Int) (t : Int) {n : Nat} : ∀ (ks : List Nat) (b : Int), (∀ k ∈ ks, k < n) → -1 ≤ b → b < n → (0 ≤ b → eligB l dn t b.toNat = true) →
    -1 ≤ ks.foldl (bestU' l dn t) b ∧ ks.foldl (bestU' l dn t) b < n ∧ (0 ≤ ks.foldl (bestU' l dn t) b → eligB l dn t (ks.foldl (bestU' l dn t) b).toNat = true) ∧
    (0 ≤ b → 0 ≤ ks.foldl (bestU' l dn t) b ∧ jen l (ks.foldl (bestU' l dn t) b).toNat ≤ jen l b.toNat) ∧ ∀ k ∈ ks, eligB l dn t k = true → 0 ≤ ks.foldl (bestU' l dn t) b ∧ jen l (ks.foldl (bestU' l dn t) b).toNat ≤ jen l k
  | [], b, _, h1, h2, h3 => ⟨h1, h2, h3, fun h => ⟨h, Int.le_refl _⟩, by simp⟩
  | x :: xs, b, hk, h1, h2, h3 => by
    have hx := hk x (by simp)
    have hu : -1 ≤ bestU' l dn t b x ∧ bestU' l dn t b x < n ∧ (0 ≤ bestU' l dn t b x → eligB l dn t (bestU' l dn t b x).toNat = true) ∧ (0 ≤ b → 0 ≤ bestU' l dn t b x ∧ jen l (bestU' l dn t b x).toNat ≤ jen l b.toNat) ∧ (eligB l dn t x = true → 0 ≤ bestU' l dn t b x ∧ jen l (bestU' l dn t b x).toNat ≤ jen l x) := by
      unfold bestU'
      cases he : eligB l dn t x
      · simp only [Bool.false_and, Bool.false_eq_true, if_false]
        exact ⟨h1, h2, h3, fun h => ⟨h, Int.le_refl _⟩, fun h => by simp at h⟩
      · simp only [Bool.true_and]
        by_cases hc : b < 0 ∨ jen l x < jen l b.toNat
        · have : (decide (b < 0) || decide (jen l x < jen l b.toNat)) = true := by simpa using hc
          rw [this]
          simp only [if_true, Int.toNat_natCast]
          exact ⟨by omega, by omega, fun _ => he, fun h => ⟨by omega, by omega⟩, fun _ => ⟨by omega, Int.le_refl _⟩⟩
        · have : (decide (b < 0) || decide (jen l x < jen l b.toNat)) = false := by simpa using hc
          rw [this]
          simp only [Bool.false_eq_true, if_false]
          exact ⟨h1, h2, h3, fun h => ⟨h, Int.le_refl _⟩, fun _ => by omega⟩
    obtain ⟨u1, u2, u3, u4, u5⟩ := hu
    obtain ⟨r1, r2, r3, r4, r5⟩ := bestJ_fold l dn t xs (bestU' l dn t b x) (fun k h => hk k (by simp [h])) u1 u2 u3
    simp only [List.foldl_cons]
    refine ⟨r1, r2, r3, fun h => ?_, fun k hk' he => ?_⟩
    · have := u4 h
      have := r4 this.1
      omega
    · simp only [List.mem_cons] at hk'
      rcases hk' with rfl | hk'
      · have := u5 he
        have := r4 this.1
        omega
      · exact r5 k hk' he
theorem bestJ_ok (l : List Job) (dn : List Int) (t : Int) : (-1 ≤ bestJ l dn t ∧ bestJ l dn t < l.length) ∧ (0 ≤ bestJ l dn t → eligB l dn t (bestJ l dn t).toNat = true) ∧ ∀ k, k < l.length → eligB l dn t k = true → 0 ≤ bestJ l dn t ∧ jen l (bestJ l dn t).toNat ≤ jen l k := by
  have := bestJ_fold l dn t (n := l.length) (List.range l.length) (-1) (fun k hk => by simpa using hk) (by omega) (by omega) (by omega)
  exact ⟨⟨this.1, this.2.1⟩, this.2.2.1, fun k hk he => this.2.2.2.2 k (by simpa using hk) he⟩
theorem iBestJ {l : List Job} {dn : List Int} (hl : l.length ≤ 8) (hd : dn.length = l.length) {t : Nat} : whl (impl_earliest_l0 l dn t) (-1, 0) = some (bestJ l dn t) := by
  have := whl_lgo (List.range l.length) (impl_earliest_l0 l dn t) (fun k (b : Int) => (b, k)) (fun _ k b => .next (bestU' l dn t b k)) (fun b => b) (fun _ b => -1 ≤ b ∧ b < l.length) (fun k hk b hb => by
    rw [List.length_range] at hk
    have hk2 : k < dn.length := by omega
    simp only [impl_earliest_l0]
    rw [dec_t (by omega), idx_lt hk]
    simp only [cond_true, Option.bind_some, List.getElem_range]
    obtain ⟨g1, g2, g3⟩ := job_get hk
    rw [g1, g2, g3, idx_lt hk2, w64 (x := (k : Int) + 1) (by omega)]
    have hdk : dn.getD k 0 = dn[k] := by rw [List.getD_eq_getElem?_getD, List.getElem?_eq_getElem hk2]; rfl
    refine ⟨?_, ?_⟩
    · unfold bestU' eligB
      rw [hdk]
      by_cases h1 : jst l k ≤ t
      · rw [dec_t h1]
        by_cases h2 : dn[k] < jnd l k
        · simp only [cond_true, Option.bind_some]
          rw [dec_t h2]
          by_cases h3 : b < 0
          · simp [h3, LR.mapN]
          · have hbn : b.toNat < l.length := by omega
            have e : idx l b = some l[b.toNat] := idx_in (by omega) hb.2
            rw [dec_f h3, e]
            obtain ⟨_, _, q3⟩ := job_get hbn
            simp only [cond_true, cond_false, Option.bind_some, q3, Bool.true_and, Bool.false_or]
            by_cases h4 : jen l k < jen l b.toNat
            · rw [dec_t h4]; rfl
            · rw [dec_f h4]; rfl
        · simp only [cond_true, Option.bind_some]
          rw [dec_f h2]; rfl
      · rw [dec_f h1]; rfl
    · intro s' h
      simp only [LR.next.injEq] at h
      subst h
      unfold bestU'; split <;> omega) (fun s _ => by simp [impl_earliest_l0]) (-1) (by omega)
  rw [this, lgo_fold (bestU' l dn t) (fun _ _ _ => rfl)]
  rfl
def dnL (l : List Job) : Nat → List Int
  | 0 => List.replicate l.length 0
  | t + 1 => if 0 ≤ bestJ l (dnL l t) t then (dnL l t).set (bestJ l (dnL l t) t).toNat ((dnL l t).getD (bestJ l (dnL l t) t).toNat 0 + 1) else dnL l t
def eb (l : List Job) (t : Nat) : Int := bestJ l (dnL l t) t
theorem eb_in (l : List Job) (t : Nat) : -1 ≤ eb l t ∧ eb l t < l.length := (bestJ_ok l (dnL l t) t).1
theorem dn_many (l : List Job) (t : Nat) : dnL l t = manyL l.length (eb l) t := by
  induction t with
  | zero => rw [many_zero]; rfl
  | succ t ih =>
    have hb := eb_in l t
    have e : dnL l (t + 1) = if 0 ≤ eb l t then (dnL l t).set (eb l t).toNat ((dnL l t).getD (eb l t).toNat 0 + 1) else dnL l t := rfl
    rw [e, ih]
    by_cases h : 0 ≤ eb l t
    · have hl : (eb l t).toNat < (manyL l.length (eb l) t).length := by rw [many_len]; omega
      rw [if_pos h, List.getD_eq_getElem?_getD, List.getElem?_eq_getElem hl, Option.getD_some, many_get hl, many_set (by omega)]
    · rw [if_neg h, many_skip (by omega)]
theorem elig_iff {l : List Job} {t i : Nat} (hi : i < l.length) : eligB l (dnL l t) t i = true ↔ jst l i ≤ t ∧ cs (eb l) i t < jnd l i := by
  have hl : i < (manyL l.length (eb l) t).length := by rw [many_len]; exact hi
  unfold eligB
  rw [dn_many, List.getD_eq_getElem?_getD, List.getElem?_eq_getElem hl, Option.getD_some, many_get hl]
  simp
theorem eb_ok {l : List Job} {t : Nat} : (0 ≤ eb l t → jst l (eb l t).toNat ≤ t ∧ cs (eb l) (eb l t).toNat t < jnd l (eb l t).toNat) ∧ ∀ k, k < l.length → jst l k ≤ t → cs (eb l) k t < jnd l k → 0 ≤ eb l t ∧ jen l (eb l t).toNat ≤ jen l k := by
  obtain ⟨h1, h2, h3⟩ := bestJ_ok l (dnL l t) t
  exact ⟨fun h => (elig_iff (by have := eb_in l t; omega)).1 (h2 h), fun k hk ha hb => h3 k hk ((elig_iff hk).2 ⟨ha, hb⟩)⟩
theorem bump_j {l : List Job} {t : Nat} (ht : t ≤ 1000) : (bif decide (0 ≤ eb l t) then (idx (dnL l t) (eb l t)).bind fun b77 => (idx (dnL l t) (eb l t)).bind fun _ => some ((dnL l t).set (eb l t).toNat (IntKind.i64.wrap (b77 + 1))) else some (dnL l t)) = some (dnL l (t + 1)) := by
  have hb := eb_in l t
  rw [dn_many, dn_many]
  by_cases h : 0 ≤ eb l t
  · have hl : (eb l t).toNat < (manyL l.length (eb l) t).length := by rw [many_len]; omega
    have hc := cs_in (eb l) (eb l t).toNat t
    rw [dec_t h, idx_in h (by rw [many_len]; omega)]
    simp only [cond_true, Option.bind_some]
    rw [many_get hl, w64 (by omega), many_set (by omega)]
  · rw [dec_f h, many_skip (by omega)]; rfl
theorem iEarl {l : List Job} (hl : l.length ≤ 8) : impl_earliest l = some (tab (eb l) 24 0) ∧ spec_l4Earliest l = some (tab (eb l) 24 0) := by
  have go : ∀ (j t : Nat) (out : List Int), t + j = 24 → out.length = t → whl (impl_earliest_l1 l) (out, dnL l t, (t : Int)) = some (out ++ tab (eb l) j t) ∧ whl (spec_l4Earliest_l1 l) (dnL l t, out, (t : Int)) = some (out ++ tab (eb l) j t) := by
    intro j
    induction j with
    | zero =>
      intro t out h1 h2
      constructor
      · rw [whl_eq]
        simp only [impl_earliest_l1]
        rw [dec_f (by omega)]
        simp [tab]
      · rw [whl_eq]
        simp only [spec_l4Earliest_l1]
        rw [dec_f (by omega)]
        simp [tab]
    | succ j ih =>
      intro t out h1 h2
      have hd : (dnL l t).length = l.length := by rw [dn_many, many_len]
      have e : bestJ l (dnL l t) t = eb l t := rfl
      obtain ⟨i1, i2⟩ := ih (t + 1) (out ++ [eb l t]) (by omega) (by simp [h2])
      constructor
      · rw [whl_eq]
        simp only [impl_earliest_l1]
        rw [dec_t (by omega), iBestJ hl hd, e]
        simp only [cond_true, Option.bind_some]
        rw [bump_j (by omega)]
        simp only [Option.bind_some]
        rw [app_in (by simp <;> omega) (by omega)]
        simp only [Option.bind_some]
        rw [w64 (by omega), show (t : Int) + 1 = ((t + 1 : Nat) : Int) by omega, i1]
        simp [tab]
      · rw [whl_eq]
        simp only [spec_l4Earliest_l1]
        rw [show spec_l4Earliest_l0 = impl_earliest_l0 from rfl, dec_t (by omega), iBestJ hl hd, e]
        simp only [cond_true, Option.bind_some]
        rw [bump_j (by omega)]
        simp only [Option.bind_some]
        rw [app_in (by simp <;> omega) (by omega)]
        simp only [Option.bind_some]
        rw [w64 (by omega), show (t : Int) + 1 = ((t + 1 : Nat) : Int) by omega, i2]
        simp [tab]
  obtain ⟨g1, g2⟩ := go 24 0 [] (by omega) rfl
  rw [show ((0 : Nat) : Int) = 0 from rfl] at g1 g2
  simp only [dnL, List.nil_append] at g1 g2
  unfold impl_earliest spec_l4Earliest
  rw [mkL_in (by omega) (by omega) (by omega)]
  simp only [Option.bind_some, Int.toNat_natCast]
  rw [g1, g2]
  exact ⟨rfl, rfl⟩

/-! is it a schedule; who is late -/
def fS (s : List Int) (t : Nat) : Int := s.getD t (-1)
def okS (l : List Job) (f : Nat → Int) : Nat → Nat → Bool
  | 0, _ => true
  | j + 1, t => if f t < 0 then okS l f j (t + 1) else (decide (jst l (f t).toNat ≤ t) && (decide (cs f (f t).toNat (t + 1) ≤ jnd l (f t).toNat) && okS l f j (t + 1)))
def planB (l : List Job) (s : List Int) : Bool := decide (s.length = 24) && s.all (inB · (-1) ((l.length : Int) - 1))
theorem plan_iff {l : List Job} {s : List Int} (h : planB l s = true) : s.length = 24 ∧ ∀ t, -1 ≤ fS s t ∧ (0 ≤ fS s t → fS s t < l.length) := by
  unfold planB at h
  simp only [Bool.and_eq_true, decide_eq_true_eq, List.all_eq_true, inB_iff] at h
  refine ⟨h.1, fun t => ?_⟩
  unfold fS
  rw [List.getD_eq_getElem?_getD]
  by_cases ht : t < s.length
  · rw [List.getElem?_eq_getElem ht]
    have := h.2 _ (List.getElem_mem ht)
    simp only [Option.getD_some]; omega
  · rw [List.getElem?_eq_none (by omega)]; simp
theorem fS_idx {s : List Int} {t : Nat} (h : t < s.length) : idx s (t : Int) = some (fS s t) := by
  rw [idx_lt h]
  unfold fS
  rw [List.getD_eq_getElem?_getD, List.getElem?_eq_getElem h]; rfl
theorem iSched_go {l : List Job} {s : List Int} (_hg : ∀ x ∈ l, goodJ x) (hp : planB l s = true) : ∀ (j t : Nat), t + j = 24 →
    whl (impl_isSchedule_l0 l s) (manyL l.length (fS s) t, (t : Int)) = some (if okS l (fS s) j t = true then .next () else .done false) := by
  obtain ⟨h24, hr⟩ := plan_iff hp
  intro j
  induction j with
  | zero =>
    intro t h1
    rw [whl_eq]
    simp only [impl_isSchedule_l0]
    rw [dec_f (by omega)]; rfl
  | succ j ih =>
    intro t h1
    obtain ⟨r1, r2⟩ := hr t
    have ih1 := ih (t + 1) (by omega)
    rw [show ((t + 1 : Nat) : Int) = (t : Int) + 1 by omega] at ih1
    have hok : okS l (fS s) (j + 1) t = if fS s t < 0 then okS l (fS s) j (t + 1) else (decide (jst l (fS s t).toNat ≤ t) && (decide (cs (fS s) (fS s t).toNat (t + 1) ≤ jnd l (fS s t).toNat) && okS l (fS s) j (t + 1))) := rfl
    rw [whl_eq, hok]
    simp only [impl_isSchedule_l0]
    rw [dec_t (by omega), fS_idx (by omega)]
    simp only [cond_true, Option.bind_some]
    by_cases hn : fS s t < 0
    · rw [dec_t hn, if_pos hn]
      simp only [cond_true, Option.bind_some]
      rw [w64 (by omega), ← ih1, many_skip hn]
    · have hk : (fS s t).toNat < l.length := by omega
      obtain ⟨k, hkk⟩ : ∃ k : Nat, fS s t = k := ⟨(fS s t).toNat, by omega⟩
      rw [hkk] at hn hk ⊢
      simp only [Int.toNat_natCast] at hk ⊢
      have hl : k < (manyL l.length (fS s) t).length := by rw [many_len]; exact hk
      have hl2 : k < (manyL l.length (fS s) (t + 1)).length := by rw [many_len]; exact hk
      have hc := cs_in (fS s) k t
      rw [dec_f hn, if_neg hn, idx_lt hl, idx_lt hk]
      simp only [cond_false, Option.bind_some]
      rw [many_get hl, w64 (x := cs (fS s) k t + 1) (by omega), many_set hkk, idx_lt hl2, many_get hl2, (job_get hk).1, (job_get hk).2.1, w64 (by omega)]
      simp only [Option.bind_some]
      by_cases h3 : (t : Int) < jst l k
      · rw [dec_t h3, dec_f (p := jst l k ≤ t) (by omega)]; rfl
      · rw [dec_f h3, dec_t (p := jst l k ≤ t) (by omega)]
        simp only [cond_false, Option.bind_some, Bool.true_and]
        by_cases h4 : jnd l k < cs (fS s) k (t + 1)
        · rw [dec_t h4, dec_f (p := cs (fS s) k (t + 1) ≤ jnd l k) (by omega)]; rfl
        · rw [dec_f h4, dec_t (p := cs (fS s) k (t + 1) ≤ jnd l k) (by omega)]
          simp only [cond_false, Option.bind_some, Bool.true_and]
          exact ih1
def schedB (l : List Job) (s : List Int) : Bool := planB l s && okS l (fS s) 24 0
theorem iPlan {l : List Job} {s : List Int} (hl : l.length ≤ 1048576) (hs : s.length ≤ 1048576) : impl_isPlan l s = some (jobsB l && planB l s) := by
  unfold impl_isPlan planB
  rw [iAreJobs hl, cf_int (by omega) (fun x => !inB x (-1) ((l.length : Int) - 1)) (fun x _ => by
    unfold impl_isPlan_1
    rw [iIn, w64 (by omega)]; rfl)]
  have : (!s.any fun x => !inB x (-1) ((l.length : Int) - 1)) = s.all (inB · (-1) ((l.length : Int) - 1)) := by simp [List.all_eq_not_any_not]
  simp only [Option.bind_some, this]
  by_cases h : s.length = 24
  · rw [show ((s.length : Int) == 24) = true by simp <;> omega, dec_t h]
    cases jobsB l <;> rfl
  · rw [show ((s.length : Int) == 24) = false by simp <;> omega, dec_f h]
    cases jobsB l <;> rfl
theorem iSched {l : List Job} {s : List Int} (hg : ∀ x ∈ l, goodJ x) (hl : l.length ≤ 8) (hp : planB l s = true) : impl_isSchedule l s = some (okS l (fS s) 24 0) := by
  unfold impl_isSchedule
  rw [mkL_in (by omega) (by omega) (by omega)]
  have := iSched_go hg hp 24 0 (by omega)
  rw [many_zero, show ((0 : Nat) : Int) = 0 from rfl] at this
  simp only [Option.bind_some, Int.toNat_natCast]
  rw [this]
  cases okS l (fS s) 24 0 <;> rfl
theorem sSched {l : List Job} {s : List Int} (hg : ∀ x ∈ l, goodJ x) (hl : l.length ≤ 8) (hs : s.length ≤ 1048576) : spec_l4Schedule l s = some (schedB l s) := by
  unfold spec_l4Schedule schedB
  rw [w64 (by omega), sAll hs]
  by_cases h : s.length = 24
  · rw [show ((s.length : Int) != 24) = false by simp <;> omega]
    simp only [cond_false, Option.bind_some]
    cases ha : s.all (inB · (-1) ((l.length : Int) - 1))
    · have : planB l s = false := by unfold planB; rw [ha]; simp
      rw [this]; rfl
    · have hp : planB l s = true := by unfold planB; rw [ha, dec_t h]; rfl
      simp only [Bool.not_true, cond_false]
      rw [mkL_in (by omega) (by omega) (by omega), show spec_l4Schedule_l0 = impl_isSchedule_l0 from rfl]
      have := iSched_go hg hp 24 0 (by omega)
      rw [many_zero, show ((0 : Nat) : Int) = 0 from rfl] at this
      simp only [Option.bind_some, Int.toNat_natCast]
      rw [this, hp]
      cases okS l (fS s) 24 0 <;> rfl
  · have : planB l s = false := by unfold planB; rw [dec_f h]; rfl
    rw [show ((s.length : Int) != 24) = true by simp <;> omega, this]; rfl
def lateL (l : List Job) (f : Nat → Int) : List Int := ((List.range l.length).filter fun i => decide (cs f i (jen l i).toNat < jnd l i)).map Int.ofNat
theorem fold_filter (p : Nat → Bool) (ks : List Nat) (a : List Int) : ks.foldl (fun a k => if p k then a ++ [(k : Int)] else a) a = a ++ (ks.filter p).map Int.ofNat := by
  induction ks generalizing a with
  | nil => simp
  | cons x xs ih =>
    simp only [List.foldl_cons]
    rw [ih]
    cases hp : p x <;> simp [hp]
theorem iLateJ {l : List Job} {s : List Int} (hg : ∀ x ∈ l, goodJ x) (hl : l.length ≤ 8) (h24 : s.length = 24) : impl_late l s = some (lateL l (fS s)) := by
  have inner : ∀ (i : Nat) (e : Nat), e ≤ 24 → ∀ (j t : Nat), t + j = e → whl (impl_late_l0 i (s.take e)) (cs (fS s) i t, (t : Int)) = some (cs (fS s) i e) := by
    intro i e he j
    induction j with
    | zero =>
      intro t ht
      rw [whl_eq]
      simp only [impl_late_l0]
      rw [dec_f (by rw [List.length_take]; omega), show t = e by omega]; rfl
    | succ j ih =>
      intro t ht
      have hc := cs_in (fS s) i t
      have hi : idx (s.take e) (t : Int) = some (fS s t) := by
        rw [idx_lt (by rw [List.length_take]; omega), List.getElem_take, ← idx_lt (show t < s.length by omega), fS_idx (by omega)]
      rw [whl_eq]
      simp only [impl_late_l0]
      rw [dec_t (by rw [List.length_take]; omega), hi]
      simp only [cond_true, Option.bind_some]
      rw [w64 (x := cs (fS s) i t + 1) (by omega), w64 (by omega)]
      have := ih (t + 1) (by omega)
      rw [show ((t + 1 : Nat) : Int) = (t : Int) + 1 by omega] at this
      by_cases h : fS s t = i
      · rw [show (fS s t == (i : Int)) = true by simp [h]]
        simp only [cs, dec_t h, indB, if_true] at this
        exact this
      · rw [show (fS s t == (i : Int)) = false by simp [h]]
        simp only [cs, dec_f h, indB, Bool.false_eq_true, if_false, Int.add_zero] at this
        exact this
  unfold impl_late
  have := whl_lgo (List.range l.length) (impl_late_l1 l s) (fun k (a : List Int) => (a, k)) (fun _ k a => .next (if decide (cs (fS s) k (jen l k).toNat < jnd l k) then a ++ [(k : Int)] else a)) (fun a => a) (fun k a => a.length ≤ k) (fun k hk a ha => by
    rw [List.length_range] at hk
    have hj := job_in hg k
    obtain ⟨g1, g2, g3⟩ := job_get hk
    simp only [impl_late_l1]
    rw [dec_t (by omega), idx_lt hk]
    simp only [cond_true, Option.bind_some, List.getElem_range]
    rw [g2, g3, slc_in (by omega) (by omega) (by omega)]
    have := inner k (jen l k).toNat (by omega) (jen l k).toNat 0 (by omega)
    simp only [cs] at this
    rw [show ((0 : Nat) : Int) = 0 from rfl] at this
    simp only [Option.bind_some, Int.toNat_zero, List.drop_zero, Nat.sub_zero]
    rw [this, w64 (by omega)]
    simp only [Option.bind_some]
    by_cases h : cs (fS s) k (jen l k).toNat < jnd l k
    · rw [dec_t h, app_in (by simp <;> omega) (by omega)]
      refine ⟨rfl, fun s' h => ?_⟩
      simp only [if_true, LR.next.injEq] at h
      subst h
      simp; omega
    · rw [dec_f h]
      refine ⟨rfl, fun s' h => ?_⟩
      simp only [Bool.false_eq_true, if_false, LR.next.injEq] at h
      subst h
      omega) (fun a _ => by simp [impl_late_l1]) [] (by simp)
  rw [this, lgo_fold (fun (a : List Int) (k : Nat) => if decide (cs (fS s) k (jen l k).toNat < jnd l k) then a ++ [(k : Int)] else a) (fun _ _ _ => rfl), fold_filter]
  simp [lateL]
theorem sLateJ {l : List Job} {s : List Int} (hg : ∀ x ∈ l, goodJ x) (hl : l.length ≤ 8) (h24 : s.length = 24) : spec_l4Late l s = some (lateL l (fS s)) := by
  have inner : ∀ (i : Nat) (hi : i < l.length) (j t : Nat), t + j = (jen l i).toNat → whl (spec_l4Late_l0 s i l[i]) (cs (fS s) i t, (t : Int)) = some (cs (fS s) i (jen l i).toNat) := by
    intro i hi j
    have hj := job_in hg i
    obtain ⟨_, _, g3⟩ := job_get hi
    induction j with
    | zero =>
      intro t ht
      rw [whl_eq]
      simp only [spec_l4Late_l0]
      rw [g3, dec_f (by omega), show t = (jen l i).toNat by omega]; rfl
    | succ j ih =>
      intro t ht
      have hc := cs_in (fS s) i t
      have hb : spec_l1Bit (fS s t == (i : Int)) = some (indB (decide (fS s t = i))) := by
        unfold spec_l1Bit indB
        by_cases ho : fS s t = i
        · rw [show (fS s t == (i : Int)) = true by simp [ho], dec_t ho]; rfl
        · rw [show (fS s t == (i : Int)) = false by simp [ho], dec_f ho]; rfl
      rw [whl_eq]
      simp only [spec_l4Late_l0]
      rw [g3, dec_t (by omega), fS_idx (by omega)]
      simp only [cond_true, Option.bind_some]
      rw [hb]
      simp only [Option.bind_some]
      have h01 := indB_01 (decide (fS s t = i))
      rw [w64 (by omega), w64 (by omega)]
      have := ih (t + 1) (by omega)
      rw [show ((t + 1 : Nat) : Int) = (t : Int) + 1 by omega] at this
      exact this
  unfold spec_l4Late
  have := whl_lgo (List.range l.length) (spec_l4Late_l1 l s) (fun k (a : List Int) => (a, k)) (fun _ k a => .next (if decide (cs (fS s) k (jen l k).toNat < jnd l k) then a ++ [(k : Int)] else a)) (fun a => a) (fun k a => a.length ≤ k) (fun k hk a ha => by
    rw [List.length_range] at hk
    have hj := job_in hg k
    obtain ⟨g1, g2, g3⟩ := job_get hk
    simp only [spec_l4Late_l1]
    rw [dec_t (by omega), idx_lt hk]
    simp only [cond_true, Option.bind_some, List.getElem_range]
    have := inner k hk (jen l k).toNat 0 (by omega)
    simp only [cs] at this
    rw [show ((0 : Nat) : Int) = 0 from rfl] at this
    rw [this, w64 (by omega), g2]
    simp only [Option.bind_some]
    by_cases h : cs (fS s) k (jen l k).toNat < jnd l k
    · rw [dec_t h, app_in (by simp <;> omega) (by omega)]
      refine ⟨rfl, fun s' h => ?_⟩
      simp only [if_true, LR.next.injEq] at h
      subst h
      simp; omega
    · rw [dec_f h]
      refine ⟨rfl, fun s' h => ?_⟩
      simp only [Bool.false_eq_true, if_false, LR.next.injEq] at h
      subst h
      omega) (fun a _ => by simp [spec_l4Late_l1]) [] (by simp)
  rw [this, lgo_fold (fun (a : List Int) (k : Nat) => if decide (cs (fS s) k (jen l k).toNat < jnd l k) then a ++ [(k : Int)] else a) (fun _ _ _ => rfl), fold_filter]
  simp [lateL]
end Go.VxW
