/-
  FnHeaps, FnSorted: the laws.
-/
import Derived.Test.YtdgiianbihfkoaaVpJ
import Derived.Test.YtdgiianbihfkoaaVpC
open Go Go.VS
namespace Go.VxW

theorem iMany {l : List Work} (hl : l.length ≤ 1048576) (x : Work) : laws_manyOf l x = some (manyW l x) := by
  unfold laws_manyOf
  have := whl_lgo l (laws_manyOf_l0 l x) (fun k (s : Int) => (s, k)) (fun _ y s => .next (s + if eqW x y then 1 else 0)) (fun s => s) (fun k s => 0 ≤ s ∧ s ≤ k) (fun k hk s hs => by
    simp only [laws_manyOf_l0]
    rw [dec_t (by omega), idx_lt hk]
    simp only [cond_true, Option.bind_some]
    rw [w64 (x := s + 1) (by omega), w64 (x := (k : Int) + 1) (by omega)]
    have e : ((x.End == l[k].End) && ((x.Rank == l[k].Rank) && ((x.Id == l[k].Id) && true))) = eqW x l[k] := rfl
    rw [e]
    by_cases h : eqW x l[k] = true
    · rw [h]
      refine ⟨rfl, fun s' h => ?_⟩
      simp only [if_true, LR.next.injEq] at h
      omega
    · simp only [Bool.not_eq_true] at h
      rw [h]
      refine ⟨by simp [LR.mapN], fun s' h => ?_⟩
      simp only [Bool.false_eq_true, if_false, LR.next.injEq] at h
      omega) (fun s _ => by simp [laws_manyOf_l0]) 0 (by simp)
  rw [this, lgo_fold (fun (s : Int) (y : Work) => s + if eqW x y then 1 else 0) (fun _ _ _ => rfl)]
  have hf : ∀ (l : List Work) (s : Int), l.foldl (fun (s : Int) (y : Work) => s + if eqW x y then 1 else 0) s = s + manyW l x := by
    intro l
    induction l with
    | nil => intro s; simp [manyW, sumL]
    | cons y ys ih =>
      intro s
      simp only [List.foldl_cons]
      rw [ih]
      unfold manyW
      simp only [List.map_cons, sumL]; omega
  rw [hf]; simp
theorem many_in (l : List Work) (x : Work) : 0 ≤ manyW l x ∧ manyW l x ≤ l.length := by
  unfold manyW
  induction l with
  | nil => simp [sumL]
  | cons y ys ih =>
    simp only [List.map_cons, sumL, List.length_cons]
    split <;> omega
theorem sameW {l : List Work} (hl : l.length ≤ 1048576) : laws_sameWorks l l = some true := by
  unfold laws_sameWorks
  rw [eqS_go (l := l) (fun k hk => by
    simp only [laws_sameWorks_l0]
    rw [dec_t (by omega), idx_lt hk, w64 (by omega)]
    simp) (by simp [laws_sameWorks_l0])]
  simp
def hpB (l : List Work) : Bool := wksB l && isH l
theorem hpB_iff {l : List Work} : hpB l = true ↔ (l.length ≤ 40 ∧ ∀ x ∈ l, goodW x) ∧ heapF l 0 := by
  unfold hpB
  rw [Bool.and_eq_true, isH_iff]
  constructor
  · rintro ⟨h1, h2⟩; exact ⟨wksB_iff h1, h2⟩
  · rintro ⟨h1, h2⟩; exact ⟨wksB_of h1.1 h1.2, h2⟩
def pushF (l : List Work) (x : Work) : List Work × Bool := if hpB l && (!((l.length : Int) == 40) && wkB x) then ((siF (l ++ [x]) l.length).1, true) else ([], false)
theorem iPush {l : List Work} {x : Work} (hl : l.length ≤ 1048576) : impl_PushHeap l x = some (pushF l x) ∧ spec_PushHeap l x = some (pushF l x) := by
  unfold impl_PushHeap spec_PushHeap pushF
  rw [iIs hl, sWks hl, iWk, sWk]
  cases h : wksB l
  · constructor
    · simp [hpB, h]
    · simp [hpB, h]
  · rw [sIs h]
    obtain ⟨h40, hg⟩ := wksB_iff h
    cases h2 : isH l
    · constructor
      · simp [hpB, h, h2]
      · simp [hpB, h, h2]
    · have e : hpB l = true := by unfold hpB; rw [h, h2]; rfl
      rw [e]
      cases h3 : ((l.length : Int) == 40)
      · cases h4 : wkB x
        · exact ⟨rfl, rfl⟩
        · have hl40 : l.length < 40 := by
            have : ¬ ((l.length : Int) = 40) := by simpa using h3
            omega
          have hg2 : ∀ y ∈ l ++ [x], goodW y := by
            intro y hy
            simp only [List.mem_append, List.mem_singleton] at hy
            rcases hy with hy | rfl
            · exact hg y hy
            · exact wkB_iff.1 h4
          obtain ⟨u1, u2⟩ := iUp hg2 (by simp <;> omega) (k := l.length) (by simp)
          simp only [Option.bind_some, Bool.not_true, Bool.not_false, cond_false, Bool.and_self, if_true, spec_l3Push]
          rw [cloneW (by omega), app24g (l := []) (by simp <;> omega)]
          simp only [Option.bind_some, List.nil_append]
          rw [app24g (by simp <;> omega)]
          simp only [Option.bind_some]
          rw [u1, show ((l ++ [x]).length : Int) - 1 = (l.length : Int) by simp, w64 (by omega), u2]
          exact ⟨rfl, rfl⟩
      · cases wkB x <;> exact ⟨rfl, rfl⟩
def popLF (l : List Work) : List Work × Work × Bool := if hpB l && !((l.length : Int) == 0) then ((popF l).1, (popF l).2, true) else ([], ⟨0, 0, 0⟩, false)
theorem iPopA {l : List Work} (hl : l.length ≤ 1048576) : impl_PopHeap l = some (popLF l) ∧ spec_PopHeap l = some (popLF l) := by
  unfold impl_PopHeap spec_PopHeap popLF
  rw [iIs hl, sWks hl]
  cases h : wksB l
  · constructor
    · simp [hpB, h]
    · simp [hpB, h]
  · rw [sIs h]
    obtain ⟨h40, hg⟩ := wksB_iff h
    cases h2 : isH l
    · constructor
      · simp [hpB, h, h2]
      · simp [hpB, h, h2]
    · have e : hpB l = true := by unfold hpB; rw [h, h2]; rfl
      have hh := isH_iff.1 h2
      rw [e]
      cases h3 : ((l.length : Int) == 0)
      · have h1 : 1 ≤ l.length := by
          have : ¬ ((l.length : Int) = 0) := by simpa using h3
          omega
        obtain ⟨p1, p2⟩ := iPop hg h40 h1
        have hp := (pop_ok hh h1).2.1
        simp only [Option.bind_some, Bool.not_true, Bool.not_false, cond_false, Bool.and_self, if_true]
        rw [cloneW (by omega)]
        simp only [Option.bind_some]
        rw [p1, p2]
        simp only [Option.bind_some]
        rw [app24g (l := []) (by simp <;> omega)]
        simp
      · exact ⟨rfl, rfl⟩
def remLF (l : List Work) (k : Int) : List Work × Bool := if hpB l && inB k 0 ((l.length : Int) - 1) then (remF l k.toNat, true) else ([], false)
theorem iRem {l : List Work} {k : Int} (hl : l.length ≤ 1048576) : impl_RemoveAt l k = some (remLF l k) ∧ spec_RemoveAt l k = some (remLF l k) := by
  unfold impl_RemoveAt spec_RemoveAt remLF
  rw [iIs hl, sWks hl, iIn, w64 (by omega)]
  cases h : wksB l
  · constructor
    · simp [hpB, h]
    · simp [hpB, h]
  · rw [sIs h]
    obtain ⟨h40, hg⟩ := wksB_iff h
    cases h2 : isH l
    · constructor
      · simp [hpB, h, h2]
      · simp [hpB, h, h2]
    · have e : hpB l = true := by unfold hpB; rw [h, h2]; rfl
      have hh := isH_iff.1 h2
      rw [e]
      by_cases hk : 0 ≤ k ∧ k < l.length
      · obtain ⟨n, rfl⟩ := Int.eq_ofNat_of_zero_le hk.1
        have hn : n < l.length := by omega
        have hl1 : l.length - 1 < l.length := by omega
        rw [inB_iff.2 (show 0 ≤ (n : Int) ∧ (n : Int) ≤ (l.length : Int) - 1 by omega)]
        obtain ⟨m, hm⟩ : ∃ m, m = (l.set n (l.getD (l.length - 1) ⟨0, 0, 0⟩)).take (l.length - 1) := ⟨_, rfl⟩
        have hmlen : m.length = l.length - 1 := by rw [hm]; simp
        have hmem : ∀ x ∈ m, goodW x := by
          intro x hx
          rw [hm] at hx
          have hx := List.mem_of_mem_take hx
          rcases List.mem_or_eq_of_mem_set hx with h' | rfl
          · exact hg x h'
          · rw [getD_at hl1]; exact hg _ (List.getElem_mem _)
        have el : idx l ((l.length : Int) - 1) = some (l.getD (l.length - 1) ⟨0, 0, 0⟩) := by
          rw [getD_at hl1, show (l.length : Int) - 1 = ((l.length - 1 : Nat) : Int) by omega]; exact idx_lt hl1
        have es : slc (l.set n (l.getD (l.length - 1) ⟨0, 0, 0⟩)) 0 ((l.length : Int) - 1) = some m := by
          rw [slc_in (by omega) (by omega) (by rw [List.length_set]; omega)]
          simp only [Int.toNat_zero, List.drop_zero]
          rw [show ((l.length : Int) - 1).toNat - 0 = l.length - 1 by omega, hm]
        have es2 : slc l 0 ((l.length : Int) - 1) = some (l.take (l.length - 1)) := by
          rw [slc_in (by omega) (by omega) (by omega)]
          simp only [Int.toNat_zero, List.drop_zero]
          rw [show ((l.length : Int) - 1).toNat - 0 = l.length - 1 by omega]
        have er : remF l n = if n < l.length - 1 then (if (siF m n).2.2 = 0 then (dnF (siF m n).1 n).1 else (siF m n).1) else m := by rw [hm]; rfl
        simp only [Option.bind_some, Bool.not_true, cond_false, Bool.and_self, if_true, Int.toNat_natCast]
        rw [dec_f (p := (n : Int) < 0) (by omega), dec_f (p := (l.length : Int) ≤ (n : Int)) (by omega), cloneW (by omega), app24g (l := []) (by simp <;> omega)]
        simp only [Option.bind_some, cond_false, List.nil_append]
        rw [w64 (x := (l.length : Int) - 1) (by omega), el, idx_lt hn, es2]
        simp only [Option.bind_some]
        rw [es]
        simp only [Option.bind_some, List.length_take]
        rw [er]
        by_cases hn2 : n < l.length - 1
        · have hn3 : n < m.length := by omega
          obtain ⟨u1, u2⟩ := iUp hmem (by omega) hn3
          have hst := siftF_still (f := n + 1) (l := m) (k := n) (s := 0)
          have hset : (l.take (l.length - 1)).set n (l.getD (l.length - 1) ⟨0, 0, 0⟩) = m := by rw [hm, List.take_set]
          rw [dec_t (p := (n : Int) < (l.length : Int) - 1) (by omega), dec_t (p := (n : Int) < ((min (l.length - 1) l.length : Nat) : Int)) (by omega), if_pos hn2, idx_lt (show n < (l.take (l.length - 1)).length by simp <;> omega)]
          simp only [cond_true, Option.bind_some]
          rw [hset, u1, u2]
          simp only [Option.bind_some]
          have hsl : (siF m n).1.length = m.length := by
            have : ∀ (f : Nat) (l : List Work) (k s : Nat), (siftF f l k s).1.length = l.length := by
              intro f
              induction f with
              | zero => intro l k s; rfl
              | succ f ih =>
                intro l k s
                simp only [siftF]
                split
                · rw [ih, swap_len]
                · rfl
            exact this (n + 1) m n 0
          have hsg : ∀ x ∈ (siF m n).1, goodW x := by
            have : ∀ (f : Nat) (l : List Work) (k s : Nat), k < l.length → ∀ x ∈ (siftF f l k s).1, x ∈ l := by
              intro f
              induction f with
              | zero => intro l k s _ x hx; exact hx
              | succ f ih =>
                intro l k s hk x hx
                simp only [siftF] at hx
                split at hx
                · exact swap_mem hk (by omega) x (ih _ _ _ (by rw [swap_len]; omega) x hx)
                · exact hx
            exact fun x hx => hmem x (this (n + 1) m n 0 hn3 x hx)
          by_cases h0 : (siF m n).2.2 = 0
          · have h0' : (siF m n).2.1 = n := hst.2 h0
            rw [h0, if_pos rfl, h0', show (((0 : Nat) : Int) == 0) = true from rfl, beq_self_eq_true]
            simp only [cond_true]
            rw [iDown hsg (by omega) (by omega), sDown hsg (by omega) (by omega)]
            simp only [Option.bind_some]
            have hdl : (dnF (siF m n).1 n).1.length ≤ 40 := by
              have : ∀ (f : Nat) (l : List Work) (k s : Nat), (downF f l k s).1.length = l.length := by
                intro f
                induction f with
                | zero => intro l k s; rfl
                | succ f ih =>
                  intro l k s
                  simp only [downF]
                  split
                  · rfl
                  · rw [ih, swap_len]
              unfold dnF
              rw [this]; omega
            rw [app24g (l := []) (by simp <;> omega)]
            simp
          · have h0' : ¬ (siF m n).2.1 = n := fun h => h0 (hst.1 h)
            rw [if_neg h0, show ((((siF m n).2.2 : Nat) : Int) == 0) = false from beq_eq_false_iff_ne.2 (by omega), show ((((siF m n).2.1 : Nat) : Int) == (n : Int)) = false from beq_eq_false_iff_ne.2 (by omega)]
            simp only [cond_false, Option.bind_some]
            rw [app24g (l := []) (by simp <;> omega)]
            simp
        · rw [dec_f (p := (n : Int) < (l.length : Int) - 1) (by omega), dec_f (p := (n : Int) < ((min (l.length - 1) l.length : Nat) : Int)) (by omega), if_neg hn2]
          simp only [cond_false, Option.bind_some]
          rw [app24g (l := []) (by simp <;> omega)]
          have : l.take (l.length - 1) = m := by
            rw [hm, List.take_set, List.set_eq_of_length_le (by simp <;> omega)]
          rw [this]
          simp
      · have e1 : inB k 0 ((l.length : Int) - 1) = false := by rw [← Bool.not_eq_true, inB_iff]; omega
        rw [e1]
        constructor
        · rfl
        · by_cases h0 : k < 0
          · rw [dec_t h0]; rfl
          · rw [dec_f h0, dec_t (by omega)]; rfl
def mkLF (l : List Work) : List Work × Bool := if wksB l then ((mkF l).1, true) else ([], false)
theorem iMk {l : List Work} (hl : l.length ≤ 1048576) : impl_MakeHeap l = some (mkLF l) ∧ spec_MakeHeap l = some (mkLF l) := by
  unfold impl_MakeHeap spec_MakeHeap mkLF
  rw [iWks hl, sWks hl]
  cases h : wksB l
  · exact ⟨rfl, rfl⟩
  · obtain ⟨h40, hg⟩ := wksB_iff h
    rw [(iMade hg h40).1, (iMade hg h40).2]
    exact ⟨rfl, rfl⟩
def stepLF (l : List Work) : Int × Bool := if wksB l then ((mkF l).2, true) else (0, false)
theorem iStep {l : List Work} (hl : l.length ≤ 1048576) : impl_StepsToMake l = some (stepLF l) ∧ spec_StepsToMake l = some (stepLF l) := by
  unfold impl_StepsToMake spec_StepsToMake stepLF
  rw [iWks hl, sWks hl]
  cases h : wksB l
  · exact ⟨rfl, rfl⟩
  · obtain ⟨h40, hg⟩ := wksB_iff h
    rw [(iMade hg h40).1, (iMade hg h40).2]
    exact ⟨rfl, rfl⟩
def sortLF (l : List Work) : List Work × Bool := if wksB l then (sortF l.length (mkF l).1 [], true) else ([], false)
theorem iSort {l : List Work} (hl : l.length ≤ 1048576) : impl_SortWork l = some (sortLF l) ∧ spec_SortWork l = some (sortLF l) := by
  unfold impl_SortWork spec_SortWork sortLF
  rw [iWks hl, sWks hl]
  cases h : wksB l
  · exact ⟨rfl, rfl⟩
  · obtain ⟨h40, hg⟩ := wksB_iff h
    obtain ⟨m1, m2, m3, m4, m5⟩ := mk_ok h40
    obtain ⟨s1, s2⟩ := sort_go l.length (mkF l).1 [] (fun x hx => hg x (m3 x hx)) (by omega) (by omega) m1 (by simp <;> omega)
    rw [(iMade hg h40).1, (iMade hg h40).2]
    simp only [Option.bind_some, Bool.not_true, cond_false]
    rw [s1, s2]
    exact ⟨rfl, rfl⟩

/-! what is drawn -/
theorem work_t {c : L1Cur} {b : Int} (h : Cur c b) (hb : b ≤ 2000000000000000000) : Tot (spec_l1Cur_work c) fun r => True ∧ Cur r.2 (b + 10) := by
  unfold spec_l1Cur_work
  refine Tot.then (one_t (by assumption) (by omega)) ?_
  rintro ⟨x, c_x⟩ x_c
  dsimp only at x_c ⊢
  refine Tot.cnd (fun hc => ?_) (fun hc => ?_)
  · refine Tot.then (among_t (by assumption) (by omega) (by simp)) ?_
    rintro ⟨p, c_p⟩ ⟨p_m, p_c⟩
    dsimp only at p_m p_c ⊢
    exact .ret ⟨trivial, p_c.mono (by omega)⟩
  · refine Tot.then (pick_t (by assumption) (by omega)) ?_
    rintro ⟨p, c_p⟩ ⟨p_0, p_1, p_c⟩
    dsimp only at p_0 p_1 p_c ⊢
    refine Tot.then (pick_t (by assumption) (by omega)) ?_
    rintro ⟨q, c_q⟩ ⟨q_0, q_1, q_c⟩
    dsimp only at q_0 q_1 q_c ⊢
    refine Tot.then (pick_t (by assumption) (by omega)) ?_
    rintro ⟨r, c_r⟩ ⟨r_0, r_1, r_c⟩
    dsimp only at r_0 r_1 r_c ⊢
    exact .ret ⟨trivial, r_c.mono (by omega)⟩
theorem works_t {c : L1Cur} {b : Int} (h : Cur c b) (hb : b ≤ 1000000000000000000) : Tot (spec_l1Cur_works c) fun r => r.1.length ≤ 41 ∧ Cur r.2 (b + 1000) := by
  unfold spec_l1Cur_works
  refine Tot.then (pick_t (by assumption) (by omega)) ?_
  rintro ⟨x, c_x⟩ ⟨x_0, x_1, x_c⟩
  dsimp only at x_0 x_1 x_c ⊢
  have x_2 := x_1 (by omega)
  refine Tot.then (one_t (by assumption) (by omega)) ?_
  rintro ⟨y, c_y⟩ y_c
  dsimp only at y_c ⊢
  refine Tot.then (P := fun r => (0 ≤ r.1 ∧ r.1 ≤ 41) ∧ Cur ⟨r.2.1, r.2.2.1, r.2.2.2⟩ (b + 10)) ?_ ?_
  · refine Tot.cnd (fun hc => ?_) (fun hc => ?_)
    · refine Tot.then (pick_t (by assumption) (by omega)) ?_
      rintro ⟨z, c_z⟩ ⟨z_0, z_1, z_c⟩
      dsimp only at z_0 z_1 z_c ⊢
      have z_2 := z_1 (by omega)
      rw [w64 (by omega)]
      exact .ret ⟨(by first | omega | (dsimp only; omega)), z_c.mono (by omega)⟩
    · exact .ret ⟨(by first | omega | (dsimp only; omega)), y_c.mono (by omega)⟩
  · rintro ⟨n, co, a, se⟩ ⟨hn, hc0⟩
    dsimp only at hn hc0 ⊢
    refine Tot.then (P := fun r => r.1.length ≤ 41 ∧ Cur ⟨r.2.1, r.2.2.1, r.2.2.2⟩ (b + 1000)) (Tot.whl (fun s => s.2.1.toNat) (fun s => ((0 ≤ s.2.1 ∧ s.2.1 ≤ 41) ∧ s.1.length + s.2.1.toNat ≤ 41) ∧ Cur ⟨s.2.2.1, s.2.2.2.1, s.2.2.2.2⟩ (b + 10 + 10 * (41 - s.2.1))) ?_ ⟨⟨(by first | omega | (dsimp only; omega)), by simp only [List.length_nil]; omega⟩, hc0.mono (by first | omega | (dsimp only; omega))⟩) ?_
    · rintro ⟨l, n, co, a, se⟩ ⟨⟨h1, h2⟩, hc0⟩
      dsimp only at h1 h2 hc0 ⊢
      unfold spec_l1Cur_works_l0
      dsimp only
      refine Tot.cnd (fun hc => ?_) (fun hc => ?_)
      · simp only [decide_eq_true_eq] at hc
        refine Tot.then (work_t (by assumption) (by omega)) ?_
        rintro ⟨y, c_y⟩ ⟨y_p, y_c⟩
        dsimp only at y_p y_c ⊢
        rw [app24g (by simp <;> omega), Option.bind_some, w64 (x := n - 1) (by omega)]
        exact .ret ⟨⟨⟨(by first | omega | (dsimp only; omega)), by simp only [List.length_append, List.length_singleton]; omega⟩, y_c.mono (by first | omega | (dsimp only; omega))⟩, (by first | omega | (dsimp only; omega))⟩
      · simp only [decide_eq_false_iff_not, Int.not_lt] at hc
        exact .ret ⟨(by first | omega | (dsimp only; omega)), hc0.mono (by first | omega | (dsimp only; omega))⟩
    · rintro ⟨l, co, a, se⟩ ⟨h1, hc0⟩
      exact .ret ⟨h1, hc0⟩
theorem mkLF_len (l : List Work) : (mkLF l).1.length ≤ l.length := by
  unfold mkLF
  split
  · rename_i h
    have := (mk_ok (wksB_iff h).1).2.1
    dsimp only; omega
  · simp
theorem heap_t {c : L1Cur} {b : Int} (h : Cur c b) (hb : b ≤ 1000000000000000000) : Tot (spec_l1Cur_heap c) fun r => r.1.length ≤ 41 ∧ Cur r.2 (b + 2000) := by
  unfold spec_l1Cur_heap
  refine Tot.then (works_t (by assumption) (by omega)) ?_
  rintro ⟨l, c_l⟩ ⟨l_p, l_c⟩
  dsimp only at l_p l_c ⊢
  have hm := mkLF_len l
  rw [(iMk (by omega)).2]
  simp only [Option.bind_some]
  refine Tot.then (P := fun r => Cur ⟨r.2.1, r.2.2.1, r.2.2.2⟩ (b + 2000)) ?_ ?_
  · refine Tot.cnd (fun hc => ?_) (fun hc => ?_)
    · exact .ret (l_c.mono (by omega))
    · refine Tot.then (one_t (by assumption) (by omega)) ?_
      rintro ⟨y, c_y⟩ y_c
      dsimp only at y_c ⊢
      exact .ret (y_c.mono (by omega))
  · rintro ⟨t, co, a, se⟩ hc0
    dsimp only at hc0 ⊢
    refine Tot.cnd (fun hc => ?_) (fun hc => ?_)
    · exact .ret ⟨l_p, hc0⟩
    · exact .ret ⟨by dsimp only; omega, hc0⟩
theorem drawPush {l : List Int} (hl : l.length ≤ 1048576) (hb : ∀ x ∈ l, 0 ≤ x ∧ x ≤ 255) : Tot (spec_DrawPushHeap l) fun r => r.1.length ≤ 41 := by
  unfold spec_DrawPushHeap
  have h := cur0 hl hb
  refine Tot.then (heap_t (by assumption) (by omega)) ?_
  rintro ⟨j, c_j⟩ ⟨j_p, j_c⟩
  dsimp only at j_p j_c ⊢
  refine Tot.then (work_t (by assumption) (by omega)) ?_
  rintro ⟨x, c_x⟩ ⟨x_p, x_c⟩
  dsimp only at x_p x_c ⊢
  exact .ret j_p
theorem drawRem {l : List Int} (hl : l.length ≤ 1048576) (hb : ∀ x ∈ l, 0 ≤ x ∧ x ≤ 255) : Tot (spec_DrawRemoveAt l) fun r => r.1.length ≤ 41 := by
  unfold spec_DrawRemoveAt
  have h := cur0 hl hb
  refine Tot.then (heap_t (by assumption) (by omega)) ?_
  rintro ⟨j, c_j⟩ ⟨j_p, j_c⟩
  dsimp only at j_p j_c ⊢
  refine Tot.then (pick_t (by assumption) (by omega)) ?_
  rintro ⟨x, c_x⟩ ⟨x_0, x_1, x_c⟩
  dsimp only at x_0 x_1 x_c ⊢
  exact .ret j_p
theorem drawPop {l : List Int} (hl : l.length ≤ 1048576) (hb : ∀ x ∈ l, 0 ≤ x ∧ x ≤ 255) : Tot (spec_DrawPopHeap l) fun r => r.length ≤ 41 := by
  unfold spec_DrawPopHeap spec_DrawIsHeap
  have h := cur0 hl hb
  refine Tot.bind (Tot.bind ?_)
  refine (heap_t h (by omega)).use ?_
  rintro ⟨s, c⟩ ⟨h1, _⟩
  exact .ret (.ret h1)
theorem drawMk {l : List Int} (hl : l.length ≤ 1048576) (hb : ∀ x ∈ l, 0 ≤ x ∧ x ≤ 255) : Tot (spec_DrawMakeHeap l) fun r => r.length ≤ 41 := by
  unfold spec_DrawMakeHeap
  have h := cur0 hl hb
  refine Tot.then (works_t (by assumption) (by omega)) ?_
  rintro ⟨j, c_j⟩ ⟨j_p, j_c⟩
  dsimp only at j_p j_c ⊢
  exact .ret j_p
theorem drawLess {l : List Int} (hl : l.length ≤ 1048576) (hb : ∀ x ∈ l, 0 ≤ x ∧ x ≤ 255) : Tot (spec_DrawLessWork l) fun _ => True := by
  unfold spec_DrawLessWork
  have h := cur0 hl hb
  refine Tot.then (work_t (by assumption) (by omega)) ?_
  rintro ⟨j, c_j⟩ ⟨j_p, j_c⟩
  dsimp only at j_p j_c ⊢
  refine Tot.then (work_t (by assumption) (by omega)) ?_
  rintro ⟨x, c_x⟩ ⟨x_p, x_c⟩
  dsimp only at x_p x_c ⊢
  exact .ret trivial
/-! the laws -/
theorem less_key {x y : Work} (hx : goodW x) (hy : goodW y) : lessF x y = (decide (key x < key y), true) := by
  unfold lessF
  rw [wkB_iff.2 hx, wkB_iff.2 hy]; rfl
theorem pureHeaps (a b : List Int) (ha : a.length < 2 ^ 47) (hb : b.length < 2 ^ 47) (ka : ∀ x ∈ a, 0 ≤ x ∧ x ≤ 255) (kb : ∀ x ∈ b, 0 ≤ x ∧ x ≤ 255) : laws_FnHeaps a b = some true := by
  unfold laws_FnHeaps
  rw [w64 (by omega)]
  by_cases h : (1048576 : Int) < (a.length : Int) + (b.length : Int)
  · rw [dec_t h]; rfl
  rw [dec_f h]
  simp only [cond_false]
  obtain ⟨⟨l, x⟩, e1, n1⟩ := drawPush (l := a) (by omega) ka
  obtain ⟨⟨m, k⟩, e2, n2⟩ := drawRem (l := b) (by omega) kb
  obtain ⟨t, e3, n3⟩ := drawPop (l := b) (by omega) kb
  dsimp only at n1 n2
  simp only [e1, e2, e3, Option.bind_some]
  rw [(iPush (by omega)).1, (iPush (by omega)).2, (iRem (by omega)).1, (iRem (by omega)).2, (iPopA (l := t) (by omega)).1, (iPopA (l := t) (by omega)).2, (iIsA (l := t) (by omega)).1, (iIsA (l := t) (by omega)).2]
  -- pushing
  have hpush : (pushF l x).2 = true → (hpB l = true ∧ l.length < 40 ∧ goodW x) ∧ (pushF l x).1 = (siF (l ++ [x]) l.length).1 := by
    intro hp
    unfold pushF at hp ⊢
    split at hp
    · rename_i hc
      rw [if_pos hc]
      simp only [Bool.and_eq_true, Bool.not_eq_true', beq_eq_false_iff_ne] at hc
      have := (hpB_iff.1 hc.1).1.1
      exact ⟨⟨hc.1, by omega, wkB_iff.1 hc.2.2⟩, rfl⟩
    · simp at hp
  have hplen : (pushF l x).1.length ≤ 50 := by
    cases hp : (pushF l x).2
    · unfold pushF at hp ⊢
      split
      · rename_i hc
        rw [if_pos hc] at hp; simp at hp
      · simp
    · obtain ⟨q1, q2⟩ := hpush hp
      rw [q2, (push_ok (hpB_iff.1 q1.1).2).2.1]; omega
  -- removing
  have hrem : (remLF m k).2 = true → ∃ n : Nat, k = n ∧ n < m.length ∧ hpB m = true ∧ (remLF m k).1 = remF m n := by
    intro hp
    unfold remLF at hp ⊢
    split at hp
    · rename_i hc
      rw [if_pos hc]
      simp only [Bool.and_eq_true, inB_iff] at hc
      exact ⟨k.toNat, by omega, by omega, hc.1, rfl⟩
    · simp at hp
  have hrlen : (remLF m k).1.length ≤ 50 := by
    cases hp : (remLF m k).2
    · unfold remLF at hp ⊢
      split
      · rename_i hc
        rw [if_pos hc] at hp; simp at hp
      · simp
    · obtain ⟨n, q1, q2, q3, q4⟩ := hrem hp
      rw [q4, (rem_ok (hpB_iff.1 q3).2 q2).2.1]; omega
  have hqlen : (popLF t).1.length ≤ 50 := by
    unfold popLF
    split
    · rename_i hc
      simp only [Bool.and_eq_true, Bool.not_eq_true', beq_eq_false_iff_ne] at hc
      have := hpB_iff.1 hc.1
      dsimp only
      rw [(pop_ok this.2 (by omega)).2.1]; omega
    · simp
  simp only [Option.bind_some, beq_self_eq_true, Bool.not_true, cond_false]
  rw [sameW (l := (pushF l x).1) (by omega), sameW (l := (remLF m k).1) (by omega), sameW (l := (popLF t).1) (by omega)]
  simp only [Option.bind_some, Bool.not_true, cond_false, Bool.and_self, cond_true]
  -- the last two
  have hlast : ((bif (remLF m k).2 then (impl_IsHeap (remLF m k).1).bind fun z => (bif !z.2 then some true else bif !z.1 then some true else bif ((remLF m k).1.length : Int) != IntKind.i64.wrap ((m.length : Int) - 1) then some true else (idx m k).bind fun b160 => (laws_manyOf (remLF m k).1 b160).bind fun b162 => (idx m k).bind fun b163 => (laws_manyOf m b163).bind fun b165 => some (b162 != IntKind.i64.wrap (b165 - 1))).bind fun x155 => bif x155 then some (LR.done false) else some (LR.next ()) else some (LR.next ()) : Option (LR Unit Bool)).bind fun y => match y with | LR.next () => some true | LR.done z => some z) = some true := by
    cases hp : (remLF m k).2
    · rfl
    · obtain ⟨n, rfl, q2, q3, q4⟩ := hrem hp
      have hm := hpB_iff.1 q3
      obtain ⟨r1, r2, r3, r4⟩ := rem_ok hm.2 q2
      have hok : hpB (remF m n) = true := hpB_iff.2 ⟨⟨by omega, fun y hy => hm.1.2 y (r3 y hy)⟩, r1⟩
      rw [q4]
      simp only [cond_true]
      rw [(iIsA (by omega)).1, idx_lt q2]
      have h1 : (wksB (remF m n) && isH (remF m n)) = true := hok
      have h2 : wksB (remF m n) = true := by rw [Bool.and_eq_true] at h1; exact h1.1
      rw [h1, h2]
      simp only [Option.bind_some, Bool.not_true, cond_false]
      rw [iMany (by omega), iMany (by omega), r2, w64 (x := (m.length : Int) - 1) (by omega)]
      have h4 := r4 m[n]
      rw [eqW_iff.2 rfl] at h4
      simp only [if_true] at h4
      have h5 := many_in m m[n]
      simp only [Option.bind_some]
      rw [w64 (by omega), show (((m.length - 1 : Nat) : Int) != (m.length : Int) - 1) = false by simp <;> omega, show (manyW (remF m n) m[n] != manyW m m[n] - 1) = false by simp <;> omega]
      rfl
  have hall : (popLF t).2.1.End == (popLF t).2.1.End := by simp
  cases hp : (pushF l x).2
  · simp only [cond_false, Option.bind_some]
    exact hlast
  · obtain ⟨⟨q1, q2, q3⟩, q4⟩ := hpush hp
    have hl := hpB_iff.1 q1
    obtain ⟨p1, p2, p3, p4⟩ := push_ok (x := x) hl.2
    rw [q4]
    generalize (siF (l ++ [x]) l.length).1 = p at p1 p2 p3 p4 ⊢
    have hpg : ∀ y ∈ p, goodW y := by
      intro y hy
      have := p3 y hy
      simp only [List.mem_append, List.mem_singleton] at this
      rcases this with h | rfl
      · exact hl.1.2 y h
      · exact q3
    have hpp : hpB p = true := hpB_iff.2 ⟨⟨by omega, hpg⟩, p1⟩
    obtain ⟨o1, o2, o3, o4⟩ := pop_ok p1 (by omega)
    have hpop : popLF p = ((popF p).1, (popF p).2, true) := by
      unfold popLF
      rw [hpp, show ((p.length : Int) == 0) = false from beq_eq_false_iff_ne.2 (by omega)]; rfl
    have hq : hpB (popF p).1 = true := hpB_iff.2 ⟨⟨by omega, fun y hy => hpg y (o3 y hy)⟩, o1⟩
    have hroot : (popF p).2 ∈ p := by
      unfold popF
      dsimp only
      rw [getD_at (by omega)]; exact List.getElem_mem _
    have hmin : ∀ y ∈ p, key (popF p).2 ≤ key y := by
      intro y hy
      obtain ⟨i, hi, rfl⟩ := List.getElem_of_mem hy
      have := root_min p1 i hi
      rw [kw_at hi] at this
      exact this
    have g1 : (wksB p && isH p) = true := hpp
    have g2 : wksB p = true := by rw [Bool.and_eq_true] at g1; exact g1.1
    have g3 : (wksB (popF p).1 && isH (popF p).1) = true := hq
    have g4 : wksB (popF p).1 = true := by rw [Bool.and_eq_true] at g3; exact g3.1
    simp only [cond_true]
    rw [(iIsA (l := p) (by omega)).1, (iPopA (l := p) (by omega)).1, hpop]
    simp only [Option.bind_some]
    rw [(iIsA (l := (popF p).1) (by omega)).1, g1, g2, g3, g4, iMany (l := p) (by omega), iMany (l := l) (by omega), p2, o2, p2]
    have h5 := many_in l x
    have h6 := p4 x
    rw [eqW_iff.2 rfl] at h6
    simp only [if_true] at h6
    simp only [Option.bind_some, Bool.not_true, cond_false]
    rw [w64 (x := (l.length : Int) + 1) (by omega), w64 (x := manyW l x + 1) (by omega), show (((l.length + 1 : Nat) : Int) != (l.length : Int) + 1) = false by simp, show (((l.length + 1 - 1 : Nat) : Int) != (l.length : Int)) = false by simp, show (manyW p x != manyW l x + 1) = false by simp <;> omega]
    simp only [cond_false, Option.bind_some]
    rw [whl_lg p _ (fun k (_ : Unit) => k) (fun _ _ s => .next s) (fun _ => .next ()) (fun i hi s => by
      simp only [laws_FnHeaps_l0]
      have hz := List.getElem_mem hi
      have hk := hmin _ hz
      have hmz := o4 p[i]
      have hm1 := many_in (popF p).1 p[i]
      have hm2 := many_in [(popF p).2] p[i]
      rw [dec_t (by omega), idx_lt hi]
      simp only [cond_true, Option.bind_some]
      rw [iLessA, less_key (hpg _ hz) (hpg _ hroot), dec_f (by omega), iMany (by omega), iMany (by omega), iMany (by simp), many_one]
      rw [many_one] at hm2
      simp only [Option.bind_some, Bool.not_true, cond_false]
      rw [w64 (by omega), hmz, w64 (by omega)]
      simp [LR.mapN]) (fun s => by simp [laws_FnHeaps_l0]) (), lgo_fold (fun s _ => s) (fun _ _ _ => rfl)]
    exact hlast
end Go.VxW
