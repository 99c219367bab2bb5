import Derived.Test.YtcgnkhdeckgaaaaVgG2
import Derived.Test.YtcgnkhdeckgaaaaProg
import Derived.Test.YtcgnkhdeckgaaaaVaE
import Derived.KernelRfl
open Go Go.VS
set_option maxRecDepth 8000
set_option maxHeartbeats 4000000
namespace Go.VxW
theorem laws_FnCourts_w {a0 : List Int} {a1 : List Int} {r : (Bool)} (h : laws_FnCourts a0 a1 = some r) {F : List It} {H : Heap} (hS : Own H (F)) {P : AV → Heap → Prop} (hP : ∀ H', Own H' (F) → P (.bool r) H') : ACall C 12 [.fz (a0.map (AV.int .u8)), .fz (a1.map (AV.int .u8))] H P := by
  refine acall_of gC (res := [.tmp 4]) (n := 222) rfl rfl rfl rfl fun K0 hK0 => ?_
  simp only [W, Nat.reduceSub, Nat.reduceAdd, List.replicate]
  unfold laws_FnCourts at h
  refine w_seq fun K1 hK1 => ?_
  refine w_reg gC ?_
  try simp only [W, Nat.reduceAdd]
  refine seq_n hK1 ?_
  refine w_seq fun K2 hK2 => ?_
  refine w_seq fun K3 hK3 => ?_
  refine w_reg gC ?_
  try simp only [W, EE, Nat.reduceAdd]
  refine seq_n hK3 ?_
  refine w_if ?_
  simp only [W]
  refine w_cnd h (fun hc h => ?_) (fun hc h => ?_)
  · refine w_seq fun K4 hK4 => ?_
    refine w_reg gC ?_
    try simp only [W, Nat.reduceAdd]
    refine seq_n hK4 ?_
    refine w_ret ?_
    refine seq_r hK2 ?_
    refine fin_r1 hK0 rfl ?_
    try obtain rfl := Option.some.inj h
    exact hP _ hS
  · refine w_skip ?_
    refine seq_n hK2 ?_
    refine w_seq fun K5 hK5 => ?_
    refine w_reg gC ?_
    try simp only [W, Nat.reduceAdd]
    refine w_call h fun b6 hb6 h => ?_
    obtain ⟨b7, b8⟩ := b6
    try dsimp only at h
    refine spec_DrawStepCourt_w hb6 hS fun v9 qv9 v11 qv11 H hS => ?_
    try simp only [W]
    refine w_alloc hS rfl rfl fun ip13 wp13 H hS => ?_
    try simp only [W]
    refine w_alloc hS rfl rfl fun ip15 wp15 H hS => ?_
    try simp only [W]
    refine w_stv (a := .agg [.int .i64 b7.Now, v9, v11]) (y' := .agg [.int .i64 b7.Now, v9, v11]) 1 hS rfl rfl rfl rfl rfl (by simp only [storA, List.all_cons, List.all_nil, qv9.stor, qv11.stor]; rfl) rfl rfl fun H hS => ?_
    try simp only [W]
    refine w_stv (a := .agg [.int .i64 b8.Kind, .int .i64 b8.K]) (y' := .agg [.int .i64 b8.Kind, .int .i64 b8.K]) 0 hS rfl rfl rfl rfl rfl rfl rfl rfl fun H hS => ?_
    try simp only [W]
    refine seq_n hK5 ?_
    refine w_seq fun K17 hK17 => ?_
    refine w_reg gC ?_
    try simp only [W, EE, reduceIte, Nat.reduceAdd, Nat.reduceLeDiff, Nat.reduceBEq, hS.var 1 rfl, hS.var 0 rfl, List.contains_cons, Nat.reduceBEq, Bool.or_self]
    refine w_callO (rsh := [[.sc, .sl [.sc, .sc, .sc, .sc], .sl [.sc, .sc, .sc]], [.sc]]) (ys := [.agg [.int .i64 b7.Now, .fz (b7.Cases.map e_Case), .fz (b7.Line.map e_Slip)], .agg [.int .i64 b8.Kind, .int .i64 b8.K]]) h rfl (pv_c (sn_agg (sm_c rfl (sm_c (sn_ow hS 2 rfl qv9 (fun _ => rfl)) (sm_c (sn_ow hS 3 rfl qv11 (fun _ => rfl)) (sm_n _))))) (pv_c rfl pv_n)) fun b18 hb18 h => ⟨.tup [.agg [.int .i64 b18.1.Now, .own 4 (b18.1.Cases.map e_Case), .own 3 (b18.1.Line.map e_Slip)], .bool b18.2], impl_StepCourt_w hb18 (Own.nil _) fun v21 qv21 v22 qv22 H hS => TV_ok rfl (TV_a (TC_sc rfl (TC_ow 0 hS rfl qv21 (fun _ _ => by simp [takeE, takeT, takeC, plainA, e_Case]) fun H hS => TC_ow 0 hS rfl qv22 (fun _ _ => by simp [takeE, takeT, takeC, plainA, e_Slip]) fun H hS => TC_nil (TV_p rfl (TV_n rfl))))), (nf_t (nf_c (nf_a (nf_c rfl (nf_c (noFz_o _ (fun _ => rfl) _) (nf_c (noFz_o _ (fun _ => rfl) _) nf_n)))) (nf_c rfl nf_n))), ?_⟩
    refine thaw_tup ?_
    refine TH_a ?_
    refine TH_p (fun _ => rfl) ?_
    refine TH_o hS (fun _ _ => rfl) (fun _ => rfl) fun v24 H qv24 hS => ?_
    refine TH_o hS (fun _ _ => rfl) (fun _ => rfl) fun v26 H qv26 hS => ?_
    refine TH_n ?_
    refine TH_p (fun _ => rfl) ?_
    refine TH_n ?_
    try simp only [List.headD_cons]
    obtain ⟨b19, b20⟩ := b18
    try dsimp only at h
    try simp only [W]
    refine w_alloc hS rfl rfl fun ip27 wp27 H hS => ?_
    try simp only [W]
    refine w_stv (a := .agg [.int .i64 b19.Now, v24, v26]) (y' := .agg [.int .i64 b19.Now, v24, v26]) 0 hS rfl rfl rfl rfl rfl (by simp only [storA, List.all_cons, List.all_nil, qv24.stor, qv26.stor]; rfl) rfl rfl fun H hS => ?_
    try simp only [W]
    refine seq_n hK17 ?_
    refine w_seq fun K29 hK29 => ?_
    refine w_reg gC ?_
    try simp only [W, EE, reduceIte, Nat.reduceAdd, Nat.reduceLeDiff, Nat.reduceBEq, hS.var 4 rfl, hS.var 3 rfl, List.contains_cons, Nat.reduceBEq, Bool.or_self]
    refine w_callO (rsh := [[.sc, .sl [.sc, .sc, .sc, .sc], .sl [.sc, .sc, .sc]], [.sc]]) (ys := [.agg [.int .i64 b7.Now, .fz (b7.Cases.map e_Case), .fz (b7.Line.map e_Slip)], .agg [.int .i64 b8.Kind, .int .i64 b8.K]]) h rfl (pv_c (sn_agg (sm_c rfl (sm_c (sn_ow hS 5 rfl qv9 (fun _ => rfl)) (sm_c (sn_ow hS 6 rfl qv11 (fun _ => rfl)) (sm_n _))))) (pv_c rfl pv_n)) fun b30 hb30 h => ⟨.tup [.agg [.int .i64 b30.1.Now, .own 4 (b30.1.Cases.map e_Case), .own 3 (b30.1.Line.map e_Slip)], .bool b30.2], spec_StepCourt_w hb30 (Own.nil _) fun v33 qv33 v34 qv34 H hS => TV_ok rfl (TV_a (TC_sc rfl (TC_ow 0 hS rfl qv33 (fun _ _ => by simp [takeE, takeT, takeC, plainA, e_Case]) fun H hS => TC_ow 0 hS rfl qv34 (fun _ _ => by simp [takeE, takeT, takeC, plainA, e_Slip]) fun H hS => TC_nil (TV_p rfl (TV_n rfl))))), (nf_t (nf_c (nf_a (nf_c rfl (nf_c (noFz_o _ (fun _ => rfl) _) (nf_c (noFz_o _ (fun _ => rfl) _) nf_n)))) (nf_c rfl nf_n))), ?_⟩
    refine thaw_tup ?_
    refine TH_a ?_
    refine TH_p (fun _ => rfl) ?_
    refine TH_o hS (fun _ _ => rfl) (fun _ => rfl) fun v36 H qv36 hS => ?_
    refine TH_o hS (fun _ _ => rfl) (fun _ => rfl) fun v38 H qv38 hS => ?_
    refine TH_n ?_
    refine TH_p (fun _ => rfl) ?_
    refine TH_n ?_
    try simp only [List.headD_cons]
    obtain ⟨b31, b32⟩ := b30
    try dsimp only at h
    try simp only [W]
    refine w_alloc hS rfl rfl fun ip39 wp39 H hS => ?_
    try simp only [W]
    refine w_stv (a := .agg [.int .i64 b31.Now, v36, v38]) (y' := .agg [.int .i64 b31.Now, v36, v38]) 0 hS rfl rfl rfl rfl rfl (by simp only [storA, List.all_cons, List.all_nil, qv36.stor, qv38.stor]; rfl) rfl rfl fun H hS => ?_
    try simp only [W]
    refine seq_n hK29 ?_
    refine w_seq fun K41 hK41 => ?_
    refine w_seq fun K42 hK42 => ?_
    obtain ⟨y44, h, g45⟩ := Option.bind_eq_some_iff.1 h
    refine w_join gC (fun s H => ∃ x43 : Bool, y44 = (x43) ∧ s = (u :: .fz (a1.map (AV.int .u8)) :: u :: u :: u :: .ptr ip13 wp13 0 0 :: u :: .ptr ip27 wp27 0 0 :: .bool b20 :: u :: u :: u :: u :: u :: u :: u :: u :: u :: u :: u :: u :: u :: u :: u :: u :: u :: u :: u :: u :: u :: u :: u :: u :: u :: u :: u :: u :: u :: u :: u :: u :: u :: u :: u :: u :: u :: u :: u :: u :: u :: u :: u :: u :: u :: u :: u :: u :: u :: u :: u :: u :: u :: u :: u :: u :: u :: u :: u :: u :: u :: u :: u :: .bool x43 :: u :: u :: u :: u :: u :: u :: u :: u :: u :: u :: u :: u :: u :: u :: u :: u :: u :: u :: u :: u :: u :: u :: u :: u :: u :: u :: u :: u :: u :: u :: u :: u :: u :: u :: u :: u :: u :: u :: u :: u :: u :: u :: u :: u :: u :: u :: u :: u :: u :: u :: u :: u :: u :: u :: u :: u :: u :: u :: u :: u :: u :: u :: u :: u :: u :: u :: u :: u :: u :: u :: u :: u :: u :: u :: u :: u :: u :: u :: u :: u :: u :: u :: u :: u :: u :: u :: u :: u :: u :: u :: u :: u :: u :: u :: u :: u :: u :: u :: u :: u :: u :: u :: u :: u :: u :: u :: u :: u :: u :: u :: u :: u :: u :: u :: u :: u :: u :: u :: u :: u :: u :: u :: u :: u :: u :: u :: u :: u :: u :: u :: u :: u :: u :: u :: u :: u :: u :: u :: u :: u :: u :: u :: u :: u :: u :: u :: u :: u :: u :: []) ∧ Own H (⟨v9, 4, b7.Cases.map e_Case⟩ :: ⟨v11, 3, b7.Line.map e_Slip⟩ :: ⟨v24, 4, b19.Cases.map e_Case⟩ :: ⟨v26, 3, b19.Line.map e_Slip⟩ :: ⟨.ptr ip13 wp13 0 0, 3, [.agg [.int .i64 b7.Now, v9, v11]]⟩ :: ⟨.ptr ip27 wp27 0 0, 3, [.agg [.int .i64 b19.Now, v24, v26]]⟩ :: F)) (fun K46 hK46 => ?_) (fun s H hq => ?_)
    · refine w_seq fun K47 hK47 => ?_
      refine w_draw0 gC (by kernel_rfl) ?_
      try simp only [W, EE, Nat.reduceAdd]
      rw [b_bneq _ _ _ _ (h := rfl) rfl, resV_s]
      try simp only [W]
      refine w_grdT h (fun hc h => ?_) (fun hc h => ?_)
      · try simp only [W, hc]
        refine seq_n hK47 ?_
        refine w_killE (s' := (u :: .fz (a1.map (AV.int .u8)) :: u :: u :: u :: .ptr ip13 wp13 0 0 :: u :: .ptr ip27 wp27 0 0 :: .bool b20 :: u :: u :: u :: u :: u :: u :: u :: u :: u :: u :: u :: u :: u :: u :: u :: u :: u :: u :: u :: u :: u :: u :: u :: u :: u :: u :: u :: u :: u :: u :: u :: u :: u :: u :: u :: u :: u :: u :: u :: u :: u :: u :: u :: u :: u :: u :: u :: u :: u :: u :: u :: u :: u :: u :: u :: u :: u :: u :: u :: u :: u :: u :: u :: .bool true :: u :: u :: u :: u :: u :: u :: u :: u :: u :: u :: u :: u :: u :: u :: u :: u :: u :: u :: u :: u :: u :: u :: u :: u :: u :: u :: u :: u :: u :: u :: u :: u :: u :: u :: u :: u :: u :: u :: u :: u :: u :: u :: u :: u :: u :: u :: u :: u :: u :: u :: u :: u :: u :: u :: u :: u :: u :: u :: u :: u :: u :: u :: u :: u :: u :: u :: u :: u :: u :: u :: u :: u :: u :: u :: u :: u :: u :: u :: u :: u :: u :: u :: u :: u :: u :: u :: u :: u :: u :: u :: u :: u :: u :: u :: u :: u :: u :: u :: u :: u :: u :: u :: u :: u :: u :: u :: u :: u :: u :: u :: u :: u :: u :: u :: u :: u :: u :: u :: u :: u :: u :: u :: u :: u :: u :: u :: u :: u :: u :: u :: u :: u :: u :: u :: u :: u :: u :: u :: u :: u :: u :: u :: u :: u :: u :: u :: u :: u :: u :: [])) rfl ?_
        exact cut_n hK46 ⟨_, (Option.some.inj h).symm, rfl, (hS.sel 10 [8, 9, 5, 4, 7, 3] (by decide))⟩
      · try simp only [W, EE, reduceIte, Nat.reduceAdd, Nat.reduceLeDiff, hS.var 3 rfl, hS.var 0 rfl, hc]
        refine w_callS (rsh := [[.sc]]) (ys := [.agg [.int .i64 b19.Now, .fz (b19.Cases.map e_Case), .fz (b19.Line.map e_Slip)], .agg [.int .i64 b31.Now, .fz (b31.Cases.map e_Case), .fz (b31.Line.map e_Slip)]]) h rfl (pv_c (sn_agg (sm_c rfl (sm_c (sn_ow hS 5 rfl qv24 (fun _ => rfl)) (sm_c (sn_ow hS 4 rfl qv26 (fun _ => rfl)) (sm_n _))))) (pv_c (sn_agg (sm_c rfl (sm_c (sn_ow hS 2 rfl qv36 (fun _ => rfl)) (sm_c (sn_ow hS 1 rfl qv38 (fun _ => rfl)) (sm_n _))))) pv_n)) fun b48 hb48 h => ⟨.bool b48, laws_sameCourts_w hb48 (Own.nil _) fun H hS => TV_ok rfl (TV_p rfl (TV_n rfl)), ⟨rfl, rfl, fun _ => rfl⟩, ?_⟩
        try simp only [W, reduceIte, Bool.false_eq_true]
        refine w_grdT h (fun hc h => ?_) (fun hc h => ?_)
        · try simp only [W, hc]
          refine seq_n hK47 ?_
          refine w_killE (s' := (u :: .fz (a1.map (AV.int .u8)) :: u :: u :: u :: .ptr ip13 wp13 0 0 :: u :: .ptr ip27 wp27 0 0 :: .bool b20 :: u :: u :: u :: u :: u :: u :: u :: u :: u :: u :: u :: u :: u :: u :: u :: u :: u :: u :: u :: u :: u :: u :: u :: u :: u :: u :: u :: u :: u :: u :: u :: u :: u :: u :: u :: u :: u :: u :: u :: u :: u :: u :: u :: u :: u :: u :: u :: u :: u :: u :: u :: u :: u :: u :: u :: u :: u :: u :: u :: u :: u :: u :: u :: .bool true :: u :: u :: u :: u :: u :: u :: u :: u :: u :: u :: u :: u :: u :: u :: u :: u :: u :: u :: u :: u :: u :: u :: u :: u :: u :: u :: u :: u :: u :: u :: u :: u :: u :: u :: u :: u :: u :: u :: u :: u :: u :: u :: u :: u :: u :: u :: u :: u :: u :: u :: u :: u :: u :: u :: u :: u :: u :: u :: u :: u :: u :: u :: u :: u :: u :: u :: u :: u :: u :: u :: u :: u :: u :: u :: u :: u :: u :: u :: u :: u :: u :: u :: u :: u :: u :: u :: u :: u :: u :: u :: u :: u :: u :: u :: u :: u :: u :: u :: u :: u :: u :: u :: u :: u :: u :: u :: u :: u :: u :: u :: u :: u :: u :: u :: u :: u :: u :: u :: u :: u :: u :: u :: u :: u :: u :: u :: u :: u :: u :: u :: u :: u :: u :: u :: u :: u :: u :: u :: u :: u :: u :: u :: u :: u :: u :: u :: u :: u :: u :: [])) rfl ?_
          exact cut_n hK46 ⟨_, (Option.some.inj h).symm, rfl, (hS.sel 10 [8, 9, 5, 4, 7, 3] (by decide))⟩
        · try simp only [W, EE, reduceIte, Nat.reduceAdd, Nat.reduceLeDiff, hS.var 7 rfl, hc]
          refine w_callS (rsh := [[.sc]]) (ys := [.agg [.int .i64 b7.Now, .fz (b7.Cases.map e_Case), .fz (b7.Line.map e_Slip)]]) h rfl (pv_c (sn_agg (sm_c rfl (sm_c (sn_ow hS 8 rfl qv9 (fun _ => rfl)) (sm_c (sn_ow hS 9 rfl qv11 (fun _ => rfl)) (sm_n _))))) pv_n) fun b49 hb49 h => ⟨.bool b49, impl_GoodCourt_w hb49 (Own.nil _) fun H hS => TV_ok rfl (TV_p rfl (TV_n rfl)), ⟨rfl, rfl, fun _ => rfl⟩, ?_⟩
          try simp only [W, EE, reduceIte, Nat.reduceAdd, Nat.reduceLeDiff, hS.var 7 rfl]
          refine w_callS (rsh := [[.sc]]) (ys := [.agg [.int .i64 b7.Now, .fz (b7.Cases.map e_Case), .fz (b7.Line.map e_Slip)]]) h rfl (pv_c (sn_agg (sm_c rfl (sm_c (sn_ow hS 8 rfl qv9 (fun _ => rfl)) (sm_c (sn_ow hS 9 rfl qv11 (fun _ => rfl)) (sm_n _))))) pv_n) fun b50 hb50 h => ⟨.bool b50, spec_GoodCourt_w hb50 (Own.nil _) fun H hS => TV_ok rfl (TV_p rfl (TV_n rfl)), ⟨rfl, rfl, fun _ => rfl⟩, ?_⟩
          try simp only [W, EE]
          rw [b_bneq _ _ _ _ (h := rfl) rfl, resV_s]
          try simp only [W, reduceIte, Bool.false_eq_true]
          refine seq_n hK47 ?_
          refine w_killE (s' := (u :: .fz (a1.map (AV.int .u8)) :: u :: u :: u :: .ptr ip13 wp13 0 0 :: u :: .ptr ip27 wp27 0 0 :: .bool b20 :: u :: u :: u :: u :: u :: u :: u :: u :: u :: u :: u :: u :: u :: u :: u :: u :: u :: u :: u :: u :: u :: u :: u :: u :: u :: u :: u :: u :: u :: u :: u :: u :: u :: u :: u :: u :: u :: u :: u :: u :: u :: u :: u :: u :: u :: u :: u :: u :: u :: u :: u :: u :: u :: u :: u :: u :: u :: u :: u :: u :: u :: u :: u :: .bool (!(b49 == b50)) :: u :: u :: u :: u :: u :: u :: u :: u :: u :: u :: u :: u :: u :: u :: u :: u :: u :: u :: u :: u :: u :: u :: u :: u :: u :: u :: u :: u :: u :: u :: u :: u :: u :: u :: u :: u :: u :: u :: u :: u :: u :: u :: u :: u :: u :: u :: u :: u :: u :: u :: u :: u :: u :: u :: u :: u :: u :: u :: u :: u :: u :: u :: u :: u :: u :: u :: u :: u :: u :: u :: u :: u :: u :: u :: u :: u :: u :: u :: u :: u :: u :: u :: u :: u :: u :: u :: u :: u :: u :: u :: u :: u :: u :: u :: u :: u :: u :: u :: u :: u :: u :: u :: u :: u :: u :: u :: u :: u :: u :: u :: u :: u :: u :: u :: u :: u :: u :: u :: u :: u :: u :: u :: u :: u :: u :: u :: u :: u :: u :: u :: u :: u :: u :: u :: u :: u :: u :: u :: u :: u :: u :: u :: u :: u :: u :: u :: u :: u :: u :: [])) rfl ?_
          exact cut_n hK46 ⟨_, (Option.some.inj h).symm, rfl, (hS.sel 10 [8, 9, 5, 4, 7, 3] (by decide))⟩
    · obtain ⟨x43, ey, rfl, hS⟩ := hq; obtain rfl := ey.symm
      replace h := g45
      try dsimp only at h
      refine seq_n hK42 ?_
      refine w_if ?_
      simp only [W]
      refine w_cnd h (fun hc h => ?_) (fun hc h => ?_)
      · refine w_seq fun K51 hK51 => ?_
        refine w_reg gC ?_
        try simp only [W, Nat.reduceAdd]
        refine seq_n hK51 ?_
        refine w_ret ?_
        refine seq_r hK41 ?_
        refine fin_r1 hK0 rfl ?_
        try obtain rfl := Option.some.inj h
        exact hP _ (hS.sel 6 [] (by decide))
      · refine w_skip ?_
        refine seq_n hK41 ?_
        refine w_seq fun K52 hK52 => ?_
        refine w_seq fun K53 hK53 => ?_
        refine w_reg gC ?_
        try simp only [W, Nat.reduceAdd]
        refine seq_n hK53 ?_
        obtain ⟨y54, h, g55⟩ := Option.bind_eq_some_iff.1 h
        refine w_join gC (fun s H => y54 = LR.next () ∧ s = (u :: .fz (a1.map (AV.int .u8)) :: u :: u :: u :: u :: u :: u :: u :: u :: u :: u :: u :: u :: u :: u :: u :: u :: u :: u :: u :: u :: u :: u :: u :: u :: u :: u :: u :: u :: u :: u :: u :: u :: u :: u :: u :: u :: u :: u :: u :: u :: u :: u :: u :: u :: u :: u :: u :: u :: u :: u :: u :: u :: u :: u :: u :: u :: u :: u :: u :: u :: u :: u :: u :: u :: u :: u :: u :: u :: u :: u :: u :: u :: u :: u :: u :: u :: u :: u :: u :: u :: u :: u :: u :: u :: u :: u :: u :: u :: u :: u :: u :: u :: u :: u :: u :: u :: u :: u :: u :: u :: u :: u :: u :: u :: u :: u :: u :: u :: u :: u :: u :: u :: u :: u :: u :: u :: u :: u :: u :: u :: u :: u :: u :: u :: u :: u :: u :: u :: u :: u :: u :: u :: u :: u :: u :: u :: u :: u :: u :: u :: u :: u :: u :: u :: u :: u :: u :: u :: u :: u :: u :: u :: u :: u :: u :: u :: u :: u :: u :: u :: u :: u :: u :: u :: u :: u :: u :: u :: u :: u :: u :: u :: u :: u :: u :: u :: u :: u :: u :: u :: u :: u :: u :: u :: u :: u :: u :: u :: u :: u :: u :: u :: u :: u :: u :: u :: u :: u :: u :: u :: u :: u :: u :: u :: u :: u :: u :: u :: u :: u :: u :: u :: u :: u :: u :: u :: u :: u :: u :: u :: []) ∧ Own H (F)) (fun K56 hK56 => ?_) (fun s H hq => ?_)
        · refine w_seq fun K57 hK57 => ?_
          refine w_if ?_
          simp only [W]
          refine w_cnd h (fun hc h => ?_) (fun hc h => ?_)
          · refine w_seq fun K58 hK58 => ?_
            refine w_seq fun K59 hK59 => ?_
            obtain ⟨y61, h, g62⟩ := Option.bind_eq_some_iff.1 h
            refine w_join gC (fun s H => ∃ x60 : Bool, y61 = (x60) ∧ s = (u :: .fz (a1.map (AV.int .u8)) :: u :: u :: u :: .ptr ip13 wp13 0 0 :: u :: .ptr ip27 wp27 0 0 :: u :: u :: u :: u :: u :: u :: u :: u :: u :: u :: u :: u :: u :: u :: u :: u :: u :: u :: u :: u :: u :: u :: u :: u :: u :: u :: u :: u :: u :: u :: u :: u :: u :: u :: u :: u :: u :: u :: u :: u :: u :: u :: u :: u :: u :: u :: u :: u :: u :: u :: u :: u :: u :: u :: u :: u :: u :: u :: u :: u :: u :: u :: u :: u :: u :: u :: u :: u :: u :: u :: u :: u :: u :: u :: u :: u :: u :: u :: u :: u :: u :: u :: u :: u :: .bool x60 :: u :: u :: u :: u :: u :: u :: u :: u :: u :: u :: u :: u :: u :: u :: u :: u :: u :: u :: u :: u :: u :: u :: u :: u :: u :: u :: u :: u :: u :: u :: u :: u :: u :: u :: u :: u :: u :: u :: u :: u :: u :: u :: u :: u :: u :: u :: u :: u :: u :: u :: u :: u :: u :: u :: u :: u :: u :: u :: u :: u :: u :: u :: u :: u :: u :: u :: u :: u :: u :: u :: u :: u :: u :: u :: u :: u :: u :: u :: u :: u :: u :: u :: u :: u :: u :: u :: u :: u :: u :: u :: u :: u :: u :: u :: u :: u :: u :: u :: u :: u :: u :: u :: u :: u :: u :: u :: u :: u :: u :: u :: u :: u :: u :: u :: u :: u :: u :: u :: u :: u :: u :: u :: u :: u :: u :: u :: u :: u :: u :: []) ∧ Own H (⟨v9, 4, b7.Cases.map e_Case⟩ :: ⟨v11, 3, b7.Line.map e_Slip⟩ :: ⟨v24, 4, b19.Cases.map e_Case⟩ :: ⟨v26, 3, b19.Line.map e_Slip⟩ :: ⟨.ptr ip13 wp13 0 0, 3, [.agg [.int .i64 b7.Now, v9, v11]]⟩ :: ⟨.ptr ip27 wp27 0 0, 3, [.agg [.int .i64 b19.Now, v24, v26]]⟩ :: F)) (fun K63 hK63 => ?_) (fun s H hq => ?_)
            · refine w_seq fun K64 hK64 => ?_
              refine w_reg gC ?_
              try simp only [W, EE, reduceIte, Nat.reduceAdd, Nat.reduceLeDiff, hS.var 5 rfl]
              refine w_callS (rsh := [[.sc]]) (ys := [.agg [.int .i64 b19.Now, .fz (b19.Cases.map e_Case), .fz (b19.Line.map e_Slip)]]) h rfl (pv_c (sn_agg (sm_c rfl (sm_c (sn_ow hS 2 rfl qv24 (fun _ => rfl)) (sm_c (sn_ow hS 3 rfl qv26 (fun _ => rfl)) (sm_n _))))) pv_n) fun b65 hb65 h => ⟨.bool b65, impl_GoodCourt_w hb65 (Own.nil _) fun H hS => TV_ok rfl (TV_p rfl (TV_n rfl)), ⟨rfl, rfl, fun _ => rfl⟩, ?_⟩
              try simp only [W]
              refine w_grdT h (fun hc h => ?_) (fun hc h => ?_)
              · try simp only [W, hc]
                refine seq_n hK64 ?_
                refine w_killE (s' := (u :: .fz (a1.map (AV.int .u8)) :: u :: u :: u :: .ptr ip13 wp13 0 0 :: u :: .ptr ip27 wp27 0 0 :: u :: u :: u :: u :: u :: u :: u :: u :: u :: u :: u :: u :: u :: u :: u :: u :: u :: u :: u :: u :: u :: u :: u :: u :: u :: u :: u :: u :: u :: u :: u :: u :: u :: u :: u :: u :: u :: u :: u :: u :: u :: u :: u :: u :: u :: u :: u :: u :: u :: u :: u :: u :: u :: u :: u :: u :: u :: u :: u :: u :: u :: u :: u :: u :: u :: u :: u :: u :: u :: u :: u :: u :: u :: u :: u :: u :: u :: u :: u :: u :: u :: u :: u :: u :: .bool true :: u :: u :: u :: u :: u :: u :: u :: u :: u :: u :: u :: u :: u :: u :: u :: u :: u :: u :: u :: u :: u :: u :: u :: u :: u :: u :: u :: u :: u :: u :: u :: u :: u :: u :: u :: u :: u :: u :: u :: u :: u :: u :: u :: u :: u :: u :: u :: u :: u :: u :: u :: u :: u :: u :: u :: u :: u :: u :: u :: u :: u :: u :: u :: u :: u :: u :: u :: u :: u :: u :: u :: u :: u :: u :: u :: u :: u :: u :: u :: u :: u :: u :: u :: u :: u :: u :: u :: u :: u :: u :: u :: u :: u :: u :: u :: u :: u :: u :: u :: u :: u :: u :: u :: u :: u :: u :: u :: u :: u :: u :: u :: u :: u :: u :: u :: u :: u :: u :: u :: u :: u :: u :: u :: u :: u :: u :: u :: u :: u :: [])) rfl ?_
                exact cut_n hK63 ⟨_, (Option.some.inj h).symm, rfl, hS⟩
              · try simp only [W, EE, reduceIte, Nat.reduceAdd, Nat.reduceBEq, Bool.false_eq_true, hS.var 4 rfl, hS.var 5 rfl, hc]
                refine w_grdT h (fun hc h => ?_) (fun hc h => ?_)
                · try simp only [W, hc]
                  refine seq_n hK64 ?_
                  refine w_killE (s' := (u :: .fz (a1.map (AV.int .u8)) :: u :: u :: u :: .ptr ip13 wp13 0 0 :: u :: .ptr ip27 wp27 0 0 :: u :: u :: u :: u :: u :: u :: u :: u :: u :: u :: u :: u :: u :: u :: u :: u :: u :: u :: u :: u :: u :: u :: u :: u :: u :: u :: u :: u :: u :: u :: u :: u :: u :: u :: u :: u :: u :: u :: u :: u :: u :: u :: u :: u :: u :: u :: u :: u :: u :: u :: u :: u :: u :: u :: u :: u :: u :: u :: u :: u :: u :: u :: u :: u :: u :: u :: u :: u :: u :: u :: u :: u :: u :: u :: u :: u :: u :: u :: u :: u :: u :: u :: u :: u :: .bool true :: u :: u :: u :: u :: u :: u :: u :: u :: u :: u :: u :: u :: u :: u :: u :: u :: u :: u :: u :: u :: u :: u :: u :: u :: u :: u :: u :: u :: u :: u :: u :: u :: u :: u :: u :: u :: u :: u :: u :: u :: u :: u :: u :: u :: u :: u :: u :: u :: u :: u :: u :: u :: u :: u :: u :: u :: u :: u :: u :: u :: u :: u :: u :: u :: u :: u :: u :: u :: u :: u :: u :: u :: u :: u :: u :: u :: u :: u :: u :: u :: u :: u :: u :: u :: u :: u :: u :: u :: u :: u :: u :: u :: u :: u :: u :: u :: u :: u :: u :: u :: u :: u :: u :: u :: u :: u :: u :: u :: u :: u :: u :: u :: u :: u :: u :: u :: u :: u :: u :: u :: u :: u :: u :: u :: u :: u :: u :: u :: u :: [])) rfl ?_
                  exact cut_n hK63 ⟨_, (Option.some.inj h).symm, rfl, hS⟩
                · try simp only [W, EE, Nat.reduceAdd, Nat.reduceBEq, hS.var 5 rfl, hc]
                  refine w_len 2 hS rfl qv24 rfl ?_
                  try simp only [W, EE, Nat.reduceAdd, Nat.reduceBEq, hS.var 4 rfl]
                  refine w_len 0 hS rfl qv9 rfl ?_
                  try simp only [W, EE, reduceIte, Bool.false_eq_true]
                  refine seq_n hK64 ?_
                  refine w_killE (s' := (u :: .fz (a1.map (AV.int .u8)) :: u :: u :: u :: .ptr ip13 wp13 0 0 :: u :: .ptr ip27 wp27 0 0 :: u :: u :: u :: u :: u :: u :: u :: u :: u :: u :: u :: u :: u :: u :: u :: u :: u :: u :: u :: u :: u :: u :: u :: u :: u :: u :: u :: u :: u :: u :: u :: u :: u :: u :: u :: u :: u :: u :: u :: u :: u :: u :: u :: u :: u :: u :: u :: u :: u :: u :: u :: u :: u :: u :: u :: u :: u :: u :: u :: u :: u :: u :: u :: u :: u :: u :: u :: u :: u :: u :: u :: u :: u :: u :: u :: u :: u :: u :: u :: u :: u :: u :: u :: u :: .bool ((b19.Cases.length : Int) != (b7.Cases.length : Int)) :: u :: u :: u :: u :: u :: u :: u :: u :: u :: u :: u :: u :: u :: u :: u :: u :: u :: u :: u :: u :: u :: u :: u :: u :: u :: u :: u :: u :: u :: u :: u :: u :: u :: u :: u :: u :: u :: u :: u :: u :: u :: u :: u :: u :: u :: u :: u :: u :: u :: u :: u :: u :: u :: u :: u :: u :: u :: u :: u :: u :: u :: u :: u :: u :: u :: u :: u :: u :: u :: u :: u :: u :: u :: u :: u :: u :: u :: u :: u :: u :: u :: u :: u :: u :: u :: u :: u :: u :: u :: u :: u :: u :: u :: u :: u :: u :: u :: u :: u :: u :: u :: u :: u :: u :: u :: u :: u :: u :: u :: u :: u :: u :: u :: u :: u :: u :: u :: u :: u :: u :: u :: u :: u :: u :: u :: u :: u :: u :: u :: [])) rfl ?_
                  exact cut_n hK63 ⟨_, (Option.some.inj h).symm, rfl, hS⟩
            · obtain ⟨x60, ey, rfl, hS⟩ := hq; obtain rfl := ey.symm
              replace h := g62
              try dsimp only at h
              refine seq_n hK59 ?_
              refine w_if ?_
              simp only [W]
              refine w_cnd h (fun hc h => ?_) (fun hc h => ?_)
              · refine w_seq fun K66 hK66 => ?_
                refine w_reg gC ?_
                try simp only [W, Nat.reduceAdd]
                refine seq_n hK66 ?_
                refine w_ret ?_
                refine seq_r hK58 ?_
                refine seq_r hK57 ?_
                try obtain rfl := Option.some.inj h
                obtain rfl := Option.some.inj g55
                have h : (some false : Option (Bool)) = some false := rfl
                refine cut_r hK56 ?_
                refine seq_r hK52 ?_
                refine fin_r1 hK0 rfl ?_
                try obtain rfl := Option.some.inj h
                exact hP _ (hS.sel 6 [] (by decide))
              · refine w_skip ?_
                refine seq_n hK58 ?_
                refine w_seq fun K69 hK69 => ?_
                refine w_reg gC ?_
                try simp only [W, EE, Nat.reduceAdd, Nat.reduceBEq, hS.var 4 rfl]
                refine w_len 0 hS rfl qv9 rfl ?_
                try simp only [W]
                refine seq_n hK69 ?_
                obtain ⟨y71, hw72, g78⟩ := Option.bind_eq_some_iff.1 h
                refine w_join gC (fun s H => y71 = LR.next () ∧ s = (u :: .fz (a1.map (AV.int .u8)) :: u :: u :: u :: u :: u :: u :: u :: u :: u :: u :: u :: u :: u :: u :: u :: u :: u :: u :: u :: u :: u :: u :: u :: u :: u :: u :: u :: u :: u :: u :: u :: u :: u :: u :: u :: u :: u :: u :: u :: u :: u :: u :: u :: u :: u :: u :: u :: u :: u :: u :: u :: u :: u :: u :: u :: u :: u :: u :: u :: u :: u :: u :: u :: u :: u :: u :: u :: u :: u :: u :: u :: u :: u :: u :: u :: u :: u :: u :: u :: u :: u :: u :: u :: u :: u :: u :: u :: u :: u :: u :: u :: u :: u :: u :: u :: u :: u :: u :: u :: u :: u :: u :: u :: u :: u :: u :: u :: u :: u :: u :: u :: u :: u :: u :: u :: u :: u :: u :: u :: u :: u :: u :: u :: u :: u :: u :: u :: u :: u :: u :: u :: u :: u :: u :: u :: u :: u :: u :: u :: u :: u :: u :: u :: u :: u :: u :: u :: u :: u :: u :: u :: u :: u :: u :: u :: u :: u :: u :: u :: u :: u :: u :: u :: u :: u :: u :: u :: u :: u :: u :: u :: u :: u :: u :: u :: u :: u :: u :: u :: u :: u :: u :: u :: u :: u :: u :: u :: u :: u :: u :: u :: u :: u :: u :: u :: u :: u :: u :: u :: u :: u :: u :: u :: u :: u :: u :: u :: u :: u :: u :: u :: u :: u :: u :: u :: u :: u :: u :: u :: u :: []) ∧ Own H (F)) (fun K73 hK73 => ?_) (fun s H hq => ?_)
                · refine w_blk fun K74 hK74 => ?_
                  refine w_loop gC hw72 (fun x s H => s = (u :: .fz (a1.map (AV.int .u8)) :: u :: u :: u :: u :: u :: .ptr ip27 wp27 0 0 :: u :: u :: u :: u :: u :: u :: u :: u :: u :: u :: u :: u :: u :: u :: u :: u :: u :: u :: u :: u :: u :: u :: u :: u :: u :: u :: u :: u :: u :: u :: u :: u :: u :: u :: u :: u :: u :: u :: u :: u :: u :: u :: u :: u :: u :: u :: u :: u :: u :: u :: u :: u :: u :: u :: u :: u :: u :: u :: u :: u :: u :: u :: u :: u :: u :: u :: u :: u :: u :: u :: u :: u :: u :: u :: u :: u :: u :: u :: u :: u :: u :: u :: u :: u :: u :: u :: v9 :: .int .i64 (b7.Cases.length : Int) :: .int .i64 x :: u :: u :: u :: u :: u :: u :: u :: u :: u :: u :: u :: u :: u :: u :: u :: u :: u :: u :: u :: u :: u :: u :: u :: u :: u :: u :: u :: u :: u :: u :: u :: u :: u :: u :: u :: u :: u :: u :: u :: u :: u :: u :: u :: u :: u :: u :: u :: u :: u :: u :: u :: u :: u :: u :: u :: u :: u :: u :: u :: u :: u :: u :: u :: u :: u :: u :: u :: u :: u :: u :: u :: u :: u :: u :: u :: u :: u :: u :: u :: u :: u :: u :: u :: u :: u :: u :: u :: u :: u :: u :: u :: u :: u :: u :: u :: u :: u :: u :: u :: u :: u :: u :: u :: u :: u :: u :: u :: u :: u :: u :: u :: u :: u :: u :: u :: u :: u :: u :: u :: u :: u :: u :: u :: u :: u :: []) ∧ Own H (⟨v9, 4, b7.Cases.map e_Case⟩ :: ⟨v24, 4, b19.Cases.map e_Case⟩ :: ⟨v26, 3, b19.Line.map e_Slip⟩ :: ⟨.ptr ip27 wp27 0 0, 3, [.agg [.int .i64 b19.Now, v24, v26]]⟩ :: F)) ⟨rfl, (hS.sel 6 [0, 2, 3, 5] (by decide))⟩ (fun x70 y77 s H h hd76 hi K75 hK75 => ?_)
                  skip
                  try dsimp only at hi
                  obtain ⟨rfl, hS⟩ := hi
                  simp only [laws_FnCourts_l0] at h
                  refine w_seq fun K79 hK79 => ?_
                  refine w_reg gC ?_
                  try simp only [W, EE, Nat.reduceAdd]
                  refine seq_n hK79 ?_
                  refine w_seq fun K80 hK80 => ?_
                  refine w_if ?_
                  simp only [W]
                  refine w_cnd h (fun hc h => ?_) (fun hc h => ?_)
                  · refine w_skip ?_
                    refine seq_n hK80 ?_
                    refine w_seq fun K81 hK81 => ?_
                    refine w_blk fun K82 hK82 => ?_
                    refine w_seq fun K83 hK83 => ?_
                    refine w_reg gC ?_
                    try simp only [W, EE, Nat.reduceAdd]
                    refine w_ow 0 hS rfl rfl rfl rfl rfl h (fun b84 in85 wn85 on85 hb84 h en85 => ?_) qv9.ne
                    obtain ⟨kn85, hbn85, hen85⟩ := hS.elem 0 rfl en85 hb84
                    try simp only [W, EE, EN, reduceIte, Nat.reduceAdd, Nat.reduceLeDiff, hbn85, hen85]
                    refine w_alloc hS rfl rfl fun ip86 wp86 H hS => ?_
                    try simp only [W]
                    refine w_stv (a := .agg [.int .i64 b84.End, .bool b84.Asks, .int .i64 b84.Final, .int .i64 b84.Said]) (y' := .agg [.int .i64 b84.End, .bool b84.Asks, .int .i64 b84.Final, .int .i64 b84.Said]) 0 hS rfl rfl rfl rfl rfl rfl rfl rfl fun H hS => ?_
                    try simp only [W]
                    refine seq_n hK83 ?_
                    refine w_seq fun K88 hK88 => ?_
                    refine w_reg gC ?_
                    try simp only [W, EE, Nat.reduceAdd, Nat.reduceBEq, hS.var 4 rfl]
                    refine w_ow 2 hS rfl rfl rfl rfl rfl h (fun b89 in90 wn90 on90 hb89 h en90 => ?_) qv24.ne
                    obtain ⟨kn90, hbn90, hen90⟩ := hS.elem 2 rfl en90 hb89
                    try simp only [W, EE, EN, reduceIte, Nat.reduceAdd, Nat.reduceLeDiff, hbn90, hen90]
                    refine w_alloc hS rfl rfl fun ip91 wp91 H hS => ?_
                    try simp only [W]
                    refine w_stv (a := .agg [.int .i64 b89.End, .bool b89.Asks, .int .i64 b89.Final, .int .i64 b89.Said]) (y' := .agg [.int .i64 b89.End, .bool b89.Asks, .int .i64 b89.Final, .int .i64 b89.Said]) 0 hS rfl rfl rfl rfl rfl rfl rfl rfl fun H hS => ?_
                    try simp only [W]
                    refine seq_n hK88 ?_
                    refine w_seq fun K93 hK93 => ?_
                    obtain ⟨y95, h, g96⟩ := Option.bind_eq_some_iff.1 h
                    refine w_join gC (fun s H => ∃ x94 : Bool, y95 = (x94) ∧ s = (u :: .fz (a1.map (AV.int .u8)) :: u :: u :: u :: u :: u :: .ptr ip27 wp27 0 0 :: u :: u :: u :: u :: u :: u :: u :: u :: u :: u :: u :: u :: u :: u :: u :: u :: u :: u :: u :: u :: u :: u :: u :: u :: u :: u :: u :: u :: u :: u :: u :: u :: u :: u :: u :: u :: u :: u :: u :: u :: u :: u :: u :: u :: u :: u :: u :: u :: u :: u :: u :: u :: u :: u :: u :: u :: u :: u :: u :: u :: u :: u :: u :: u :: u :: u :: u :: u :: u :: u :: u :: u :: u :: u :: u :: u :: u :: u :: u :: u :: u :: u :: u :: u :: u :: u :: v9 :: .int .i64 (b7.Cases.length : Int) :: .int .i64 x70 :: u :: u :: u :: u :: u :: u :: u :: u :: u :: u :: u :: u :: u :: u :: u :: u :: u :: u :: u :: u :: u :: u :: u :: u :: u :: u :: u :: u :: u :: u :: u :: u :: u :: u :: .bool x94 :: u :: u :: u :: u :: u :: u :: u :: u :: u :: u :: u :: u :: u :: u :: u :: u :: u :: u :: u :: u :: u :: u :: u :: u :: u :: u :: u :: u :: u :: u :: u :: u :: u :: u :: u :: u :: u :: u :: u :: u :: u :: u :: u :: u :: u :: u :: u :: u :: u :: u :: u :: u :: u :: u :: u :: u :: u :: u :: u :: u :: u :: u :: u :: u :: u :: u :: u :: u :: u :: u :: u :: u :: u :: u :: u :: u :: u :: u :: u :: u :: u :: u :: u :: u :: u :: u :: u :: u :: u :: u :: []) ∧ Own H (⟨v9, 4, b7.Cases.map e_Case⟩ :: ⟨v24, 4, b19.Cases.map e_Case⟩ :: ⟨v26, 3, b19.Line.map e_Slip⟩ :: ⟨.ptr ip27 wp27 0 0, 3, [.agg [.int .i64 b19.Now, v24, v26]]⟩ :: F)) (fun K97 hK97 => ?_) (fun s H hq => ?_)
                    · refine w_seq fun K98 hK98 => ?_
                      refine w_reg gC ?_
                      try simp only [W, EE, Nat.reduceAdd, Nat.reduceBEq, hS.var 1 rfl, hS.var 0 rfl]
                      refine w_grdT h (fun hc h => ?_) (fun hc h => ?_)
                      · try simp only [W, hc]
                        refine seq_n hK98 ?_
                        refine w_killE (s' := (u :: .fz (a1.map (AV.int .u8)) :: u :: u :: u :: u :: u :: .ptr ip27 wp27 0 0 :: u :: u :: u :: u :: u :: u :: u :: u :: u :: u :: u :: u :: u :: u :: u :: u :: u :: u :: u :: u :: u :: u :: u :: u :: u :: u :: u :: u :: u :: u :: u :: u :: u :: u :: u :: u :: u :: u :: u :: u :: u :: u :: u :: u :: u :: u :: u :: u :: u :: u :: u :: u :: u :: u :: u :: u :: u :: u :: u :: u :: u :: u :: u :: u :: u :: u :: u :: u :: u :: u :: u :: u :: u :: u :: u :: u :: u :: u :: u :: u :: u :: u :: u :: u :: u :: u :: v9 :: .int .i64 (b7.Cases.length : Int) :: .int .i64 x70 :: u :: u :: u :: u :: u :: u :: u :: u :: u :: u :: u :: u :: u :: u :: u :: u :: u :: u :: u :: u :: u :: u :: u :: u :: u :: u :: u :: u :: u :: u :: u :: u :: u :: u :: .bool true :: u :: u :: u :: u :: u :: u :: u :: u :: u :: u :: u :: u :: u :: u :: u :: u :: u :: u :: u :: u :: u :: u :: u :: u :: u :: u :: u :: u :: u :: u :: u :: u :: u :: u :: u :: u :: u :: u :: u :: u :: u :: u :: u :: u :: u :: u :: u :: u :: u :: u :: u :: u :: u :: u :: u :: u :: u :: u :: u :: u :: u :: u :: u :: u :: u :: u :: u :: u :: u :: u :: u :: u :: u :: u :: u :: u :: u :: u :: u :: u :: u :: u :: u :: u :: u :: u :: u :: u :: u :: u :: [])) rfl ?_
                        exact cut_n hK97 ⟨_, (Option.some.inj h).symm, rfl, (hS.sel 6 [2, 3, 4, 5] (by decide))⟩
                      · try simp only [W, EE, Nat.reduceAdd, Nat.reduceBEq, hS.var 1 rfl, hc]
                        refine w_grdT h (fun hc h => ?_) (fun hc h => ?_)
                        · try simp only [W, EE, reduceIte, Nat.reduceAdd, Nat.reduceBEq, Bool.false_eq_true, hS.var 1 rfl, hS.var 0 rfl, hc]
                          refine w_grdT h (fun hc h => ?_) (fun hc h => ?_)
                          · try simp only [W, hc]
                            refine seq_n hK98 ?_
                            refine w_killE (s' := (u :: .fz (a1.map (AV.int .u8)) :: u :: u :: u :: u :: u :: .ptr ip27 wp27 0 0 :: u :: u :: u :: u :: u :: u :: u :: u :: u :: u :: u :: u :: u :: u :: u :: u :: u :: u :: u :: u :: u :: u :: u :: u :: u :: u :: u :: u :: u :: u :: u :: u :: u :: u :: u :: u :: u :: u :: u :: u :: u :: u :: u :: u :: u :: u :: u :: u :: u :: u :: u :: u :: u :: u :: u :: u :: u :: u :: u :: u :: u :: u :: u :: u :: u :: u :: u :: u :: u :: u :: u :: u :: u :: u :: u :: u :: u :: u :: u :: u :: u :: u :: u :: u :: u :: u :: v9 :: .int .i64 (b7.Cases.length : Int) :: .int .i64 x70 :: u :: u :: u :: u :: u :: u :: u :: u :: u :: u :: u :: u :: u :: u :: u :: u :: u :: u :: u :: u :: u :: u :: u :: u :: u :: u :: u :: u :: u :: u :: u :: u :: u :: u :: .bool true :: u :: u :: u :: u :: u :: u :: u :: u :: u :: u :: u :: u :: u :: u :: u :: u :: u :: u :: u :: u :: u :: u :: u :: u :: u :: u :: u :: u :: u :: u :: u :: u :: u :: u :: u :: u :: u :: u :: u :: u :: u :: u :: u :: u :: u :: u :: u :: u :: u :: u :: u :: u :: u :: u :: u :: u :: u :: u :: u :: u :: u :: u :: u :: u :: u :: u :: u :: u :: u :: u :: u :: u :: u :: u :: u :: u :: u :: u :: u :: u :: u :: u :: u :: u :: u :: u :: u :: u :: u :: u :: [])) rfl ?_
                            exact cut_n hK97 ⟨_, (Option.some.inj h).symm, rfl, (hS.sel 6 [2, 3, 4, 5] (by decide))⟩
                          · try simp only [W, EE, Nat.reduceAdd, Nat.reduceBEq, hS.var 1 rfl, hc]
                            refine w_grdT h (fun hc h => ?_) (fun hc h => ?_)
                            · try simp only [W, EE, reduceIte, Nat.reduceAdd, Nat.reduceBEq, Bool.false_eq_true, hS.var 0 rfl, hc]
                              refine seq_n hK98 ?_
                              refine w_killE (s' := (u :: .fz (a1.map (AV.int .u8)) :: u :: u :: u :: u :: u :: .ptr ip27 wp27 0 0 :: u :: u :: u :: u :: u :: u :: u :: u :: u :: u :: u :: u :: u :: u :: u :: u :: u :: u :: u :: u :: u :: u :: u :: u :: u :: u :: u :: u :: u :: u :: u :: u :: u :: u :: u :: u :: u :: u :: u :: u :: u :: u :: u :: u :: u :: u :: u :: u :: u :: u :: u :: u :: u :: u :: u :: u :: u :: u :: u :: u :: u :: u :: u :: u :: u :: u :: u :: u :: u :: u :: u :: u :: u :: u :: u :: u :: u :: u :: u :: u :: u :: u :: u :: u :: u :: u :: v9 :: .int .i64 (b7.Cases.length : Int) :: .int .i64 x70 :: u :: u :: u :: u :: u :: u :: u :: u :: u :: u :: u :: u :: u :: u :: u :: u :: u :: u :: u :: u :: u :: u :: u :: u :: u :: u :: u :: u :: u :: u :: u :: u :: u :: u :: .bool (!b89.Asks) :: u :: u :: u :: u :: u :: u :: u :: u :: u :: u :: u :: u :: u :: u :: u :: u :: u :: u :: u :: u :: u :: u :: u :: u :: u :: u :: u :: u :: u :: u :: u :: u :: u :: u :: u :: u :: u :: u :: u :: u :: u :: u :: u :: u :: u :: u :: u :: u :: u :: u :: u :: u :: u :: u :: u :: u :: u :: u :: u :: u :: u :: u :: u :: u :: u :: u :: u :: u :: u :: u :: u :: u :: u :: u :: u :: u :: u :: u :: u :: u :: u :: u :: u :: u :: u :: u :: u :: u :: u :: u :: [])) rfl ?_
                              exact cut_n hK97 ⟨_, (Option.some.inj h).symm, rfl, (hS.sel 6 [2, 3, 4, 5] (by decide))⟩
                            · try simp only [W, reduceIte, Bool.false_eq_true, hc]
                              refine seq_n hK98 ?_
                              refine w_killE (s' := (u :: .fz (a1.map (AV.int .u8)) :: u :: u :: u :: u :: u :: .ptr ip27 wp27 0 0 :: u :: u :: u :: u :: u :: u :: u :: u :: u :: u :: u :: u :: u :: u :: u :: u :: u :: u :: u :: u :: u :: u :: u :: u :: u :: u :: u :: u :: u :: u :: u :: u :: u :: u :: u :: u :: u :: u :: u :: u :: u :: u :: u :: u :: u :: u :: u :: u :: u :: u :: u :: u :: u :: u :: u :: u :: u :: u :: u :: u :: u :: u :: u :: u :: u :: u :: u :: u :: u :: u :: u :: u :: u :: u :: u :: u :: u :: u :: u :: u :: u :: u :: u :: u :: u :: u :: v9 :: .int .i64 (b7.Cases.length : Int) :: .int .i64 x70 :: u :: u :: u :: u :: u :: u :: u :: u :: u :: u :: u :: u :: u :: u :: u :: u :: u :: u :: u :: u :: u :: u :: u :: u :: u :: u :: u :: u :: u :: u :: u :: u :: u :: u :: .bool false :: u :: u :: u :: u :: u :: u :: u :: u :: u :: u :: u :: u :: u :: u :: u :: u :: u :: u :: u :: u :: u :: u :: u :: u :: u :: u :: u :: u :: u :: u :: u :: u :: u :: u :: u :: u :: u :: u :: u :: u :: u :: u :: u :: u :: u :: u :: u :: u :: u :: u :: u :: u :: u :: u :: u :: u :: u :: u :: u :: u :: u :: u :: u :: u :: u :: u :: u :: u :: u :: u :: u :: u :: u :: u :: u :: u :: u :: u :: u :: u :: u :: u :: u :: u :: u :: u :: u :: u :: u :: u :: [])) rfl ?_
                              exact cut_n hK97 ⟨_, (Option.some.inj h).symm, rfl, (hS.sel 6 [2, 3, 4, 5] (by decide))⟩
                        · try simp only [W, EE, reduceIte, Nat.reduceAdd, Nat.reduceBEq, Bool.false_eq_true, hS.var 1 rfl, hc]
                          refine w_grdT h (fun hc h => ?_) (fun hc h => ?_)
                          · try simp only [W, EE, reduceIte, Nat.reduceAdd, Nat.reduceBEq, Bool.false_eq_true, hS.var 0 rfl, hc]
                            refine seq_n hK98 ?_
                            refine w_killE (s' := (u :: .fz (a1.map (AV.int .u8)) :: u :: u :: u :: u :: u :: .ptr ip27 wp27 0 0 :: u :: u :: u :: u :: u :: u :: u :: u :: u :: u :: u :: u :: u :: u :: u :: u :: u :: u :: u :: u :: u :: u :: u :: u :: u :: u :: u :: u :: u :: u :: u :: u :: u :: u :: u :: u :: u :: u :: u :: u :: u :: u :: u :: u :: u :: u :: u :: u :: u :: u :: u :: u :: u :: u :: u :: u :: u :: u :: u :: u :: u :: u :: u :: u :: u :: u :: u :: u :: u :: u :: u :: u :: u :: u :: u :: u :: u :: u :: u :: u :: u :: u :: u :: u :: u :: u :: v9 :: .int .i64 (b7.Cases.length : Int) :: .int .i64 x70 :: u :: u :: u :: u :: u :: u :: u :: u :: u :: u :: u :: u :: u :: u :: u :: u :: u :: u :: u :: u :: u :: u :: u :: u :: u :: u :: u :: u :: u :: u :: u :: u :: u :: u :: .bool (!b89.Asks) :: u :: u :: u :: u :: u :: u :: u :: u :: u :: u :: u :: u :: u :: u :: u :: u :: u :: u :: u :: u :: u :: u :: u :: u :: u :: u :: u :: u :: u :: u :: u :: u :: u :: u :: u :: u :: u :: u :: u :: u :: u :: u :: u :: u :: u :: u :: u :: u :: u :: u :: u :: u :: u :: u :: u :: u :: u :: u :: u :: u :: u :: u :: u :: u :: u :: u :: u :: u :: u :: u :: u :: u :: u :: u :: u :: u :: u :: u :: u :: u :: u :: u :: u :: u :: u :: u :: u :: u :: u :: u :: [])) rfl ?_
                            exact cut_n hK97 ⟨_, (Option.some.inj h).symm, rfl, (hS.sel 6 [2, 3, 4, 5] (by decide))⟩
                          · try simp only [W, reduceIte, Bool.false_eq_true, hc]
                            refine seq_n hK98 ?_
                            refine w_killE (s' := (u :: .fz (a1.map (AV.int .u8)) :: u :: u :: u :: u :: u :: .ptr ip27 wp27 0 0 :: u :: u :: u :: u :: u :: u :: u :: u :: u :: u :: u :: u :: u :: u :: u :: u :: u :: u :: u :: u :: u :: u :: u :: u :: u :: u :: u :: u :: u :: u :: u :: u :: u :: u :: u :: u :: u :: u :: u :: u :: u :: u :: u :: u :: u :: u :: u :: u :: u :: u :: u :: u :: u :: u :: u :: u :: u :: u :: u :: u :: u :: u :: u :: u :: u :: u :: u :: u :: u :: u :: u :: u :: u :: u :: u :: u :: u :: u :: u :: u :: u :: u :: u :: u :: u :: u :: v9 :: .int .i64 (b7.Cases.length : Int) :: .int .i64 x70 :: u :: u :: u :: u :: u :: u :: u :: u :: u :: u :: u :: u :: u :: u :: u :: u :: u :: u :: u :: u :: u :: u :: u :: u :: u :: u :: u :: u :: u :: u :: u :: u :: u :: u :: .bool false :: u :: u :: u :: u :: u :: u :: u :: u :: u :: u :: u :: u :: u :: u :: u :: u :: u :: u :: u :: u :: u :: u :: u :: u :: u :: u :: u :: u :: u :: u :: u :: u :: u :: u :: u :: u :: u :: u :: u :: u :: u :: u :: u :: u :: u :: u :: u :: u :: u :: u :: u :: u :: u :: u :: u :: u :: u :: u :: u :: u :: u :: u :: u :: u :: u :: u :: u :: u :: u :: u :: u :: u :: u :: u :: u :: u :: u :: u :: u :: u :: u :: u :: u :: u :: u :: u :: u :: u :: u :: u :: [])) rfl ?_
                            exact cut_n hK97 ⟨_, (Option.some.inj h).symm, rfl, (hS.sel 6 [2, 3, 4, 5] (by decide))⟩
                    · obtain ⟨x94, ey, rfl, hS⟩ := hq; obtain rfl := ey.symm
                      replace h := g96
                      try dsimp only at h
                      refine seq_n hK93 ?_
                      refine w_if ?_
                      simp only [W]
                      refine w_cnd h (fun hc h => ?_) (fun hc h => ?_)
                      · refine w_seq fun K99 hK99 => ?_
                        refine w_reg gC ?_
                        try simp only [W, Nat.reduceAdd]
                        refine seq_n hK99 ?_
                        refine w_ret ?_
                        refine blk_r hK82 ?_
                        refine seq_r hK81 ?_
                        try obtain rfl := Option.some.inj h
                        obtain rfl := hd76 _ rfl
                        have h : (some (LR.done (LR.done false)) : Option (LR Unit (LR Unit (Bool)))) = some (LR.done (LR.done false)) := rfl
                        refine lp_r hK75 ?_
                        refine blk_r hK74 ?_
                        try obtain rfl := Option.some.inj h
                        obtain rfl := Option.some.inj g78
                        have h : (some (LR.done false) : Option (LR Unit (Bool))) = some (LR.done false) := rfl
                        refine cut_r hK73 ?_
                        refine seq_r hK57 ?_
                        try obtain rfl := Option.some.inj h
                        obtain rfl := Option.some.inj g55
                        have h : (some false : Option (Bool)) = some false := rfl
                        refine cut_r hK56 ?_
                        refine seq_r hK52 ?_
                        refine fin_r1 hK0 rfl ?_
                        try obtain rfl := Option.some.inj h
                        exact hP _ (hS.sel 4 [] (by decide))
                      · refine w_skip ?_
                        refine blk_n0 hK82 ?_
                        refine seq_n hK81 ?_
                        refine w_reg gC ?_
                        try simp only [W, EE, Nat.reduceAdd]
                        exact lp_n hK75 h ⟨rfl, hS⟩
                  · refine w_exit ?_
                    refine seq_x hK80 ?_
                    try obtain rfl := Option.some.inj h
                    obtain rfl := hd76 _ rfl
                    have h : (some (LR.next ()) : Option (LR Unit (LR Unit (Bool)))) = some (LR.next ()) := rfl
                    refine lp_x hK75 ?_
                    refine blk_e hK74 ?_
                    exact cut_n hK73 ⟨(Option.some.inj h).symm, rfl, (hS.sel 4 [] (by decide))⟩
                · obtain ⟨rfl, rfl, hS⟩ := hq
                  replace h := g78
                  try dsimp only at h
                  refine seq_n hK57 ?_
                  refine w_killE (s' := (u :: .fz (a1.map (AV.int .u8)) :: u :: u :: u :: u :: u :: u :: u :: u :: u :: u :: u :: u :: u :: u :: u :: u :: u :: u :: u :: u :: u :: u :: u :: u :: u :: u :: u :: u :: u :: u :: u :: u :: u :: u :: u :: u :: u :: u :: u :: u :: u :: u :: u :: u :: u :: u :: u :: u :: u :: u :: u :: u :: u :: u :: u :: u :: u :: u :: u :: u :: u :: u :: u :: u :: u :: u :: u :: u :: u :: u :: u :: u :: u :: u :: u :: u :: u :: u :: u :: u :: u :: u :: u :: u :: u :: u :: u :: u :: u :: u :: u :: u :: u :: u :: u :: u :: u :: u :: u :: u :: u :: u :: u :: u :: u :: u :: u :: u :: u :: u :: u :: u :: u :: u :: u :: u :: u :: u :: u :: u :: u :: u :: u :: u :: u :: u :: u :: u :: u :: u :: u :: u :: u :: u :: u :: u :: u :: u :: u :: u :: u :: u :: u :: u :: u :: u :: u :: u :: u :: u :: u :: u :: u :: u :: u :: u :: u :: u :: u :: u :: u :: u :: u :: u :: u :: u :: u :: u :: u :: u :: u :: u :: u :: u :: u :: u :: u :: u :: u :: u :: u :: u :: u :: u :: u :: u :: u :: u :: u :: u :: u :: u :: u :: u :: u :: u :: u :: u :: u :: u :: u :: u :: u :: u :: u :: u :: u :: u :: u :: u :: u :: u :: u :: u :: u :: u :: u :: u :: u :: u :: [])) rfl ?_
                  exact cut_n hK56 ⟨(Option.some.inj h).symm, rfl, hS⟩
          · refine w_skip ?_
            refine seq_n hK57 ?_
            refine w_killE (s' := (u :: .fz (a1.map (AV.int .u8)) :: u :: u :: u :: u :: u :: u :: u :: u :: u :: u :: u :: u :: u :: u :: u :: u :: u :: u :: u :: u :: u :: u :: u :: u :: u :: u :: u :: u :: u :: u :: u :: u :: u :: u :: u :: u :: u :: u :: u :: u :: u :: u :: u :: u :: u :: u :: u :: u :: u :: u :: u :: u :: u :: u :: u :: u :: u :: u :: u :: u :: u :: u :: u :: u :: u :: u :: u :: u :: u :: u :: u :: u :: u :: u :: u :: u :: u :: u :: u :: u :: u :: u :: u :: u :: u :: u :: u :: u :: u :: u :: u :: u :: u :: u :: u :: u :: u :: u :: u :: u :: u :: u :: u :: u :: u :: u :: u :: u :: u :: u :: u :: u :: u :: u :: u :: u :: u :: u :: u :: u :: u :: u :: u :: u :: u :: u :: u :: u :: u :: u :: u :: u :: u :: u :: u :: u :: u :: u :: u :: u :: u :: u :: u :: u :: u :: u :: u :: u :: u :: u :: u :: u :: u :: u :: u :: u :: u :: u :: u :: u :: u :: u :: u :: u :: u :: u :: u :: u :: u :: u :: u :: u :: u :: u :: u :: u :: u :: u :: u :: u :: u :: u :: u :: u :: u :: u :: u :: u :: u :: u :: u :: u :: u :: u :: u :: u :: u :: u :: u :: u :: u :: u :: u :: u :: u :: u :: u :: u :: u :: u :: u :: u :: u :: u :: u :: u :: u :: u :: u :: u :: [])) rfl ?_
            exact cut_n hK56 ⟨(Option.some.inj h).symm, rfl, (hS.sel 6 [] (by decide))⟩
        · obtain ⟨rfl, rfl, hS⟩ := hq
          replace h := g55
          try dsimp only at h
          refine seq_n hK52 ?_
          refine w_seq fun K108 hK108 => ?_
          refine w_reg gC ?_
          try simp only [W, Nat.reduceAdd]
          refine w_call h fun b109 hb109 h => ?_
          refine spec_DrawSettleCourt_w hb109 hS fun v110 qv110 v112 qv112 H hS => ?_
          try simp only [W]
          refine w_alloc hS rfl rfl fun ip114 wp114 H hS => ?_
          try simp only [W]
          refine w_stv (a := .agg [.int .i64 b109.Now, v110, v112]) (y' := .agg [.int .i64 b109.Now, v110, v112]) 0 hS rfl rfl rfl rfl rfl (by simp only [storA, List.all_cons, List.all_nil, qv110.stor, qv112.stor]; rfl) rfl rfl fun H hS => ?_
          try simp only [W]
          refine seq_n hK108 ?_
          refine w_seq fun K116 hK116 => ?_
          refine w_reg gC ?_
          try simp only [W, EE, reduceIte, Nat.reduceAdd, Nat.reduceLeDiff, Nat.reduceBEq, hS.var 0 rfl, List.contains_cons, Nat.reduceBEq, Bool.or_self]
          refine w_callO (rsh := [[.sc, .sl [.sc, .sc, .sc, .sc], .sl [.sc, .sc, .sc]], [.sc], [.sc]]) (ys := [.agg [.int .i64 b109.Now, .fz (b109.Cases.map e_Case), .fz (b109.Line.map e_Slip)]]) h rfl (pv_c (sn_agg (sm_c rfl (sm_c (sn_ow hS 1 rfl qv110 (fun _ => rfl)) (sm_c (sn_ow hS 2 rfl qv112 (fun _ => rfl)) (sm_n _))))) pv_n) fun b117 hb117 h => ⟨.tup [.agg [.int .i64 b117.1.Now, .own 4 (b117.1.Cases.map e_Case), .own 3 (b117.1.Line.map e_Slip)], .int .i64 b117.2.1, .bool b117.2.2], impl_SettleCourt_w hb117 (Own.nil _) fun v121 qv121 v122 qv122 H hS => TV_ok rfl (TV_a (TC_sc rfl (TC_ow 0 hS rfl qv121 (fun _ _ => by simp [takeE, takeT, takeC, plainA, e_Case]) fun H hS => TC_ow 0 hS rfl qv122 (fun _ _ => by simp [takeE, takeT, takeC, plainA, e_Slip]) fun H hS => TC_nil (TV_p rfl (TV_p rfl (TV_n rfl)))))), (nf_t (nf_c (nf_a (nf_c rfl (nf_c (noFz_o _ (fun _ => rfl) _) (nf_c (noFz_o _ (fun _ => rfl) _) nf_n)))) (nf_c rfl (nf_c rfl nf_n)))), ?_⟩
          refine thaw_tup ?_
          refine TH_a ?_
          refine TH_p (fun _ => rfl) ?_
          refine TH_o hS (fun _ _ => rfl) (fun _ => rfl) fun v124 H qv124 hS => ?_
          refine TH_o hS (fun _ _ => rfl) (fun _ => rfl) fun v126 H qv126 hS => ?_
          refine TH_n ?_
          refine TH_p (fun _ => rfl) ?_
          refine TH_p (fun _ => rfl) ?_
          refine TH_n ?_
          try simp only [List.headD_cons]
          obtain ⟨b118, b119, b120⟩ := b117
          try dsimp only at h
          try simp only [W]
          refine w_alloc hS rfl rfl fun ip127 wp127 H hS => ?_
          try simp only [W]
          refine w_stv (a := .agg [.int .i64 b118.Now, v124, v126]) (y' := .agg [.int .i64 b118.Now, v124, v126]) 0 hS rfl rfl rfl rfl rfl (by simp only [storA, List.all_cons, List.all_nil, qv124.stor, qv126.stor]; rfl) rfl rfl fun H hS => ?_
          try simp only [W]
          refine seq_n hK116 ?_
          refine w_seq fun K129 hK129 => ?_
          refine w_reg gC ?_
          try simp only [W, EE, reduceIte, Nat.reduceAdd, Nat.reduceLeDiff, Nat.reduceBEq, hS.var 3 rfl, List.contains_cons, Nat.reduceBEq, Bool.or_self]
          refine w_callO (rsh := [[.sc, .sl [.sc, .sc, .sc, .sc], .sl [.sc, .sc, .sc]], [.sc], [.sc]]) (ys := [.agg [.int .i64 b109.Now, .fz (b109.Cases.map e_Case), .fz (b109.Line.map e_Slip)]]) h rfl (pv_c (sn_agg (sm_c rfl (sm_c (sn_ow hS 4 rfl qv110 (fun _ => rfl)) (sm_c (sn_ow hS 5 rfl qv112 (fun _ => rfl)) (sm_n _))))) pv_n) fun b130 hb130 h => ⟨.tup [.agg [.int .i64 b130.1.Now, .own 4 (b130.1.Cases.map e_Case), .own 3 (b130.1.Line.map e_Slip)], .int .i64 b130.2.1, .bool b130.2.2], spec_SettleCourt_w hb130 (Own.nil _) fun v134 qv134 v135 qv135 H hS => TV_ok rfl (TV_a (TC_sc rfl (TC_ow 0 hS rfl qv134 (fun _ _ => by simp [takeE, takeT, takeC, plainA, e_Case]) fun H hS => TC_ow 0 hS rfl qv135 (fun _ _ => by simp [takeE, takeT, takeC, plainA, e_Slip]) fun H hS => TC_nil (TV_p rfl (TV_p rfl (TV_n rfl)))))), (nf_t (nf_c (nf_a (nf_c rfl (nf_c (noFz_o _ (fun _ => rfl) _) (nf_c (noFz_o _ (fun _ => rfl) _) nf_n)))) (nf_c rfl (nf_c rfl nf_n)))), ?_⟩
          refine thaw_tup ?_
          refine TH_a ?_
          refine TH_p (fun _ => rfl) ?_
          refine TH_o hS (fun _ _ => rfl) (fun _ => rfl) fun v137 H qv137 hS => ?_
          refine TH_o hS (fun _ _ => rfl) (fun _ => rfl) fun v139 H qv139 hS => ?_
          refine TH_n ?_
          refine TH_p (fun _ => rfl) ?_
          refine TH_p (fun _ => rfl) ?_
          refine TH_n ?_
          try simp only [List.headD_cons]
          obtain ⟨b131, b132, b133⟩ := b130
          try dsimp only at h
          try simp only [W]
          refine w_alloc hS rfl rfl fun ip140 wp140 H hS => ?_
          try simp only [W]
          refine w_stv (a := .agg [.int .i64 b131.Now, v137, v139]) (y' := .agg [.int .i64 b131.Now, v137, v139]) 0 hS rfl rfl rfl rfl rfl (by simp only [storA, List.all_cons, List.all_nil, qv137.stor, qv139.stor]; rfl) rfl rfl fun H hS => ?_
          try simp only [W]
          refine seq_n hK129 ?_
          refine w_seq fun K142 hK142 => ?_
          refine w_reg gC ?_
          try simp only [W, EE, reduceIte, Nat.reduceAdd, Nat.reduceLeDiff, hS.var 6 rfl]
          refine w_callS (rsh := [[.sc], [.sc]]) (ys := [.agg [.int .i64 b109.Now, .fz (b109.Cases.map e_Case), .fz (b109.Line.map e_Slip)]]) h rfl (pv_c (sn_agg (sm_c rfl (sm_c (sn_ow hS 7 rfl qv110 (fun _ => rfl)) (sm_c (sn_ow hS 8 rfl qv112 (fun _ => rfl)) (sm_n _))))) pv_n) fun b143 hb143 h => ⟨.tup [.bool b143.1, .bool b143.2], impl_IsSettled_w hb143 (Own.nil _) fun H hS => TV_ok rfl (TV_p rfl (TV_p rfl (TV_n rfl))), ⟨rfl, rfl, fun _ => rfl⟩, ?_⟩
          obtain ⟨b144, b145⟩ := b143
          try dsimp only at h
          try simp only [W]
          refine seq_n hK142 ?_
          refine w_seq fun K146 hK146 => ?_
          refine w_reg gC ?_
          try simp only [W, EE, reduceIte, Nat.reduceAdd, Nat.reduceLeDiff, hS.var 6 rfl]
          refine w_callS (rsh := [[.sc], [.sc]]) (ys := [.agg [.int .i64 b109.Now, .fz (b109.Cases.map e_Case), .fz (b109.Line.map e_Slip)]]) h rfl (pv_c (sn_agg (sm_c rfl (sm_c (sn_ow hS 7 rfl qv110 (fun _ => rfl)) (sm_c (sn_ow hS 8 rfl qv112 (fun _ => rfl)) (sm_n _))))) pv_n) fun b147 hb147 h => ⟨.tup [.bool b147.1, .bool b147.2], spec_IsSettled_w hb147 (Own.nil _) fun H hS => TV_ok rfl (TV_p rfl (TV_p rfl (TV_n rfl))), ⟨rfl, rfl, fun _ => rfl⟩, ?_⟩
          obtain ⟨b148, b149⟩ := b147
          try dsimp only at h
          try simp only [W]
          refine seq_n hK146 ?_
          refine w_seq fun K150 hK150 => ?_
          refine w_reg gC ?_
          try simp only [W, EE, reduceIte, Nat.reduceAdd, Nat.reduceLeDiff, hS.var 6 rfl]
          refine w_callS (rsh := [[.sc], [.sc]]) (ys := [.agg [.int .i64 b109.Now, .fz (b109.Cases.map e_Case), .fz (b109.Line.map e_Slip)]]) h rfl (pv_c (sn_agg (sm_c rfl (sm_c (sn_ow hS 7 rfl qv110 (fun _ => rfl)) (sm_c (sn_ow hS 8 rfl qv112 (fun _ => rfl)) (sm_n _))))) pv_n) fun b151 hb151 h => ⟨.tup [.bool b151.1, .bool b151.2], impl_AgreesIn_w hb151 (Own.nil _) fun H hS => TV_ok rfl (TV_p rfl (TV_p rfl (TV_n rfl))), ⟨rfl, rfl, fun _ => rfl⟩, ?_⟩
          obtain ⟨b152, b153⟩ := b151
          try dsimp only at h
          try simp only [W]
          refine seq_n hK150 ?_
          refine w_seq fun K154 hK154 => ?_
          refine w_reg gC ?_
          try simp only [W, EE, reduceIte, Nat.reduceAdd, Nat.reduceLeDiff, hS.var 6 rfl]
          refine w_callS (rsh := [[.sc], [.sc]]) (ys := [.agg [.int .i64 b109.Now, .fz (b109.Cases.map e_Case), .fz (b109.Line.map e_Slip)]]) h rfl (pv_c (sn_agg (sm_c rfl (sm_c (sn_ow hS 7 rfl qv110 (fun _ => rfl)) (sm_c (sn_ow hS 8 rfl qv112 (fun _ => rfl)) (sm_n _))))) pv_n) fun b155 hb155 h => ⟨.tup [.bool b155.1, .bool b155.2], spec_AgreesIn_w hb155 (Own.nil _) fun H hS => TV_ok rfl (TV_p rfl (TV_p rfl (TV_n rfl))), ⟨rfl, rfl, fun _ => rfl⟩, ?_⟩
          obtain ⟨b156, b157⟩ := b155
          try dsimp only at h
          try simp only [W]
          refine seq_n hK154 ?_
          refine w_seq fun K158 hK158 => ?_
          refine w_reg gC ?_
          try simp only [W, Nat.reduceAdd]
          refine w_call h fun b159 hb159 h => ?_
          refine spec_DrawNewCourt_w hb159 hS fun v160 qv160 H hS => ?_
          try simp only [W]
          refine seq_n hK158 ?_
          refine w_seq fun K162 hK162 => ?_
          refine w_reg gC ?_
          try simp only [W, Nat.reduceAdd, Nat.reduceBEq, List.contains_cons, Nat.reduceBEq, Bool.or_self]
          refine w_callO (rsh := [[.sc, .sl [.sc, .sc, .sc, .sc], .sl [.sc, .sc, .sc]], [.sc]]) (ys := [.fz (b159.map (AV.int .i64))]) h rfl (pv_c (sn_ow hS 0 rfl qv160 (fun _ => rfl)) pv_n) fun b163 hb163 h => ⟨.tup [.agg [.int .i64 b163.1.Now, .own 4 (b163.1.Cases.map e_Case), .own 3 (b163.1.Line.map e_Slip)], .bool b163.2], impl_NewCourt_w hb163 (Own.nil _) fun v166 qv166 v167 qv167 H hS => TV_ok rfl (TV_a (TC_sc rfl (TC_ow 0 hS rfl qv166 (fun _ _ => by simp [takeE, takeT, takeC, plainA, e_Case]) fun H hS => TC_ow 0 hS rfl qv167 (fun _ _ => by simp [takeE, takeT, takeC, plainA, e_Slip]) fun H hS => TC_nil (TV_p rfl (TV_n rfl))))), (nf_t (nf_c (nf_a (nf_c rfl (nf_c (noFz_o _ (fun _ => rfl) _) (nf_c (noFz_o _ (fun _ => rfl) _) nf_n)))) (nf_c rfl nf_n))), ?_⟩
          refine thaw_tup ?_
          refine TH_a ?_
          refine TH_p (fun _ => rfl) ?_
          refine TH_o hS (fun _ _ => rfl) (fun _ => rfl) fun v169 H qv169 hS => ?_
          refine TH_o hS (fun _ _ => rfl) (fun _ => rfl) fun v171 H qv171 hS => ?_
          refine TH_n ?_
          refine TH_p (fun _ => rfl) ?_
          refine TH_n ?_
          try simp only [List.headD_cons]
          obtain ⟨b164, b165⟩ := b163
          try dsimp only at h
          try simp only [W]
          refine w_alloc hS rfl rfl fun ip172 wp172 H hS => ?_
          try simp only [W]
          refine w_stv (a := .agg [.int .i64 b164.Now, v169, v171]) (y' := .agg [.int .i64 b164.Now, v169, v171]) 0 hS rfl rfl rfl rfl rfl (by simp only [storA, List.all_cons, List.all_nil, qv169.stor, qv171.stor]; rfl) rfl rfl fun H hS => ?_
          try simp only [W]
          refine seq_n hK162 ?_
          refine w_seq fun K174 hK174 => ?_
          refine w_reg gC ?_
          try simp only [W, Nat.reduceAdd, Nat.reduceBEq, List.contains_cons, Nat.reduceBEq, Bool.or_self]
          refine w_callO (rsh := [[.sc, .sl [.sc, .sc, .sc, .sc], .sl [.sc, .sc, .sc]], [.sc]]) (ys := [.fz (b159.map (AV.int .i64))]) h rfl (pv_c (sn_ow hS 3 rfl qv160 (fun _ => rfl)) pv_n) fun b175 hb175 h => ⟨.tup [.agg [.int .i64 b175.1.Now, .own 4 (b175.1.Cases.map e_Case), .own 3 (b175.1.Line.map e_Slip)], .bool b175.2], spec_NewCourt_w hb175 (Own.nil _) fun v178 qv178 v179 qv179 H hS => TV_ok rfl (TV_a (TC_sc rfl (TC_ow 0 hS rfl qv178 (fun _ _ => by simp [takeE, takeT, takeC, plainA, e_Case]) fun H hS => TC_ow 0 hS rfl qv179 (fun _ _ => by simp [takeE, takeT, takeC, plainA, e_Slip]) fun H hS => TC_nil (TV_p rfl (TV_n rfl))))), (nf_t (nf_c (nf_a (nf_c rfl (nf_c (noFz_o _ (fun _ => rfl) _) (nf_c (noFz_o _ (fun _ => rfl) _) nf_n)))) (nf_c rfl nf_n))), ?_⟩
          refine thaw_tup ?_
          refine TH_a ?_
          refine TH_p (fun _ => rfl) ?_
          refine TH_o hS (fun _ _ => rfl) (fun _ => rfl) fun v181 H qv181 hS => ?_
          refine TH_o hS (fun _ _ => rfl) (fun _ => rfl) fun v183 H qv183 hS => ?_
          refine TH_n ?_
          refine TH_p (fun _ => rfl) ?_
          refine TH_n ?_
          try simp only [List.headD_cons]
          obtain ⟨b176, b177⟩ := b175
          try dsimp only at h
          try simp only [W]
          refine w_alloc hS rfl rfl fun ip184 wp184 H hS => ?_
          try simp only [W]
          refine w_stv (a := .agg [.int .i64 b176.Now, v181, v183]) (y' := .agg [.int .i64 b176.Now, v181, v183]) 0 hS rfl rfl rfl rfl rfl (by simp only [storA, List.all_cons, List.all_nil, qv181.stor, qv183.stor]; rfl) rfl rfl fun H hS => ?_
          try simp only [W]
          refine seq_n hK174 ?_
          refine w_seq fun K186 hK186 => ?_
          refine w_reg gC ?_
          try simp only [W, EE, Nat.reduceAdd]
          rw [b_beql _ _ _ _ (h := rfl) rfl, resV_s]
          try simp only [W]
          refine w_grdT h (fun hc h => ?_) (fun hc h => ?_)
          · try simp only [W, EE, reduceIte, hc]
            refine w_grdT h (fun hc h => ?_) (fun hc h => ?_)
            · try simp only [W, EE, reduceIte, Nat.reduceAdd, Nat.reduceLeDiff, hS.var 10 rfl, hS.var 7 rfl, hc]
              refine w_callS (rsh := [[.sc]]) (ys := [.agg [.int .i64 b118.Now, .fz (b118.Cases.map e_Case), .fz (b118.Line.map e_Slip)], .agg [.int .i64 b131.Now, .fz (b131.Cases.map e_Case), .fz (b131.Line.map e_Slip)]]) h rfl (pv_c (sn_agg (sm_c rfl (sm_c (sn_ow hS 12 rfl qv124 (fun _ => rfl)) (sm_c (sn_ow hS 11 rfl qv126 (fun _ => rfl)) (sm_n _))))) (pv_c (sn_agg (sm_c rfl (sm_c (sn_ow hS 9 rfl qv137 (fun _ => rfl)) (sm_c (sn_ow hS 8 rfl qv139 (fun _ => rfl)) (sm_n _))))) pv_n)) fun b187 hb187 h => ⟨.bool b187, laws_sameCourts_w hb187 (Own.nil _) fun H hS => TV_ok rfl (TV_p rfl (TV_n rfl)), ⟨rfl, rfl, fun _ => rfl⟩, ?_⟩
              try simp only [W, reduceIte]
              refine w_grdT h (fun hc h => ?_) (fun hc h => ?_)
              · try simp only [W, EE, hc]
                rw [b_beql _ _ _ _ (h := rfl) rfl, resV_s]
                try simp only [W, reduceIte]
                refine w_grdT h (fun hc h => ?_) (fun hc h => ?_)
                · try simp only [W, EE, hc]
                  rw [b_beql _ _ _ _ (h := rfl) rfl, resV_s]
                  try simp only [W, reduceIte]
                  refine w_grdT h (fun hc h => ?_) (fun hc h => ?_)
                  · try simp only [W, EE, hc]
                    rw [b_beql _ _ _ _ (h := rfl) rfl, resV_s]
                    try simp only [W, reduceIte]
                    refine w_grdT h (fun hc h => ?_) (fun hc h => ?_)
                    · try simp only [W, EE, hc]
                      rw [b_beql _ _ _ _ (h := rfl) rfl, resV_s]
                      try simp only [W, reduceIte]
                      refine w_grdT h (fun hc h => ?_) (fun hc h => ?_)
                      · try simp only [W, EE, hc]
                        rw [b_beql _ _ _ _ (h := rfl) rfl, resV_s]
                        try simp only [W, reduceIte]
                        refine w_grdT h (fun hc h => ?_) (fun hc h => ?_)
                        · try simp only [W, EE, reduceIte, Nat.reduceAdd, Nat.reduceLeDiff, hS.var 3 rfl, hS.var 0 rfl, hc]
                          refine w_callS (rsh := [[.sc]]) (ys := [.agg [.int .i64 b164.Now, .fz (b164.Cases.map e_Case), .fz (b164.Line.map e_Slip)], .agg [.int .i64 b176.Now, .fz (b176.Cases.map e_Case), .fz (b176.Line.map e_Slip)]]) h rfl (pv_c (sn_agg (sm_c rfl (sm_c (sn_ow hS 5 rfl qv169 (fun _ => rfl)) (sm_c (sn_ow hS 4 rfl qv171 (fun _ => rfl)) (sm_n _))))) (pv_c (sn_agg (sm_c rfl (sm_c (sn_ow hS 2 rfl qv181 (fun _ => rfl)) (sm_c (sn_ow hS 1 rfl qv183 (fun _ => rfl)) (sm_n _))))) pv_n)) fun b188 hb188 h => ⟨.bool b188, laws_sameCourts_w hb188 (Own.nil _) fun H hS => TV_ok rfl (TV_p rfl (TV_n rfl)), ⟨rfl, rfl, fun _ => rfl⟩, ?_⟩
                          try simp only [W, reduceIte]
                          refine seq_n hK186 ?_
                          refine w_ret ?_
                          refine fin_r1 hK0 rfl ?_
                          try obtain rfl := Option.some.inj h
                          exact hP _ (hS.sel 16 [] (by decide))
                        · try simp only [W, hc]
                          refine seq_n hK186 ?_
                          refine w_ret ?_
                          refine fin_r1 hK0 rfl ?_
                          try obtain rfl := Option.some.inj h
                          exact hP _ (hS.sel 16 [] (by decide))
                      · try simp only [W, hc]
                        refine seq_n hK186 ?_
                        refine w_ret ?_
                        refine fin_r1 hK0 rfl ?_
                        try obtain rfl := Option.some.inj h
                        exact hP _ (hS.sel 16 [] (by decide))
                    · try simp only [W, hc]
                      refine seq_n hK186 ?_
                      refine w_ret ?_
                      refine fin_r1 hK0 rfl ?_
                      try obtain rfl := Option.some.inj h
                      exact hP _ (hS.sel 16 [] (by decide))
                  · try simp only [W, hc]
                    refine seq_n hK186 ?_
                    refine w_ret ?_
                    refine fin_r1 hK0 rfl ?_
                    try obtain rfl := Option.some.inj h
                    exact hP _ (hS.sel 16 [] (by decide))
                · try simp only [W, hc]
                  refine seq_n hK186 ?_
                  refine w_ret ?_
                  refine fin_r1 hK0 rfl ?_
                  try obtain rfl := Option.some.inj h
                  exact hP _ (hS.sel 16 [] (by decide))
              · try simp only [W, hc]
                refine seq_n hK186 ?_
                refine w_ret ?_
                refine fin_r1 hK0 rfl ?_
                try obtain rfl := Option.some.inj h
                exact hP _ (hS.sel 16 [] (by decide))
            · try simp only [W, hc]
              refine seq_n hK186 ?_
              refine w_ret ?_
              refine fin_r1 hK0 rfl ?_
              try obtain rfl := Option.some.inj h
              exact hP _ (hS.sel 16 [] (by decide))
          · try simp only [W, hc]
            refine seq_n hK186 ?_
            refine w_ret ?_
            refine fin_r1 hK0 rfl ?_
            try obtain rfl := Option.some.inj h
            exact hP _ (hS.sel 16 [] (by decide))
end Go.VxW
