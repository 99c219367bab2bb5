import Derived.Test.YtcgnkhdeckgaaaaVhG2
import Derived.Test.YtcgnkhdeckgaaaaProg
import Derived.Test.YtcgnkhdeckgaaaaVaE
import Derived.KernelRfl
open Go Go.VS
set_option maxRecDepth 8000
set_option maxHeartbeats 4000000
namespace Go.VxW
theorem laws_FnOpened_w {a0 : List Int} {r : (Bool)} (h : laws_FnOpened a0 = some r) {F : List It} {H : Heap} (hS : Own H (F)) {P : AV → Heap → Prop} (hP : ∀ H', Own H' (F) → P (.bool r) H') : ACall C 9 [.fz (a0.map (AV.int .u8))] H P := by
  refine acall_of gC (res := [.tmp 2]) (n := 165) rfl rfl rfl rfl fun K0 hK0 => ?_
  simp only [W, Nat.reduceSub, Nat.reduceAdd, List.replicate]
  unfold laws_FnOpened at h
  refine w_seq fun K1 hK1 => ?_
  refine w_reg gC ?_
  try simp only [W, Nat.reduceAdd]
  refine seq_n hK1 ?_
  refine w_seq fun K2 hK2 => ?_
  refine w_seq fun K3 hK3 => ?_
  refine w_reg gC ?_
  try simp only [W, EE, Nat.reduceAdd]
  refine seq_n hK3 ?_
  refine w_if ?_
  simp only [W]
  refine w_cnd h (fun hc h => ?_) (fun hc h => ?_)
  · refine w_seq fun K4 hK4 => ?_
    refine w_reg gC ?_
    try simp only [W, Nat.reduceAdd]
    refine seq_n hK4 ?_
    refine w_ret ?_
    refine seq_r hK2 ?_
    refine fin_r1 hK0 rfl ?_
    try obtain rfl := Option.some.inj h
    exact hP _ hS
  · refine w_skip ?_
    refine seq_n hK2 ?_
    refine w_seq fun K5 hK5 => ?_
    refine w_reg gC ?_
    try simp only [W, Nat.reduceAdd]
    refine w_call h fun b6 hb6 h => ?_
    refine spec_DrawPlayGreet_w hb6 hS fun v7 qv7 H hS => ?_
    try simp only [W]
    refine seq_n hK5 ?_
    refine w_seq fun K9 hK9 => ?_
    refine w_reg gC ?_
    try simp only [W, Nat.reduceAdd, Nat.reduceBEq, List.contains_cons, Nat.reduceBEq, Bool.or_self]
    refine w_callO (rsh := [[.sc, .sc, .sc, .sc, .sc, .sc, .sc, .sc, .sl [.sc, .sc, .sc], .sl [.sc, .sc, .sc], .sl [.sc, .sc, .sc]], [.sl [.sc]], [.sc]]) (ys := [.fz (b6.map e_GreetStep)]) h rfl (pv_c (sn_ow hS 0 rfl qv7 (fun _ => rfl)) pv_n) fun b10 hb10 h => ⟨.tup [.agg [.int .i64 b10.1.StateA, .int .i64 b10.1.StateB, .int .i64 b10.1.X, .int .i64 b10.1.Y, .int .i64 b10.1.OfX, .int .i64 b10.1.OfY, .int .i64 b10.1.LastX, .int .i64 b10.1.LastY, .own 3 (b10.1.Line.map e_Hello), .own 3 (b10.1.OpenedA.map e_Hello), .own 3 (b10.1.OpenedB.map e_Hello)], .own 1 (b10.2.1.map AV.bool), .bool b10.2.2], impl_PlayGreet_w hb10 (Own.nil _) fun v14 qv14 v15 qv15 v16 qv16 v17 qv17 H hS => TV_ok rfl (TV_a (TC_sc rfl (TC_sc rfl (TC_sc rfl (TC_sc rfl (TC_sc rfl (TC_sc rfl (TC_sc rfl (TC_sc rfl (TC_ow 0 hS rfl qv14 (fun _ _ => by simp [takeE, takeT, takeC, plainA, e_Hello]) fun H hS => TC_ow 0 hS rfl qv15 (fun _ _ => by simp [takeE, takeT, takeC, plainA, e_Hello]) fun H hS => TC_ow 0 hS rfl qv16 (fun _ _ => by simp [takeE, takeT, takeC, plainA, e_Hello]) fun H hS => TC_nil (TV_o 0 hS rfl qv17 (fun _ _ => by simp [takeE, takeT, plainA]) fun H hS => TV_p rfl (TV_n rfl)))))))))))), (nf_t (nf_c (nf_a (nf_c rfl (nf_c rfl (nf_c rfl (nf_c rfl (nf_c rfl (nf_c rfl (nf_c rfl (nf_c rfl (nf_c (noFz_o _ (fun _ => rfl) _) (nf_c (noFz_o _ (fun _ => rfl) _) (nf_c (noFz_o _ (fun _ => rfl) _) nf_n)))))))))))) (nf_c (noFz_o _ (fun _ => rfl) _) (nf_c rfl nf_n)))), ?_⟩
    refine thaw_tup ?_
    refine TH_a ?_
    refine TH_p (fun _ => rfl) ?_
    refine TH_p (fun _ => rfl) ?_
    refine TH_p (fun _ => rfl) ?_
    refine TH_p (fun _ => rfl) ?_
    refine TH_p (fun _ => rfl) ?_
    refine TH_p (fun _ => rfl) ?_
    refine TH_p (fun _ => rfl) ?_
    refine TH_p (fun _ => rfl) ?_
    refine TH_o hS (fun _ _ => rfl) (fun _ => rfl) fun v19 H qv19 hS => ?_
    refine TH_o hS (fun _ _ => rfl) (fun _ => rfl) fun v21 H qv21 hS => ?_
    refine TH_o hS (fun _ _ => rfl) (fun _ => rfl) fun v23 H qv23 hS => ?_
    refine TH_n ?_
    refine TH_o hS (fun _ _ => rfl) (fun _ => rfl) fun v25 H qv25 hS => ?_
    refine TH_p (fun _ => rfl) ?_
    refine TH_n ?_
    try simp only [List.headD_cons]
    obtain ⟨b11, b12, b13⟩ := b10
    try dsimp only at h
    try simp only [W]
    refine w_alloc hS rfl rfl fun ip26 wp26 H hS => ?_
    try simp only [W]
    refine w_stv (a := .agg [.int .i64 b11.StateA, .int .i64 b11.StateB, .int .i64 b11.X, .int .i64 b11.Y, .int .i64 b11.OfX, .int .i64 b11.OfY, .int .i64 b11.LastX, .int .i64 b11.LastY, v19, v21, v23]) (y' := .agg [.int .i64 b11.StateA, .int .i64 b11.StateB, .int .i64 b11.X, .int .i64 b11.Y, .int .i64 b11.OfX, .int .i64 b11.OfY, .int .i64 b11.LastX, .int .i64 b11.LastY, v19, v21, v23]) 0 hS rfl rfl rfl rfl rfl (by simp only [storA, List.all_cons, List.all_nil, qv19.stor, qv21.stor, qv23.stor]; rfl) rfl rfl fun H hS => ?_
    try simp only [W]
    refine seq_n hK9 ?_
    refine w_seq fun K28 hK28 => ?_
    refine w_reg gC ?_
    try simp only [W, Nat.reduceAdd, Nat.reduceBEq, List.contains_cons, Nat.reduceBEq, Bool.or_self]
    refine w_callO (rsh := [[.sc, .sc, .sc, .sc, .sc, .sc, .sc, .sc, .sl [.sc, .sc, .sc], .sl [.sc, .sc, .sc], .sl [.sc, .sc, .sc]], [.sl [.sc]], [.sc]]) (ys := [.fz (b6.map e_GreetStep)]) h rfl (pv_c (sn_ow hS 5 rfl qv7 (fun _ => rfl)) pv_n) fun b29 hb29 h => ⟨.tup [.agg [.int .i64 b29.1.StateA, .int .i64 b29.1.StateB, .int .i64 b29.1.X, .int .i64 b29.1.Y, .int .i64 b29.1.OfX, .int .i64 b29.1.OfY, .int .i64 b29.1.LastX, .int .i64 b29.1.LastY, .own 3 (b29.1.Line.map e_Hello), .own 3 (b29.1.OpenedA.map e_Hello), .own 3 (b29.1.OpenedB.map e_Hello)], .own 1 (b29.2.1.map AV.bool), .bool b29.2.2], spec_PlayGreet_w hb29 (Own.nil _) fun v33 qv33 v34 qv34 v35 qv35 v36 qv36 H hS => TV_ok rfl (TV_a (TC_sc rfl (TC_sc rfl (TC_sc rfl (TC_sc rfl (TC_sc rfl (TC_sc rfl (TC_sc rfl (TC_sc rfl (TC_ow 0 hS rfl qv33 (fun _ _ => by simp [takeE, takeT, takeC, plainA, e_Hello]) fun H hS => TC_ow 0 hS rfl qv34 (fun _ _ => by simp [takeE, takeT, takeC, plainA, e_Hello]) fun H hS => TC_ow 0 hS rfl qv35 (fun _ _ => by simp [takeE, takeT, takeC, plainA, e_Hello]) fun H hS => TC_nil (TV_o 0 hS rfl qv36 (fun _ _ => by simp [takeE, takeT, plainA]) fun H hS => TV_p rfl (TV_n rfl)))))))))))), (nf_t (nf_c (nf_a (nf_c rfl (nf_c rfl (nf_c rfl (nf_c rfl (nf_c rfl (nf_c rfl (nf_c rfl (nf_c rfl (nf_c (noFz_o _ (fun _ => rfl) _) (nf_c (noFz_o _ (fun _ => rfl) _) (nf_c (noFz_o _ (fun _ => rfl) _) nf_n)))))))))))) (nf_c (noFz_o _ (fun _ => rfl) _) (nf_c rfl nf_n)))), ?_⟩
    refine thaw_tup ?_
    refine TH_a ?_
    refine TH_p (fun _ => rfl) ?_
    refine TH_p (fun _ => rfl) ?_
    refine TH_p (fun _ => rfl) ?_
    refine TH_p (fun _ => rfl) ?_
    refine TH_p (fun _ => rfl) ?_
    refine TH_p (fun _ => rfl) ?_
    refine TH_p (fun _ => rfl) ?_
    refine TH_p (fun _ => rfl) ?_
    refine TH_o hS (fun _ _ => rfl) (fun _ => rfl) fun v38 H qv38 hS => ?_
    refine TH_o hS (fun _ _ => rfl) (fun _ => rfl) fun v40 H qv40 hS => ?_
    refine TH_o hS (fun _ _ => rfl) (fun _ => rfl) fun v42 H qv42 hS => ?_
    refine TH_n ?_
    refine TH_o hS (fun _ _ => rfl) (fun _ => rfl) fun v44 H qv44 hS => ?_
    refine TH_p (fun _ => rfl) ?_
    refine TH_n ?_
    try simp only [List.headD_cons]
    obtain ⟨b30, b31, b32⟩ := b29
    try dsimp only at h
    try simp only [W]
    refine w_alloc hS rfl rfl fun ip45 wp45 H hS => ?_
    try simp only [W]
    refine w_stv (a := .agg [.int .i64 b30.StateA, .int .i64 b30.StateB, .int .i64 b30.X, .int .i64 b30.Y, .int .i64 b30.OfX, .int .i64 b30.OfY, .int .i64 b30.LastX, .int .i64 b30.LastY, v38, v40, v42]) (y' := .agg [.int .i64 b30.StateA, .int .i64 b30.StateB, .int .i64 b30.X, .int .i64 b30.Y, .int .i64 b30.OfX, .int .i64 b30.OfY, .int .i64 b30.LastX, .int .i64 b30.LastY, v38, v40, v42]) 0 hS rfl rfl rfl rfl rfl (by simp only [storA, List.all_cons, List.all_nil, qv38.stor, qv40.stor, qv42.stor]; rfl) rfl rfl fun H hS => ?_
    try simp only [W]
    refine seq_n hK28 ?_
    refine w_seq fun K47 hK47 => ?_
    refine w_seq fun K48 hK48 => ?_
    obtain ⟨y50, h, g51⟩ := Option.bind_eq_some_iff.1 h
    refine w_join gC (fun s H => ∃ x49 : Bool, y50 = (x49) ∧ s = (u::u::u::u::.ptr ip26 wp26 0 0::u::.bool b13::u::u::u::u::u::u::u::u::u::u::u::u::u::u::u::u::u::u::u::u::u::u::u::u::u::u::u::u::u::u::u::u::u::u::u::u::u::u::u::u::u::u::u::u::u::u::u::u::.bool x49::u::u::u::u::u::u::u::u::u::u::u::u::u::u::u::u::u::u::u::u::u::u::u::u::u::u::u::u::u::u::u::u::u::u::u::u::u::u::u::u::u::u::u::u::u::u::u::u::u::u::u::u::u::u::u::u::u::u::u::u::u::u::u::u::u::u::u::u::u::u::u::u::u::u::u::u::u::u::u::u::u::u::u::u::u::u::u::u::u::u::u::u::u::u::u::u::u::u::u::u::u::u::u::u::u::u::u::u::u::[]) ∧ Own H (⟨v19, 3, b11.Line.map e_Hello⟩::⟨v21, 3, b11.OpenedA.map e_Hello⟩::⟨v23, 3, b11.OpenedB.map e_Hello⟩::⟨.ptr ip26 wp26 0 0, 11, [.agg [.int .i64 b11.StateA, .int .i64 b11.StateB, .int .i64 b11.X, .int .i64 b11.Y, .int .i64 b11.OfX, .int .i64 b11.OfY, .int .i64 b11.LastX, .int .i64 b11.LastY, v19, v21, v23]]⟩::F)) (fun K52 hK52 => ?_) (fun s H hq => ?_)
    · refine w_seq fun K53 hK53 => ?_
      refine w_reg gC ?_
      try simp only [W, EE, Nat.reduceAdd]
      rw [b_bneq _ _ _ _ (h := rfl) rfl, resV_s]
      try simp only [W]
      refine w_grdT h (fun hc h => ?_) (fun hc h => ?_)
      · try simp only [W, hc]
        refine seq_n hK53 ?_
        refine w_killE (s' := (u::u::u::u::.ptr ip26 wp26 0 0::u::.bool b13::u::u::u::u::u::u::u::u::u::u::u::u::u::u::u::u::u::u::u::u::u::u::u::u::u::u::u::u::u::u::u::u::u::u::u::u::u::u::u::u::u::u::u::u::u::u::u::u::.bool true::u::u::u::u::u::u::u::u::u::u::u::u::u::u::u::u::u::u::u::u::u::u::u::u::u::u::u::u::u::u::u::u::u::u::u::u::u::u::u::u::u::u::u::u::u::u::u::u::u::u::u::u::u::u::u::u::u::u::u::u::u::u::u::u::u::u::u::u::u::u::u::u::u::u::u::u::u::u::u::u::u::u::u::u::u::u::u::u::u::u::u::u::u::u::u::u::u::u::u::u::u::u::u::u::u::u::u::u::u::[])) rfl ?_
        exact cut_n hK52 ⟨_, (Option.some.inj h).symm, rfl, (hS.sel 11 [9, 8, 7, 5] (by decide))⟩
      · try simp only [W, hc]
        refine w_callS (rsh := [[.sc]]) (ys := [.fz (b12.map AV.bool), .fz (b31.map AV.bool)]) h rfl (pv_c (sn_ow hS 6 rfl qv25 (fun _ => rfl)) (pv_c (sn_ow hS 1 rfl qv44 (fun _ => rfl)) pv_n)) fun b54 hb54 h => ⟨.bool b54, laws_sameBools_w hb54 (Own.nil _) fun H hS => TV_ok rfl (TV_p rfl (TV_n rfl)), ⟨rfl, rfl, fun _ => rfl⟩, ?_⟩
        try simp only [W, reduceIte, Bool.false_eq_true]
        refine w_grdT h (fun hc h => ?_) (fun hc h => ?_)
        · try simp only [W, hc]
          refine seq_n hK53 ?_
          refine w_killE (s' := (u::u::u::u::.ptr ip26 wp26 0 0::u::.bool b13::u::u::u::u::u::u::u::u::u::u::u::u::u::u::u::u::u::u::u::u::u::u::u::u::u::u::u::u::u::u::u::u::u::u::u::u::u::u::u::u::u::u::u::u::u::u::u::u::.bool true::u::u::u::u::u::u::u::u::u::u::u::u::u::u::u::u::u::u::u::u::u::u::u::u::u::u::u::u::u::u::u::u::u::u::u::u::u::u::u::u::u::u::u::u::u::u::u::u::u::u::u::u::u::u::u::u::u::u::u::u::u::u::u::u::u::u::u::u::u::u::u::u::u::u::u::u::u::u::u::u::u::u::u::u::u::u::u::u::u::u::u::u::u::u::u::u::u::u::u::u::u::u::u::u::u::u::u::u::u::[])) rfl ?_
          exact cut_n hK52 ⟨_, (Option.some.inj h).symm, rfl, (hS.sel 11 [9, 8, 7, 5] (by decide))⟩
        · try simp only [W, EE, reduceIte, Nat.reduceAdd, Nat.reduceLeDiff, hS.var 5 rfl, hS.var 0 rfl, hc]
          refine w_callS (rsh := [[.sc]]) (ys := [.agg [.int .i64 b11.StateA, .int .i64 b11.StateB, .int .i64 b11.X, .int .i64 b11.Y, .int .i64 b11.OfX, .int .i64 b11.OfY, .int .i64 b11.LastX, .int .i64 b11.LastY, .fz (b11.Line.map e_Hello), .fz (b11.OpenedA.map e_Hello), .fz (b11.OpenedB.map e_Hello)], .agg [.int .i64 b30.StateA, .int .i64 b30.StateB, .int .i64 b30.X, .int .i64 b30.Y, .int .i64 b30.OfX, .int .i64 b30.OfY, .int .i64 b30.LastX, .int .i64 b30.LastY, .fz (b30.Line.map e_Hello), .fz (b30.OpenedA.map e_Hello), .fz (b30.OpenedB.map e_Hello)]]) h rfl (pv_c (sn_agg (sm_c rfl (sm_c rfl (sm_c rfl (sm_c rfl (sm_c rfl (sm_c rfl (sm_c rfl (sm_c rfl (sm_c (sn_ow hS 9 rfl qv19 (fun _ => rfl)) (sm_c (sn_ow hS 8 rfl qv21 (fun _ => rfl)) (sm_c (sn_ow hS 7 rfl qv23 (fun _ => rfl)) (sm_n _))))))))))))) (pv_c (sn_agg (sm_c rfl (sm_c rfl (sm_c rfl (sm_c rfl (sm_c rfl (sm_c rfl (sm_c rfl (sm_c rfl (sm_c (sn_ow hS 4 rfl qv38 (fun _ => rfl)) (sm_c (sn_ow hS 3 rfl qv40 (fun _ => rfl)) (sm_c (sn_ow hS 2 rfl qv42 (fun _ => rfl)) (sm_n _))))))))))))) pv_n)) fun b55 hb55 h => ⟨.bool b55, laws_sameGreets_w hb55 (Own.nil _) fun H hS => TV_ok rfl (TV_p rfl (TV_n rfl)), ⟨rfl, rfl, fun _ => rfl⟩, ?_⟩
          try simp only [W, reduceIte, Bool.false_eq_true]
          refine seq_n hK53 ?_
          refine w_killE (s' := (u::u::u::u::.ptr ip26 wp26 0 0::u::.bool b13::u::u::u::u::u::u::u::u::u::u::u::u::u::u::u::u::u::u::u::u::u::u::u::u::u::u::u::u::u::u::u::u::u::u::u::u::u::u::u::u::u::u::u::u::u::u::u::u::.bool (!b55)::u::u::u::u::u::u::u::u::u::u::u::u::u::u::u::u::u::u::u::u::u::u::u::u::u::u::u::u::u::u::u::u::u::u::u::u::u::u::u::u::u::u::u::u::u::u::u::u::u::u::u::u::u::u::u::u::u::u::u::u::u::u::u::u::u::u::u::u::u::u::u::u::u::u::u::u::u::u::u::u::u::u::u::u::u::u::u::u::u::u::u::u::u::u::u::u::u::u::u::u::u::u::u::u::u::u::u::u::u::[])) rfl ?_
          exact cut_n hK52 ⟨_, (Option.some.inj h).symm, rfl, (hS.sel 11 [9, 8, 7, 5] (by decide))⟩
    · obtain ⟨x49, ey, rfl, hS⟩ := hq; obtain rfl := ey.symm
      replace h := g51
      try dsimp only at h
      refine seq_n hK48 ?_
      refine w_if ?_
      simp only [W]
      refine w_cnd h (fun hc h => ?_) (fun hc h => ?_)
      · refine w_seq fun K56 hK56 => ?_
        refine w_reg gC ?_
        try simp only [W, Nat.reduceAdd]
        refine seq_n hK56 ?_
        refine w_ret ?_
        refine seq_r hK47 ?_
        refine fin_r1 hK0 rfl ?_
        try obtain rfl := Option.some.inj h
        exact hP _ (hS.sel 4 [] (by decide))
      · refine w_skip ?_
        refine seq_n hK47 ?_
        refine w_seq fun K57 hK57 => ?_
        refine w_seq fun K58 hK58 => ?_
        refine w_reg gC ?_
        try simp only [W, Nat.reduceAdd]
        refine seq_n hK58 ?_
        obtain ⟨y59, h, g60⟩ := Option.bind_eq_some_iff.1 h
        refine w_join gC (fun s H => y59 = LR.next () ∧ s = (u::u::u::u::u::u::u::u::u::u::u::u::u::u::u::u::u::u::u::u::u::u::u::u::u::u::u::u::u::u::u::u::u::u::u::u::u::u::u::u::u::u::u::u::u::u::u::u::u::u::u::u::u::u::u::u::u::u::u::u::u::u::u::u::u::u::u::u::u::u::u::u::u::u::u::u::u::u::u::u::u::u::u::u::u::u::u::u::u::u::u::u::u::u::u::u::u::u::u::u::u::u::u::u::u::u::u::u::u::u::u::u::u::u::u::u::u::u::u::u::u::u::u::u::u::u::u::u::u::u::u::u::u::u::u::u::u::u::u::u::u::u::u::u::u::u::u::u::u::u::u::u::u::u::u::u::u::u::u::u::u::u::u::u::u::[]) ∧ Own H (F)) (fun K61 hK61 => ?_) (fun s H hq => ?_)
        · refine w_seq fun K62 hK62 => ?_
          refine w_if ?_
          simp only [W]
          refine w_cnd h (fun hc h => ?_) (fun hc h => ?_)
          · refine w_seq fun K63 hK63 => ?_
            refine w_seq fun K64 hK64 => ?_
            refine w_reg gC ?_
            try simp only [W, EE, reduceIte, Nat.reduceAdd, Nat.reduceLeDiff, hS.var 3 rfl]
            refine w_callS (rsh := [[.sc]]) (ys := [.agg [.int .i64 b11.StateA, .int .i64 b11.StateB, .int .i64 b11.X, .int .i64 b11.Y, .int .i64 b11.OfX, .int .i64 b11.OfY, .int .i64 b11.LastX, .int .i64 b11.LastY, .fz (b11.Line.map e_Hello), .fz (b11.OpenedA.map e_Hello), .fz (b11.OpenedB.map e_Hello)]]) h rfl (pv_c (sn_agg (sm_c rfl (sm_c rfl (sm_c rfl (sm_c rfl (sm_c rfl (sm_c rfl (sm_c rfl (sm_c rfl (sm_c (sn_ow hS 0 rfl qv19 (fun _ => rfl)) (sm_c (sn_ow hS 1 rfl qv21 (fun _ => rfl)) (sm_c (sn_ow hS 2 rfl qv23 (fun _ => rfl)) (sm_n _))))))))))))) pv_n) fun b65 hb65 h => ⟨.bool b65, impl_GoodGreet_w hb65 (Own.nil _) fun H hS => TV_ok rfl (TV_p rfl (TV_n rfl)), ⟨rfl, rfl, fun _ => rfl⟩, ?_⟩
            try simp only [W]
            refine seq_n hK64 ?_
            refine w_if ?_
            simp only [W]
            refine w_cnd h (fun hc h => ?_) (fun hc h => ?_)
            · refine w_seq fun K66 hK66 => ?_
              refine w_reg gC ?_
              try simp only [W, Nat.reduceAdd]
              refine seq_n hK66 ?_
              refine w_ret ?_
              refine seq_r hK63 ?_
              refine seq_r hK62 ?_
              try obtain rfl := Option.some.inj h
              obtain rfl := Option.some.inj g60
              have h : (some false : Option (Bool)) = some false := rfl
              refine cut_r hK61 ?_
              refine seq_r hK57 ?_
              refine fin_r1 hK0 rfl ?_
              try obtain rfl := Option.some.inj h
              exact hP _ (hS.sel 4 [] (by decide))
            · refine w_skip ?_
              refine seq_n hK63 ?_
              refine w_seq fun K69 hK69 => ?_
              refine w_seq fun K70 hK70 => ?_
              refine w_reg gC ?_
              try simp only [W, EE, Nat.reduceAdd, Nat.reduceBEq, hS.var 3 rfl]
              refine w_len 2 hS rfl qv23 rfl ?_
              try simp only [W]
              refine seq_n hK70 ?_
              obtain ⟨y72, hw73, g79⟩ := Option.bind_eq_some_iff.1 h
              refine w_join gC (fun s H => y72 = LR.next () ∧ s = (u::u::u::u::.ptr ip26 wp26 0 0::u::u::u::u::u::u::u::u::u::u::u::u::u::u::u::u::u::u::u::u::u::u::u::u::u::u::u::u::u::u::u::u::u::u::u::u::u::u::u::u::u::u::u::u::u::u::u::u::u::u::u::u::u::u::u::u::u::u::u::u::u::u::u::u::u::u::u::u::u::u::u::u::u::u::u::u::u::u::u::u::u::u::u::u::u::u::u::u::u::u::u::u::u::u::u::u::u::u::u::u::u::u::u::u::u::u::u::u::u::u::u::u::u::u::u::u::u::u::u::u::u::u::u::u::u::u::u::u::u::u::u::u::u::u::u::u::u::u::u::u::u::u::u::u::u::u::u::u::u::u::u::u::u::u::u::u::u::u::u::u::[]) ∧ Own H (⟨v19, 3, b11.Line.map e_Hello⟩::⟨v21, 3, b11.OpenedA.map e_Hello⟩::⟨v23, 3, b11.OpenedB.map e_Hello⟩::⟨.ptr ip26 wp26 0 0, 11, [.agg [.int .i64 b11.StateA, .int .i64 b11.StateB, .int .i64 b11.X, .int .i64 b11.Y, .int .i64 b11.OfX, .int .i64 b11.OfY, .int .i64 b11.LastX, .int .i64 b11.LastY, v19, v21, v23]]⟩::F)) (fun K74 hK74 => ?_) (fun s H hq => ?_)
              · refine w_blk fun K75 hK75 => ?_
                refine w_loop gC hw73 (fun x s H => s = (u::u::u::u::.ptr ip26 wp26 0 0::u::u::u::u::u::u::u::u::u::u::u::u::u::u::u::u::u::u::u::u::u::u::u::u::u::u::u::u::u::u::u::u::u::u::u::u::u::u::u::u::u::u::u::u::u::u::u::u::u::u::u::u::u::u::u::u::v23::.int .i64 (b11.OpenedB.length : Int)::.int .i64 x::u::u::u::u::u::u::u::u::u::u::u::u::u::u::u::u::u::u::u::u::u::u::u::u::u::u::u::u::u::u::u::u::u::u::u::u::u::u::u::u::u::u::u::u::u::u::u::u::u::u::u::u::u::u::u::u::u::u::u::u::u::u::u::u::u::u::u::u::u::u::u::u::u::u::u::u::u::u::u::u::u::u::u::u::u::u::u::u::u::u::u::u::u::u::u::u::u::u::u::u::u::[]) ∧ Own H (⟨v23, 3, b11.OpenedB.map e_Hello⟩::⟨v19, 3, b11.Line.map e_Hello⟩::⟨v21, 3, b11.OpenedA.map e_Hello⟩::⟨.ptr ip26 wp26 0 0, 11, [.agg [.int .i64 b11.StateA, .int .i64 b11.StateB, .int .i64 b11.X, .int .i64 b11.Y, .int .i64 b11.OfX, .int .i64 b11.OfY, .int .i64 b11.LastX, .int .i64 b11.LastY, v19, v21, v23]]⟩::F)) ⟨rfl, (hS.sel 4 [2, 0, 1, 3] (by decide))⟩ (fun x71 y78 s H h hd77 hi K76 hK76 => ?_)
                skip
                try dsimp only at hi
                obtain ⟨rfl, hS⟩ := hi
                simp only [laws_FnOpened_l0] at h
                refine w_seq fun K80 hK80 => ?_
                refine w_reg gC ?_
                try simp only [W, EE, Nat.reduceAdd]
                refine seq_n hK80 ?_
                refine w_seq fun K81 hK81 => ?_
                refine w_if ?_
                simp only [W]
                refine w_cnd h (fun hc h => ?_) (fun hc h => ?_)
                · refine w_skip ?_
                  refine seq_n hK81 ?_
                  refine w_seq fun K82 hK82 => ?_
                  refine w_blk fun K83 hK83 => ?_
                  refine w_seq fun K84 hK84 => ?_
                  refine w_reg gC ?_
                  try simp only [W, EE, Nat.reduceAdd]
                  refine w_ow 0 hS rfl rfl rfl rfl rfl h (fun b85 in86 wn86 on86 hb85 h en86 => ?_) qv23.ne
                  obtain ⟨kn86, hbn86, hen86⟩ := hS.elem 0 rfl en86 hb85
                  try simp only [W, EE, EN, reduceIte, Nat.reduceAdd, Nat.reduceLeDiff, hbn86, hen86]
                  refine w_alloc hS rfl rfl fun ip87 wp87 H hS => ?_
                  try simp only [W]
                  refine w_stv (a := .agg [.int .i64 b85.Kind, .int .i64 b85.X, .int .i64 b85.Y]) (y' := .agg [.int .i64 b85.Kind, .int .i64 b85.X, .int .i64 b85.Y]) 0 hS rfl rfl rfl rfl rfl rfl rfl rfl fun H hS => ?_
                  try simp only [W]
                  refine seq_n hK84 ?_
                  refine w_seq fun K89 hK89 => ?_
                  refine w_reg gC ?_
                  try simp only [W, EE, reduceIte, Nat.reduceAdd, Nat.reduceLeDiff, Nat.reduceBEq, hS.var 4 rfl, hS.var 0 rfl]
                  refine w_callS (rsh := [[.sc], [.sc]]) (ys := [.fz (b11.OpenedA.map e_Hello), .agg [.int .i64 b85.Kind, .int .i64 b85.X, .int .i64 b85.Y]]) h rfl (pv_c (sn_ow hS 3 rfl qv21 (fun _ => rfl)) (pv_c rfl pv_n)) fun b90 hb90 h => ⟨.tup [.bool b90.1, .bool b90.2], impl_HasHello_w hb90 (Own.nil _) fun H hS => TV_ok rfl (TV_p rfl (TV_p rfl (TV_n rfl))), ⟨rfl, rfl, fun _ => rfl⟩, ?_⟩
                  obtain ⟨b91, b92⟩ := b90
                  try dsimp only at h
                  try simp only [W]
                  refine seq_n hK89 ?_
                  refine w_seq fun K93 hK93 => ?_
                  refine w_draw0 gC (by kernel_rfl) ?_
                  try simp only [W, EE, Nat.reduceAdd, Nat.reduceBEq, hS.var 4 rfl]
                  refine w_slW 1 hS rfl qv23 rfl rfl rfl h fun v95 x94 qv95 wv95 hx94 h => ?_
                  try simp only [W, EE, reduceIte, Nat.reduceAdd, Nat.reduceLeDiff, hS.var 0 rfl]
                  refine w_callS (rsh := [[.sc], [.sc]]) (ys := [.fz (x94.map e_Hello), .agg [.int .i64 b85.Kind, .int .i64 b85.X, .int .i64 b85.Y]]) h rfl (pv_c (sn_vw hS 1 rfl wv95 hx94 (fun _ => rfl)) (pv_c rfl pv_n)) fun b96 hb96 h => ⟨.tup [.bool b96.1, .bool b96.2], impl_HasHello_w hb96 (Own.nil _) fun H hS => TV_ok rfl (TV_p rfl (TV_p rfl (TV_n rfl))), ⟨rfl, rfl, fun _ => rfl⟩, ?_⟩
                  obtain ⟨b97, b98⟩ := b96
                  try dsimp only at h
                  try simp only [W]
                  refine seq_n hK93 ?_
                  refine w_seq fun K99 hK99 => ?_
                  obtain ⟨y101, h, g102⟩ := Option.bind_eq_some_iff.1 h
                  refine w_join gC (fun s H => ∃ x100 : Bool, y101 = (x100) ∧ s = (u::u::u::u::.ptr ip26 wp26 0 0::u::u::u::u::u::u::u::u::u::u::u::u::u::u::u::u::u::u::u::u::u::u::u::u::u::u::u::u::u::u::u::u::u::u::u::u::u::u::u::u::u::u::u::u::u::u::u::u::u::u::u::u::u::u::u::u::v23::.int .i64 (b11.OpenedB.length : Int)::.int .i64 x71::u::u::u::u::u::u::u::u::u::u::u::u::u::u::u::u::u::u::u::u::u::u::u::u::u::u::u::u::u::u::u::u::.bool x100::u::u::u::u::u::u::u::u::u::u::u::u::u::u::u::u::u::u::u::u::u::u::u::u::u::u::u::u::u::u::u::u::u::u::u::u::u::u::u::u::u::u::u::u::u::u::u::u::u::u::u::u::u::u::u::u::u::u::u::u::u::u::u::u::u::u::u::u::[]) ∧ Own H (⟨v23, 3, b11.OpenedB.map e_Hello⟩::⟨v19, 3, b11.Line.map e_Hello⟩::⟨v21, 3, b11.OpenedA.map e_Hello⟩::⟨.ptr ip26 wp26 0 0, 11, [.agg [.int .i64 b11.StateA, .int .i64 b11.StateB, .int .i64 b11.X, .int .i64 b11.Y, .int .i64 b11.OfX, .int .i64 b11.OfY, .int .i64 b11.LastX, .int .i64 b11.LastY, v19, v21, v23]]⟩::F)) (fun K103 hK103 => ?_) (fun s H hq => ?_)
                  · refine w_seq fun K104 hK104 => ?_
                    refine w_reg gC ?_
                    try simp only [W, Nat.reduceAdd]
                    refine w_grdT h (fun hc h => ?_) (fun hc h => ?_)
                    · try simp only [W, hc]
                      refine seq_n hK104 ?_
                      refine w_killE (s' := (u::u::u::u::.ptr ip26 wp26 0 0::u::u::u::u::u::u::u::u::u::u::u::u::u::u::u::u::u::u::u::u::u::u::u::u::u::u::u::u::u::u::u::u::u::u::u::u::u::u::u::u::u::u::u::u::u::u::u::u::u::u::u::u::u::u::u::u::v23::.int .i64 (b11.OpenedB.length : Int)::.int .i64 x71::u::u::u::u::u::u::u::u::u::u::u::u::u::u::u::u::u::u::u::u::u::u::u::u::u::u::u::u::u::u::u::u::.bool true::u::u::u::u::u::u::u::u::u::u::u::u::u::u::u::u::u::u::u::u::u::u::u::u::u::u::u::u::u::u::u::u::u::u::u::u::u::u::u::u::u::u::u::u::u::u::u::u::u::u::u::u::u::u::u::u::u::u::u::u::u::u::u::u::u::u::u::u::[])) rfl ?_
                      exact cut_n hK103 ⟨_, (Option.some.inj h).symm, rfl, (hS.sel 5 [1, 2, 3, 4] (by decide))⟩
                    · try simp only [W, reduceIte, Bool.false_eq_true, hc]
                      refine w_grdT h (fun hc h => ?_) (fun hc h => ?_)
                      · try simp only [W, hc]
                        refine seq_n hK104 ?_
                        refine w_killE (s' := (u::u::u::u::.ptr ip26 wp26 0 0::u::u::u::u::u::u::u::u::u::u::u::u::u::u::u::u::u::u::u::u::u::u::u::u::u::u::u::u::u::u::u::u::u::u::u::u::u::u::u::u::u::u::u::u::u::u::u::u::u::u::u::u::u::u::u::u::v23::.int .i64 (b11.OpenedB.length : Int)::.int .i64 x71::u::u::u::u::u::u::u::u::u::u::u::u::u::u::u::u::u::u::u::u::u::u::u::u::u::u::u::u::u::u::u::u::.bool true::u::u::u::u::u::u::u::u::u::u::u::u::u::u::u::u::u::u::u::u::u::u::u::u::u::u::u::u::u::u::u::u::u::u::u::u::u::u::u::u::u::u::u::u::u::u::u::u::u::u::u::u::u::u::u::u::u::u::u::u::u::u::u::u::u::u::u::u::[])) rfl ?_
                        exact cut_n hK103 ⟨_, (Option.some.inj h).symm, rfl, (hS.sel 5 [1, 2, 3, 4] (by decide))⟩
                      · try simp only [W, reduceIte, Bool.false_eq_true, hc]
                        refine w_grdT h (fun hc h => ?_) (fun hc h => ?_)
                        · try simp only [W, hc]
                          refine seq_n hK104 ?_
                          refine w_killE (s' := (u::u::u::u::.ptr ip26 wp26 0 0::u::u::u::u::u::u::u::u::u::u::u::u::u::u::u::u::u::u::u::u::u::u::u::u::u::u::u::u::u::u::u::u::u::u::u::u::u::u::u::u::u::u::u::u::u::u::u::u::u::u::u::u::u::u::u::u::v23::.int .i64 (b11.OpenedB.length : Int)::.int .i64 x71::u::u::u::u::u::u::u::u::u::u::u::u::u::u::u::u::u::u::u::u::u::u::u::u::u::u::u::u::u::u::u::u::.bool true::u::u::u::u::u::u::u::u::u::u::u::u::u::u::u::u::u::u::u::u::u::u::u::u::u::u::u::u::u::u::u::u::u::u::u::u::u::u::u::u::u::u::u::u::u::u::u::u::u::u::u::u::u::u::u::u::u::u::u::u::u::u::u::u::u::u::u::u::[])) rfl ?_
                          exact cut_n hK103 ⟨_, (Option.some.inj h).symm, rfl, (hS.sel 5 [1, 2, 3, 4] (by decide))⟩
                        · try simp only [W, reduceIte, Bool.false_eq_true, hc]
                          refine seq_n hK104 ?_
                          refine w_killE (s' := (u::u::u::u::.ptr ip26 wp26 0 0::u::u::u::u::u::u::u::u::u::u::u::u::u::u::u::u::u::u::u::u::u::u::u::u::u::u::u::u::u::u::u::u::u::u::u::u::u::u::u::u::u::u::u::u::u::u::u::u::u::u::u::u::u::u::u::u::v23::.int .i64 (b11.OpenedB.length : Int)::.int .i64 x71::u::u::u::u::u::u::u::u::u::u::u::u::u::u::u::u::u::u::u::u::u::u::u::u::u::u::u::u::u::u::u::u::.bool b97::u::u::u::u::u::u::u::u::u::u::u::u::u::u::u::u::u::u::u::u::u::u::u::u::u::u::u::u::u::u::u::u::u::u::u::u::u::u::u::u::u::u::u::u::u::u::u::u::u::u::u::u::u::u::u::u::u::u::u::u::u::u::u::u::u::u::u::u::[])) rfl ?_
                          exact cut_n hK103 ⟨_, (Option.some.inj h).symm, rfl, (hS.sel 5 [1, 2, 3, 4] (by decide))⟩
                  · obtain ⟨x100, ey, rfl, hS⟩ := hq; obtain rfl := ey.symm
                    replace h := g102
                    try dsimp only at h
                    refine seq_n hK99 ?_
                    refine w_if ?_
                    simp only [W]
                    refine w_cnd h (fun hc h => ?_) (fun hc h => ?_)
                    · refine w_seq fun K105 hK105 => ?_
                      refine w_reg gC ?_
                      try simp only [W, Nat.reduceAdd]
                      refine seq_n hK105 ?_
                      refine w_ret ?_
                      refine blk_r hK83 ?_
                      refine seq_r hK82 ?_
                      try obtain rfl := Option.some.inj h
                      obtain rfl := hd77 _ rfl
                      have h : (some (LR.done (LR.done false)) : Option (LR Unit (LR Unit (Bool)))) = some (LR.done (LR.done false)) := rfl
                      refine lp_r hK76 ?_
                      refine blk_r hK75 ?_
                      try obtain rfl := Option.some.inj h
                      obtain rfl := Option.some.inj g79
                      have h : (some (LR.done false) : Option (LR Unit (Bool))) = some (LR.done false) := rfl
                      refine cut_r hK74 ?_
                      refine seq_r hK69 ?_
                      refine seq_r hK62 ?_
                      try obtain rfl := Option.some.inj h
                      obtain rfl := Option.some.inj g60
                      have h : (some false : Option (Bool)) = some false := rfl
                      refine cut_r hK61 ?_
                      refine seq_r hK57 ?_
                      refine fin_r1 hK0 rfl ?_
                      try obtain rfl := Option.some.inj h
                      exact hP _ (hS.sel 4 [] (by decide))
                    · refine w_skip ?_
                      refine blk_n0 hK83 ?_
                      refine seq_n hK82 ?_
                      refine w_reg gC ?_
                      try simp only [W, EE, Nat.reduceAdd]
                      exact lp_n hK76 h ⟨rfl, hS⟩
                · refine w_exit ?_
                  refine seq_x hK81 ?_
                  try obtain rfl := Option.some.inj h
                  obtain rfl := hd77 _ rfl
                  have h : (some (LR.next ()) : Option (LR Unit (LR Unit (Bool)))) = some (LR.next ()) := rfl
                  refine lp_x hK76 ?_
                  refine blk_e hK75 ?_
                  exact cut_n hK74 ⟨(Option.some.inj h).symm, rfl, (hS.sel 4 [1, 2, 0, 3] (by decide))⟩
              · obtain ⟨rfl, rfl, hS⟩ := hq
                replace h := g79
                try dsimp only at h
                refine seq_n hK69 ?_
                refine w_seq fun K114 hK114 => ?_
                refine w_seq fun K115 hK115 => ?_
                refine w_reg gC ?_
                try simp only [W, EE, Nat.reduceAdd, Nat.reduceBEq, hS.var 3 rfl]
                refine w_len 1 hS rfl qv21 rfl ?_
                try simp only [W]
                refine seq_n hK115 ?_
                obtain ⟨y117, hw118, g124⟩ := Option.bind_eq_some_iff.1 h
                refine w_join gC (fun s H => y117 = LR.next () ∧ s = (u::u::u::u::.ptr ip26 wp26 0 0::u::u::u::u::u::u::u::u::u::u::u::u::u::u::u::u::u::u::u::u::u::u::u::u::u::u::u::u::u::u::u::u::u::u::u::u::u::u::u::u::u::u::u::u::u::u::u::u::u::u::u::u::u::u::u::u::u::u::u::u::u::u::u::u::u::u::u::u::u::u::u::u::u::u::u::u::u::u::u::u::u::u::u::u::u::u::u::u::u::u::u::u::u::u::u::u::u::u::u::u::u::u::u::u::u::u::u::u::u::u::u::u::u::u::u::u::u::u::u::u::u::u::u::u::u::u::u::u::u::u::u::u::u::u::u::u::u::u::u::u::u::u::u::u::u::u::u::u::u::u::u::u::u::u::u::u::u::u::u::u::[]) ∧ Own H (⟨v19, 3, b11.Line.map e_Hello⟩::⟨v21, 3, b11.OpenedA.map e_Hello⟩::⟨v23, 3, b11.OpenedB.map e_Hello⟩::⟨.ptr ip26 wp26 0 0, 11, [.agg [.int .i64 b11.StateA, .int .i64 b11.StateB, .int .i64 b11.X, .int .i64 b11.Y, .int .i64 b11.OfX, .int .i64 b11.OfY, .int .i64 b11.LastX, .int .i64 b11.LastY, v19, v21, v23]]⟩::F)) (fun K119 hK119 => ?_) (fun s H hq => ?_)
                · refine w_blk fun K120 hK120 => ?_
                  refine w_loop gC hw118 (fun x s H => s = (u::u::u::u::.ptr ip26 wp26 0 0::u::u::u::u::u::u::u::u::u::u::u::u::u::u::u::u::u::u::u::u::u::u::u::u::u::u::u::u::u::u::u::u::u::u::u::u::u::u::u::u::u::u::u::u::u::u::u::u::u::u::u::u::u::u::u::u::u::u::u::u::u::u::u::u::u::u::u::u::u::u::u::u::u::u::u::u::u::u::u::u::u::u::u::u::u::u::u::u::u::u::u::u::u::u::v21::.int .i64 (b11.OpenedA.length : Int)::.int .i64 x::u::u::u::u::u::u::u::u::u::u::u::u::u::u::u::u::u::u::u::u::u::u::u::u::u::u::u::u::u::u::u::u::u::u::u::u::u::u::u::u::u::u::u::u::u::u::u::u::u::u::u::u::u::u::u::u::u::u::u::u::u::u::u::[]) ∧ Own H (⟨v21, 3, b11.OpenedA.map e_Hello⟩::⟨v19, 3, b11.Line.map e_Hello⟩::⟨v23, 3, b11.OpenedB.map e_Hello⟩::⟨.ptr ip26 wp26 0 0, 11, [.agg [.int .i64 b11.StateA, .int .i64 b11.StateB, .int .i64 b11.X, .int .i64 b11.Y, .int .i64 b11.OfX, .int .i64 b11.OfY, .int .i64 b11.LastX, .int .i64 b11.LastY, v19, v21, v23]]⟩::F)) ⟨rfl, (hS.sel 4 [1, 0, 2, 3] (by decide))⟩ (fun x116 y123 s H h hd122 hi K121 hK121 => ?_)
                  skip
                  try dsimp only at hi
                  obtain ⟨rfl, hS⟩ := hi
                  simp only [laws_FnOpened_l2] at h
                  refine w_seq fun K125 hK125 => ?_
                  refine w_reg gC ?_
                  try simp only [W, EE, Nat.reduceAdd]
                  refine seq_n hK125 ?_
                  refine w_seq fun K126 hK126 => ?_
                  refine w_if ?_
                  simp only [W]
                  refine w_cnd h (fun hc h => ?_) (fun hc h => ?_)
                  · refine w_skip ?_
                    refine seq_n hK126 ?_
                    refine w_seq fun K127 hK127 => ?_
                    refine w_blk fun K128 hK128 => ?_
                    refine w_seq fun K129 hK129 => ?_
                    refine w_reg gC ?_
                    try simp only [W, EE, Nat.reduceAdd]
                    refine w_ow 0 hS rfl rfl rfl rfl rfl h (fun b130 in131 wn131 on131 hb130 h en131 => ?_) qv21.ne
                    obtain ⟨kn131, hbn131, hen131⟩ := hS.elem 0 rfl en131 hb130
                    try simp only [W, EE, EN, reduceIte, Nat.reduceAdd, Nat.reduceLeDiff, hbn131, hen131]
                    refine w_alloc hS rfl rfl fun ip132 wp132 H hS => ?_
                    try simp only [W]
                    refine w_stv (a := .agg [.int .i64 b130.Kind, .int .i64 b130.X, .int .i64 b130.Y]) (y' := .agg [.int .i64 b130.Kind, .int .i64 b130.X, .int .i64 b130.Y]) 0 hS rfl rfl rfl rfl rfl rfl rfl rfl fun H hS => ?_
                    try simp only [W]
                    refine seq_n hK129 ?_
                    refine w_seq fun K134 hK134 => ?_
                    refine w_reg gC ?_
                    try simp only [W, EE, Nat.reduceAdd, Nat.reduceBEq, hS.var 4 rfl]
                    refine w_slW 1 hS rfl qv21 rfl rfl rfl h fun v136 x135 qv136 wv136 hx135 h => ?_
                    try simp only [W, EE]
                    refine w_lenW hS 1 rfl wv136 hx135 rfl ?_
                    try simp only [W]
                    refine seq_n hK134 ?_
                    obtain ⟨y138, hw139, g145⟩ := Option.bind_eq_some_iff.1 h
                    refine w_join gC (fun s H => y138 = LR.next () ∧ s = (u::u::u::u::.ptr ip26 wp26 0 0::u::u::u::u::u::u::u::u::u::u::u::u::u::u::u::u::u::u::u::u::u::u::u::u::u::u::u::u::u::u::u::u::u::u::u::u::u::u::u::u::u::u::u::u::u::u::u::u::u::u::u::u::u::u::u::u::u::u::u::u::u::u::u::u::u::u::u::u::u::u::u::u::u::u::u::u::u::u::u::u::u::u::u::u::u::u::u::u::u::u::u::u::u::u::v21::.int .i64 (b11.OpenedA.length : Int)::.int .i64 x116::u::u::u::u::u::u::u::u::u::u::u::u::u::u::u::u::u::u::u::u::u::u::u::u::u::u::u::u::u::u::u::u::u::u::u::u::u::u::u::u::u::u::u::u::u::u::u::u::u::u::u::u::u::u::u::u::u::u::u::u::u::u::u::[]) ∧ Own H (⟨v21, 3, b11.OpenedA.map e_Hello⟩::⟨v19, 3, b11.Line.map e_Hello⟩::⟨v23, 3, b11.OpenedB.map e_Hello⟩::⟨.ptr ip26 wp26 0 0, 11, [.agg [.int .i64 b11.StateA, .int .i64 b11.StateB, .int .i64 b11.X, .int .i64 b11.Y, .int .i64 b11.OfX, .int .i64 b11.OfY, .int .i64 b11.LastX, .int .i64 b11.LastY, v19, v21, v23]]⟩::F)) (fun K140 hK140 => ?_) (fun s H hq => ?_)
                    · refine w_blk fun K141 hK141 => ?_
                      refine w_loop gC hw139 (fun x s H => s = (u::u::u::u::.ptr ip26 wp26 0 0::u::u::u::u::u::u::u::u::u::u::u::u::.ptr ip132 wp132 0 0::u::u::u::u::u::u::u::u::u::u::u::u::u::u::u::u::u::u::u::u::u::u::u::u::u::u::u::u::u::u::u::u::u::u::u::u::u::u::u::u::u::u::u::u::u::u::u::u::u::u::u::u::u::u::u::u::u::u::u::u::u::u::u::u::u::u::u::u::u::u::u::u::u::u::u::u::u::u::u::u::u::v21::.int .i64 (b11.OpenedA.length : Int)::.int .i64 x116::u::u::u::u::u::u::u::v136::.int .i64 (x135.length : Int)::.int .i64 x::u::u::u::u::u::u::u::u::u::u::u::u::u::u::u::u::u::u::u::u::u::u::u::u::u::u::u::u::u::u::u::u::u::u::u::u::u::u::u::u::u::u::u::u::u::u::u::u::u::u::u::u::u::[]) ∧ Own H (⟨v21, 3, b11.OpenedA.map e_Hello⟩::⟨v19, 3, b11.Line.map e_Hello⟩::⟨v23, 3, b11.OpenedB.map e_Hello⟩::⟨.ptr ip26 wp26 0 0, 11, [.agg [.int .i64 b11.StateA, .int .i64 b11.StateB, .int .i64 b11.X, .int .i64 b11.Y, .int .i64 b11.OfX, .int .i64 b11.OfY, .int .i64 b11.LastX, .int .i64 b11.LastY, v19, v21, v23]]⟩::⟨.ptr ip132 wp132 0 0, 3, [.agg [.int .i64 b130.Kind, .int .i64 b130.X, .int .i64 b130.Y]]⟩::F)) ⟨rfl, (hS.sel 5 [1, 2, 3, 4, 0] (by decide))⟩ (fun x137 y144 s H h hd143 hi K142 hK142 => ?_)
                      skip
                      try dsimp only at hi
                      obtain ⟨rfl, hS⟩ := hi
                      simp only [laws_FnOpened_l1] at h
                      refine w_seq fun K146 hK146 => ?_
                      refine w_reg gC ?_
                      try simp only [W, EE, Nat.reduceAdd]
                      refine seq_n hK146 ?_
                      refine w_seq fun K147 hK147 => ?_
                      refine w_if ?_
                      simp only [W]
                      refine w_cnd h (fun hc h => ?_) (fun hc h => ?_)
                      · refine w_skip ?_
                        refine seq_n hK147 ?_
                        refine w_seq fun K148 hK148 => ?_
                        refine w_blk fun K149 hK149 => ?_
                        refine w_seq fun K150 hK150 => ?_
                        refine w_reg gC ?_
                        try simp only [W, EE, Nat.reduceAdd]
                        refine w_vwE 0 hS rfl wv136 hx135 rfl rfl rfl rfl h fun b151 pn152 qn152 on152 hb151 h hkn152 => ?_
                        obtain ⟨kn152, hbn152, hen152⟩ := hkn152
                        try simp only [W, EE, EN, reduceIte, Nat.reduceAdd, Nat.reduceLeDiff, hbn152, hen152]
                        refine w_alloc hS rfl rfl fun ip153 wp153 H hS => ?_
                        try simp only [W]
                        refine w_stv (a := .agg [.int .i64 b151.Kind, .int .i64 b151.X, .int .i64 b151.Y]) (y' := .agg [.int .i64 b151.Kind, .int .i64 b151.X, .int .i64 b151.Y]) 0 hS rfl rfl rfl rfl rfl rfl rfl rfl fun H hS => ?_
                        try simp only [W]
                        refine seq_n hK150 ?_
                        refine w_seq fun K155 hK155 => ?_
                        obtain ⟨y157, h, g158⟩ := Option.bind_eq_some_iff.1 h
                        refine w_join gC (fun s H => ∃ x156 : Bool, y157 = (x156) ∧ s = (u::u::u::u::.ptr ip26 wp26 0 0::u::u::u::u::u::u::u::u::u::u::u::u::.ptr ip132 wp132 0 0::u::u::u::u::u::u::u::u::u::u::u::u::u::u::u::u::u::u::u::u::u::u::u::u::u::u::u::u::u::u::u::u::u::u::u::u::u::u::u::u::u::u::u::u::u::u::u::u::u::u::u::u::u::u::u::u::u::u::u::u::u::u::u::u::u::u::u::u::u::u::u::u::u::u::u::u::u::u::u::u::u::v21::.int .i64 (b11.OpenedA.length : Int)::.int .i64 x116::u::u::u::u::u::u::u::v136::.int .i64 (x135.length : Int)::.int .i64 x137::u::u::u::u::u::u::u::u::u::u::u::u::u::u::.bool x156::u::u::u::u::u::u::u::u::u::u::u::u::u::u::u::u::u::u::u::u::u::u::u::u::u::u::u::u::u::u::u::u::u::u::u::u::u::u::[]) ∧ Own H (⟨v21, 3, b11.OpenedA.map e_Hello⟩::⟨v19, 3, b11.Line.map e_Hello⟩::⟨v23, 3, b11.OpenedB.map e_Hello⟩::⟨.ptr ip26 wp26 0 0, 11, [.agg [.int .i64 b11.StateA, .int .i64 b11.StateB, .int .i64 b11.X, .int .i64 b11.Y, .int .i64 b11.OfX, .int .i64 b11.OfY, .int .i64 b11.LastX, .int .i64 b11.LastY, v19, v21, v23]]⟩::⟨.ptr ip132 wp132 0 0, 3, [.agg [.int .i64 b130.Kind, .int .i64 b130.X, .int .i64 b130.Y]]⟩::F)) (fun K159 hK159 => ?_) (fun s H hq => ?_)
                        · refine w_seq fun K160 hK160 => ?_
                          refine w_reg gC ?_
                          try simp only [W, EE, Nat.reduceAdd, Nat.reduceBEq, hS.var 5 rfl, hS.var 0 rfl]
                          refine w_grdT h (fun hc h => ?_) (fun hc h => ?_)
                          · try simp only [W, hc]
                            refine seq_n hK160 ?_
                            refine w_killE (s' := (u::u::u::u::.ptr ip26 wp26 0 0::u::u::u::u::u::u::u::u::u::u::u::u::.ptr ip132 wp132 0 0::u::u::u::u::u::u::u::u::u::u::u::u::u::u::u::u::u::u::u::u::u::u::u::u::u::u::u::u::u::u::u::u::u::u::u::u::u::u::u::u::u::u::u::u::u::u::u::u::u::u::u::u::u::u::u::u::u::u::u::u::u::u::u::u::u::u::u::u::u::u::u::u::u::u::u::u::u::u::u::u::u::v21::.int .i64 (b11.OpenedA.length : Int)::.int .i64 x116::u::u::u::u::u::u::u::v136::.int .i64 (x135.length : Int)::.int .i64 x137::u::u::u::u::u::u::u::u::u::u::u::u::u::u::.bool true::u::u::u::u::u::u::u::u::u::u::u::u::u::u::u::u::u::u::u::u::u::u::u::u::u::u::u::u::u::u::u::u::u::u::u::u::u::u::[])) rfl ?_
                            exact cut_n hK159 ⟨_, (Option.some.inj h).symm, rfl, (hS.sel 6 [1, 2, 3, 4, 5] (by decide))⟩
                          · try simp only [W, EE, reduceIte, Nat.reduceAdd, Nat.reduceBEq, Bool.false_eq_true, hS.var 5 rfl, hS.var 0 rfl, hc]
                            refine seq_n hK160 ?_
                            refine w_killE (s' := (u::u::u::u::.ptr ip26 wp26 0 0::u::u::u::u::u::u::u::u::u::u::u::u::.ptr ip132 wp132 0 0::u::u::u::u::u::u::u::u::u::u::u::u::u::u::u::u::u::u::u::u::u::u::u::u::u::u::u::u::u::u::u::u::u::u::u::u::u::u::u::u::u::u::u::u::u::u::u::u::u::u::u::u::u::u::u::u::u::u::u::u::u::u::u::u::u::u::u::u::u::u::u::u::u::u::u::u::u::u::u::u::u::v21::.int .i64 (b11.OpenedA.length : Int)::.int .i64 x116::u::u::u::u::u::u::u::v136::.int .i64 (x135.length : Int)::.int .i64 x137::u::u::u::u::u::u::u::u::u::u::u::u::u::u::.bool (b130.Y == b151.Y)::u::u::u::u::u::u::u::u::u::u::u::u::u::u::u::u::u::u::u::u::u::u::u::u::u::u::u::u::u::u::u::u::u::u::u::u::u::u::[])) rfl ?_
                            exact cut_n hK159 ⟨_, (Option.some.inj h).symm, rfl, (hS.sel 6 [1, 2, 3, 4, 5] (by decide))⟩
                        · obtain ⟨x156, ey, rfl, hS⟩ := hq; obtain rfl := ey.symm
                          replace h := g158
                          try dsimp only at h
                          refine seq_n hK155 ?_
                          refine w_if ?_
                          simp only [W]
                          refine w_cnd h (fun hc h => ?_) (fun hc h => ?_)
                          · refine w_seq fun K161 hK161 => ?_
                            refine w_reg gC ?_
                            try simp only [W, Nat.reduceAdd]
                            refine seq_n hK161 ?_
                            refine w_ret ?_
                            refine blk_r hK149 ?_
                            refine seq_r hK148 ?_
                            try obtain rfl := Option.some.inj h
                            obtain rfl := hd143 _ rfl
                            have h : (some (LR.done (LR.done (LR.done (LR.done false)))) : Option (LR Unit (LR (Int) (LR Unit (LR Unit (Bool)))))) = some (LR.done (LR.done (LR.done (LR.done false)))) := rfl
                            refine lp_r hK142 ?_
                            refine blk_r hK141 ?_
                            try obtain rfl := Option.some.inj h
                            obtain rfl := Option.some.inj g145
                            have h : (some (LR.done (LR.done (LR.done false))) : Option (LR (Int) (LR Unit (LR Unit (Bool))))) = some (LR.done (LR.done (LR.done false))) := rfl
                            refine cut_r hK140 ?_
                            refine blk_r hK128 ?_
                            refine seq_r hK127 ?_
                            try obtain rfl := Option.some.inj h
                            obtain rfl := hd122 _ rfl
                            have h : (some (LR.done (LR.done false)) : Option (LR Unit (LR Unit (Bool)))) = some (LR.done (LR.done false)) := rfl
                            refine lp_r hK121 ?_
                            refine blk_r hK120 ?_
                            try obtain rfl := Option.some.inj h
                            obtain rfl := Option.some.inj g124
                            have h : (some (LR.done false) : Option (LR Unit (Bool))) = some (LR.done false) := rfl
                            refine cut_r hK119 ?_
                            refine seq_r hK114 ?_
                            refine seq_r hK62 ?_
                            try obtain rfl := Option.some.inj h
                            obtain rfl := Option.some.inj g60
                            have h : (some false : Option (Bool)) = some false := rfl
                            refine cut_r hK61 ?_
                            refine seq_r hK57 ?_
                            refine fin_r1 hK0 rfl ?_
                            try obtain rfl := Option.some.inj h
                            exact hP _ (hS.sel 5 [] (by decide))
                          · refine w_skip ?_
                            refine blk_n0 hK149 ?_
                            refine seq_n hK148 ?_
                            refine w_reg gC ?_
                            try simp only [W, EE, Nat.reduceAdd]
                            exact lp_n hK142 h ⟨rfl, hS⟩
                      · refine w_exit ?_
                        refine seq_x hK147 ?_
                        try obtain rfl := Option.some.inj h
                        obtain rfl := hd143 _ rfl
                        have h : (some (LR.next ()) : Option (LR Unit (LR (Int) (LR Unit (LR Unit (Bool)))))) = some (LR.next ()) := rfl
                        refine lp_x hK142 ?_
                        refine blk_e hK141 ?_
                        exact cut_n hK140 ⟨(Option.some.inj h).symm, rfl, (hS.sel 5 [0, 1, 2, 3] (by decide))⟩
                    · obtain ⟨rfl, rfl, hS⟩ := hq
                      replace h := g145
                      try dsimp only at h
                      refine blk_n0 hK128 ?_
                      refine seq_n hK127 ?_
                      refine w_reg gC ?_
                      try simp only [W, EE, Nat.reduceAdd]
                      exact lp_n hK121 h ⟨rfl, hS⟩
                  · refine w_exit ?_
                    refine seq_x hK126 ?_
                    try obtain rfl := Option.some.inj h
                    obtain rfl := hd122 _ rfl
                    have h : (some (LR.next ()) : Option (LR Unit (LR Unit (Bool)))) = some (LR.next ()) := rfl
                    refine lp_x hK121 ?_
                    refine blk_e hK120 ?_
                    exact cut_n hK119 ⟨(Option.some.inj h).symm, rfl, (hS.sel 4 [1, 0, 2, 3] (by decide))⟩
                · obtain ⟨rfl, rfl, hS⟩ := hq
                  replace h := g124
                  try dsimp only at h
                  refine seq_n hK114 ?_
                  refine w_seq fun K176 hK176 => ?_
                  refine w_reg gC ?_
                  try simp only [W, EE, reduceIte, Nat.reduceAdd, Nat.reduceLeDiff, Nat.reduceBEq, hS.var 3 rfl, List.contains_cons, Nat.reduceBEq, Bool.or_self]
                  refine w_callO (rsh := [[.sc, .sc, .sc, .sc, .sc, .sc, .sc, .sc, .sl [.sc, .sc, .sc], .sl [.sc, .sc, .sc], .sl [.sc, .sc, .sc]], [.sc]]) (ys := [.agg [.int .i64 b11.StateA, .int .i64 b11.StateB, .int .i64 b11.X, .int .i64 b11.Y, .int .i64 b11.OfX, .int .i64 b11.OfY, .int .i64 b11.LastX, .int .i64 b11.LastY, .fz (b11.Line.map e_Hello), .fz (b11.OpenedA.map e_Hello), .fz (b11.OpenedB.map e_Hello)]]) h rfl (pv_c (sn_agg (sm_c rfl (sm_c rfl (sm_c rfl (sm_c rfl (sm_c rfl (sm_c rfl (sm_c rfl (sm_c rfl (sm_c (sn_ow hS 0 rfl qv19 (fun _ => rfl)) (sm_c (sn_ow hS 1 rfl qv21 (fun _ => rfl)) (sm_c (sn_ow hS 2 rfl qv23 (fun _ => rfl)) (sm_n _))))))))))))) pv_n) fun b177 hb177 h => ⟨.tup [.agg [.int .i64 b177.1.StateA, .int .i64 b177.1.StateB, .int .i64 b177.1.X, .int .i64 b177.1.Y, .int .i64 b177.1.OfX, .int .i64 b177.1.OfY, .int .i64 b177.1.LastX, .int .i64 b177.1.LastY, .own 3 (b177.1.Line.map e_Hello), .own 3 (b177.1.OpenedA.map e_Hello), .own 3 (b177.1.OpenedB.map e_Hello)], .bool b177.2], impl_SettleGreet_w hb177 (Own.nil _) fun v180 qv180 v181 qv181 v182 qv182 H hS => TV_ok rfl (TV_a (TC_sc rfl (TC_sc rfl (TC_sc rfl (TC_sc rfl (TC_sc rfl (TC_sc rfl (TC_sc rfl (TC_sc rfl (TC_ow 0 hS rfl qv180 (fun _ _ => by simp [takeE, takeT, takeC, plainA, e_Hello]) fun H hS => TC_ow 0 hS rfl qv181 (fun _ _ => by simp [takeE, takeT, takeC, plainA, e_Hello]) fun H hS => TC_ow 0 hS rfl qv182 (fun _ _ => by simp [takeE, takeT, takeC, plainA, e_Hello]) fun H hS => TC_nil (TV_p rfl (TV_n rfl)))))))))))), (nf_t (nf_c (nf_a (nf_c rfl (nf_c rfl (nf_c rfl (nf_c rfl (nf_c rfl (nf_c rfl (nf_c rfl (nf_c rfl (nf_c (noFz_o _ (fun _ => rfl) _) (nf_c (noFz_o _ (fun _ => rfl) _) (nf_c (noFz_o _ (fun _ => rfl) _) nf_n)))))))))))) (nf_c rfl nf_n))), ?_⟩
                  refine thaw_tup ?_
                  refine TH_a ?_
                  refine TH_p (fun _ => rfl) ?_
                  refine TH_p (fun _ => rfl) ?_
                  refine TH_p (fun _ => rfl) ?_
                  refine TH_p (fun _ => rfl) ?_
                  refine TH_p (fun _ => rfl) ?_
                  refine TH_p (fun _ => rfl) ?_
                  refine TH_p (fun _ => rfl) ?_
                  refine TH_p (fun _ => rfl) ?_
                  refine TH_o hS (fun _ _ => rfl) (fun _ => rfl) fun v184 H qv184 hS => ?_
                  refine TH_o hS (fun _ _ => rfl) (fun _ => rfl) fun v186 H qv186 hS => ?_
                  refine TH_o hS (fun _ _ => rfl) (fun _ => rfl) fun v188 H qv188 hS => ?_
                  refine TH_n ?_
                  refine TH_p (fun _ => rfl) ?_
                  refine TH_n ?_
                  try simp only [List.headD_cons]
                  obtain ⟨b178, b179⟩ := b177
                  try dsimp only at h
                  try simp only [W]
                  refine w_alloc hS rfl rfl fun ip189 wp189 H hS => ?_
                  try simp only [W]
                  refine w_stv (a := .agg [.int .i64 b178.StateA, .int .i64 b178.StateB, .int .i64 b178.X, .int .i64 b178.Y, .int .i64 b178.OfX, .int .i64 b178.OfY, .int .i64 b178.LastX, .int .i64 b178.LastY, v184, v186, v188]) (y' := .agg [.int .i64 b178.StateA, .int .i64 b178.StateB, .int .i64 b178.X, .int .i64 b178.Y, .int .i64 b178.OfX, .int .i64 b178.OfY, .int .i64 b178.LastX, .int .i64 b178.LastY, v184, v186, v188]) 0 hS rfl rfl rfl rfl rfl (by simp only [storA, List.all_cons, List.all_nil, qv184.stor, qv186.stor, qv188.stor]; rfl) rfl rfl fun H hS => ?_
                  try simp only [W]
                  refine seq_n hK176 ?_
                  refine w_seq fun K191 hK191 => ?_
                  refine w_reg gC ?_
                  try simp only [W, EE, reduceIte, Nat.reduceAdd, Nat.reduceLeDiff, hS.var 0 rfl]
                  refine w_callS (rsh := [[.sc], [.sc]]) (ys := [.agg [.int .i64 b178.StateA, .int .i64 b178.StateB, .int .i64 b178.X, .int .i64 b178.Y, .int .i64 b178.OfX, .int .i64 b178.OfY, .int .i64 b178.LastX, .int .i64 b178.LastY, .fz (b178.Line.map e_Hello), .fz (b178.OpenedA.map e_Hello), .fz (b178.OpenedB.map e_Hello)]]) h rfl (pv_c (sn_agg (sm_c rfl (sm_c rfl (sm_c rfl (sm_c rfl (sm_c rfl (sm_c rfl (sm_c rfl (sm_c rfl (sm_c (sn_ow hS 3 rfl qv184 (fun _ => rfl)) (sm_c (sn_ow hS 2 rfl qv186 (fun _ => rfl)) (sm_c (sn_ow hS 1 rfl qv188 (fun _ => rfl)) (sm_n _))))))))))))) pv_n) fun b192 hb192 h => ⟨.tup [.bool b192.1, .bool b192.2], impl_BothOpen_w hb192 (Own.nil _) fun H hS => TV_ok rfl (TV_p rfl (TV_p rfl (TV_n rfl))), ⟨rfl, rfl, fun _ => rfl⟩, ?_⟩
                  obtain ⟨b193, b194⟩ := b192
                  try dsimp only at h
                  try simp only [W]
                  refine seq_n hK191 ?_
                  refine w_seq fun K195 hK195 => ?_
                  obtain ⟨y197, h, g198⟩ := Option.bind_eq_some_iff.1 h
                  refine w_join gC (fun s H => ∃ x196 : Bool, y197 = (x196) ∧ s = (u::u::u::u::u::u::u::u::u::u::u::u::u::u::u::u::u::u::u::u::u::u::u::u::u::u::u::u::u::u::u::u::u::u::u::u::u::u::u::u::u::u::u::u::u::u::u::u::u::u::u::u::u::u::u::u::u::u::u::u::u::u::u::u::u::u::u::u::u::u::u::u::u::u::u::u::u::u::u::u::u::u::u::u::u::u::u::u::u::u::u::u::u::u::u::u::u::u::u::u::u::u::u::u::u::u::u::u::u::u::u::u::u::u::u::u::u::u::u::u::u::u::u::u::u::u::u::u::u::u::u::u::u::u::u::u::u::u::u::u::u::u::u::u::u::u::u::u::u::u::u::u::u::u::u::u::u::u::u::u::u::u::u::u::.bool x196::[]) ∧ Own H (F)) (fun K199 hK199 => ?_) (fun s H hq => ?_)
                  · refine w_seq fun K200 hK200 => ?_
                    refine w_reg gC ?_
                    try simp only [W, Nat.reduceAdd]
                    refine w_grdT h (fun hc h => ?_) (fun hc h => ?_)
                    · try simp only [W, hc]
                      refine seq_n hK200 ?_
                      refine w_killE (s' := (u::u::u::u::u::u::u::u::u::u::u::u::u::u::u::u::u::u::u::u::u::u::u::u::u::u::u::u::u::u::u::u::u::u::u::u::u::u::u::u::u::u::u::u::u::u::u::u::u::u::u::u::u::u::u::u::u::u::u::u::u::u::u::u::u::u::u::u::u::u::u::u::u::u::u::u::u::u::u::u::u::u::u::u::u::u::u::u::u::u::u::u::u::u::u::u::u::u::u::u::u::u::u::u::u::u::u::u::u::u::u::u::u::u::u::u::u::u::u::u::u::u::u::u::u::u::u::u::u::u::u::u::u::u::u::u::u::u::u::u::u::u::u::u::u::u::u::u::u::u::u::u::u::u::u::u::u::u::u::u::u::u::u::u::.bool true::[])) rfl ?_
                      exact cut_n hK199 ⟨_, (Option.some.inj h).symm, rfl, (hS.sel 8 [] (by decide))⟩
                    · try simp only [W, reduceIte, Bool.false_eq_true, hc]
                      refine w_grdT h (fun hc h => ?_) (fun hc h => ?_)
                      · try simp only [W, hc]
                        refine seq_n hK200 ?_
                        refine w_killE (s' := (u::u::u::u::u::u::u::u::u::u::u::u::u::u::u::u::u::u::u::u::u::u::u::u::u::u::u::u::u::u::u::u::u::u::u::u::u::u::u::u::u::u::u::u::u::u::u::u::u::u::u::u::u::u::u::u::u::u::u::u::u::u::u::u::u::u::u::u::u::u::u::u::u::u::u::u::u::u::u::u::u::u::u::u::u::u::u::u::u::u::u::u::u::u::u::u::u::u::u::u::u::u::u::u::u::u::u::u::u::u::u::u::u::u::u::u::u::u::u::u::u::u::u::u::u::u::u::u::u::u::u::u::u::u::u::u::u::u::u::u::u::u::u::u::u::u::u::u::u::u::u::u::u::u::u::u::u::u::u::u::u::u::u::u::.bool true::[])) rfl ?_
                        exact cut_n hK199 ⟨_, (Option.some.inj h).symm, rfl, (hS.sel 8 [] (by decide))⟩
                      · try simp only [W, reduceIte, Bool.false_eq_true, hc]
                        refine w_grdT h (fun hc h => ?_) (fun hc h => ?_)
                        · try simp only [W, hc]
                          refine seq_n hK200 ?_
                          refine w_killE (s' := (u::u::u::u::u::u::u::u::u::u::u::u::u::u::u::u::u::u::u::u::u::u::u::u::u::u::u::u::u::u::u::u::u::u::u::u::u::u::u::u::u::u::u::u::u::u::u::u::u::u::u::u::u::u::u::u::u::u::u::u::u::u::u::u::u::u::u::u::u::u::u::u::u::u::u::u::u::u::u::u::u::u::u::u::u::u::u::u::u::u::u::u::u::u::u::u::u::u::u::u::u::u::u::u::u::u::u::u::u::u::u::u::u::u::u::u::u::u::u::u::u::u::u::u::u::u::u::u::u::u::u::u::u::u::u::u::u::u::u::u::u::u::u::u::u::u::u::u::u::u::u::u::u::u::u::u::u::u::u::u::u::u::u::u::.bool true::[])) rfl ?_
                          exact cut_n hK199 ⟨_, (Option.some.inj h).symm, rfl, (hS.sel 8 [] (by decide))⟩
                        · try simp only [W, EE, reduceIte, Nat.reduceAdd, Nat.reduceBEq, Bool.false_eq_true, hS.var 0 rfl, hS.var 7 rfl, hc]
                          refine w_grdT h (fun hc h => ?_) (fun hc h => ?_)
                          · try simp only [W, hc]
                            refine seq_n hK200 ?_
                            refine w_killE (s' := (u::u::u::u::u::u::u::u::u::u::u::u::u::u::u::u::u::u::u::u::u::u::u::u::u::u::u::u::u::u::u::u::u::u::u::u::u::u::u::u::u::u::u::u::u::u::u::u::u::u::u::u::u::u::u::u::u::u::u::u::u::u::u::u::u::u::u::u::u::u::u::u::u::u::u::u::u::u::u::u::u::u::u::u::u::u::u::u::u::u::u::u::u::u::u::u::u::u::u::u::u::u::u::u::u::u::u::u::u::u::u::u::u::u::u::u::u::u::u::u::u::u::u::u::u::u::u::u::u::u::u::u::u::u::u::u::u::u::u::u::u::u::u::u::u::u::u::u::u::u::u::u::u::u::u::u::u::u::u::u::u::u::u::u::.bool true::[])) rfl ?_
                            exact cut_n hK199 ⟨_, (Option.some.inj h).symm, rfl, (hS.sel 8 [] (by decide))⟩
                          · try simp only [W, EE, reduceIte, Nat.reduceAdd, Nat.reduceBEq, Bool.false_eq_true, hS.var 0 rfl, hS.var 7 rfl, hc]
                            refine seq_n hK200 ?_
                            refine w_killE (s' := (u::u::u::u::u::u::u::u::u::u::u::u::u::u::u::u::u::u::u::u::u::u::u::u::u::u::u::u::u::u::u::u::u::u::u::u::u::u::u::u::u::u::u::u::u::u::u::u::u::u::u::u::u::u::u::u::u::u::u::u::u::u::u::u::u::u::u::u::u::u::u::u::u::u::u::u::u::u::u::u::u::u::u::u::u::u::u::u::u::u::u::u::u::u::u::u::u::u::u::u::u::u::u::u::u::u::u::u::u::u::u::u::u::u::u::u::u::u::u::u::u::u::u::u::u::u::u::u::u::u::u::u::u::u::u::u::u::u::u::u::u::u::u::u::u::u::u::u::u::u::u::u::u::u::u::u::u::u::u::u::u::u::u::u::.bool (b178.LastY != (IntKind.i64.wrap (b11.LastY + 1)))::[])) rfl ?_
                            exact cut_n hK199 ⟨_, (Option.some.inj h).symm, rfl, (hS.sel 8 [] (by decide))⟩
                  · obtain ⟨x196, ey, rfl, hS⟩ := hq; obtain rfl := ey.symm
                    replace h := g198
                    try dsimp only at h
                    refine seq_n hK195 ?_
                    refine w_if ?_
                    simp only [W]
                    refine w_cnd h (fun hc h => ?_) (fun hc h => ?_)
                    · refine w_seq fun K201 hK201 => ?_
                      refine w_reg gC ?_
                      try simp only [W, Nat.reduceAdd]
                      refine seq_n hK201 ?_
                      refine w_ret ?_
                      refine seq_r hK62 ?_
                      try obtain rfl := Option.some.inj h
                      obtain rfl := Option.some.inj g60
                      have h : (some false : Option (Bool)) = some false := rfl
                      refine cut_r hK61 ?_
                      refine seq_r hK57 ?_
                      refine fin_r1 hK0 rfl ?_
                      try obtain rfl := Option.some.inj h
                      exact hP _ hS
                    · refine w_skip ?_
                      refine seq_n hK62 ?_
                      refine w_killE (s' := (u::u::u::u::u::u::u::u::u::u::u::u::u::u::u::u::u::u::u::u::u::u::u::u::u::u::u::u::u::u::u::u::u::u::u::u::u::u::u::u::u::u::u::u::u::u::u::u::u::u::u::u::u::u::u::u::u::u::u::u::u::u::u::u::u::u::u::u::u::u::u::u::u::u::u::u::u::u::u::u::u::u::u::u::u::u::u::u::u::u::u::u::u::u::u::u::u::u::u::u::u::u::u::u::u::u::u::u::u::u::u::u::u::u::u::u::u::u::u::u::u::u::u::u::u::u::u::u::u::u::u::u::u::u::u::u::u::u::u::u::u::u::u::u::u::u::u::u::u::u::u::u::u::u::u::u::u::u::u::u::u::u::u::u::u::[])) rfl ?_
                      exact cut_n hK61 ⟨(Option.some.inj h).symm, rfl, hS⟩
          · refine w_skip ?_
            refine seq_n hK62 ?_
            refine w_killE (s' := (u::u::u::u::u::u::u::u::u::u::u::u::u::u::u::u::u::u::u::u::u::u::u::u::u::u::u::u::u::u::u::u::u::u::u::u::u::u::u::u::u::u::u::u::u::u::u::u::u::u::u::u::u::u::u::u::u::u::u::u::u::u::u::u::u::u::u::u::u::u::u::u::u::u::u::u::u::u::u::u::u::u::u::u::u::u::u::u::u::u::u::u::u::u::u::u::u::u::u::u::u::u::u::u::u::u::u::u::u::u::u::u::u::u::u::u::u::u::u::u::u::u::u::u::u::u::u::u::u::u::u::u::u::u::u::u::u::u::u::u::u::u::u::u::u::u::u::u::u::u::u::u::u::u::u::u::u::u::u::u::u::u::u::u::u::[])) rfl ?_
            exact cut_n hK61 ⟨(Option.some.inj h).symm, rfl, (hS.sel 4 [] (by decide))⟩
        · obtain ⟨rfl, rfl, hS⟩ := hq
          replace h := g60
          try dsimp only at h
          refine seq_n hK57 ?_
          refine w_seq fun K204 hK204 => ?_
          refine w_reg gC ?_
          try simp only [W, Nat.reduceAdd]
          refine seq_n hK204 ?_
          refine w_ret ?_
          refine fin_r1 hK0 rfl ?_
          try obtain rfl := Option.some.inj h
          exact hP _ hS
end Go.VxW
