import Derived.Test.YtdgiianbihfkoaaVhG1
import Derived.Test.YtdgiianbihfkoaaProg
import Derived.Test.YtdgiianbihfkoaaVaE
import Derived.KernelRfl
open Go Go.VS
set_option maxRecDepth 8000
set_option maxHeartbeats 4000000
namespace Go.VxW
theorem laws_FnHeaps_w {a0 : List Int} {a1 : List Int} {r : (Bool)} (h : laws_FnHeaps a0 a1 = some r) {F : List It} {H : Heap} (hS : Own H (F)) {P : AV → Heap → Prop} (hP : ∀ H', Own H' (F) → P (.bool r) H') : ACall C 13 [.fz (a0.map (AV.int .u8)), .fz (a1.map (AV.int .u8))] H P := by
  refine acall_of gC (res := [.tmp 4]) (n := 274) rfl rfl rfl rfl fun K0 hK0 => ?_
  simp only [W, Nat.reduceSub, Nat.reduceAdd, List.replicate]
  unfold laws_FnHeaps at h
  refine w_seq fun K1 hK1 => ?_
  refine w_reg gC ?_
  try simp only [W, Nat.reduceAdd]
  refine seq_n hK1 ?_
  refine w_seq fun K2 hK2 => ?_
  refine w_seq fun K3 hK3 => ?_
  refine w_reg gC ?_
  try simp only [W, EE, Nat.reduceAdd]
  refine seq_n hK3 ?_
  refine w_if ?_
  simp only [W]
  refine w_cnd h (fun hc h => ?_) (fun hc h => ?_)
  · refine w_seq fun K4 hK4 => ?_
    refine w_reg gC ?_
    try simp only [W, Nat.reduceAdd]
    refine seq_n hK4 ?_
    refine w_ret ?_
    refine seq_r hK2 ?_
    refine fin_r1 hK0 rfl ?_
    try obtain rfl := Option.some.inj h
    exact hP _ hS
  · refine w_skip ?_
    refine seq_n hK2 ?_
    refine w_seq fun K5 hK5 => ?_
    refine w_reg gC ?_
    try simp only [W, Nat.reduceAdd]
    refine w_call h fun b6 hb6 h => ?_
    obtain ⟨b7, b8⟩ := b6
    try dsimp only at h
    refine spec_DrawPushHeap_w hb6 hS fun v9 qv9 H hS => ?_
    try simp only [W]
    refine w_alloc hS rfl rfl fun ip11 wp11 H hS => ?_
    try simp only [W]
    refine w_stv (a := .agg [.int .i64 b8.End, .int .i64 b8.Rank, .int .i64 b8.Id]) (y' := .agg [.int .i64 b8.End, .int .i64 b8.Rank, .int .i64 b8.Id]) 0 hS rfl rfl rfl rfl rfl rfl rfl rfl fun H hS => ?_
    try simp only [W]
    refine seq_n hK5 ?_
    refine w_seq fun K13 hK13 => ?_
    refine w_reg gC ?_
    try simp only [W, EE, reduceIte, Nat.reduceAdd, Nat.reduceLeDiff, Nat.reduceBEq, hS.var 0 rfl, List.contains_cons, Nat.reduceBEq, Bool.or_self]
    refine w_callO (rsh := [[.sl [.sc, .sc, .sc]], [.sc]]) (ys := [.fz (b7.map e_Work), .agg [.int .i64 b8.End, .int .i64 b8.Rank, .int .i64 b8.Id]]) h rfl (pv_c (sn_ow hS 1 rfl qv9 (fun _ => rfl)) (pv_c rfl pv_n)) fun b14 hb14 h => ⟨.tup [.own 3 (b14.1.map e_Work), .bool b14.2], impl_PushHeap_w hb14 (Own.nil _) fun v17 qv17 H hS => TV_ok rfl (TV_o 0 hS rfl qv17 (fun _ _ => by simp [takeE, takeT, takeC, plainA, e_Work]) fun H hS => TV_p rfl (TV_n rfl)), (nf_t (nf_c (noFz_o _ (fun _ => rfl) _) (nf_c rfl nf_n))), ?_⟩
    refine thaw_tup ?_
    refine TH_o hS (fun _ _ => rfl) (fun _ => rfl) fun v19 H qv19 hS => ?_
    refine TH_p (fun _ => rfl) ?_
    refine TH_n ?_
    try simp only [List.headD_cons]
    obtain ⟨b15, b16⟩ := b14
    try dsimp only at h
    try simp only [W]
    refine seq_n hK13 ?_
    refine w_seq fun K20 hK20 => ?_
    refine w_reg gC ?_
    try simp only [W, EE, reduceIte, Nat.reduceAdd, Nat.reduceLeDiff, Nat.reduceBEq, hS.var 1 rfl, List.contains_cons, Nat.reduceBEq, Bool.or_self]
    refine w_callO (rsh := [[.sl [.sc, .sc, .sc]], [.sc]]) (ys := [.fz (b7.map e_Work), .agg [.int .i64 b8.End, .int .i64 b8.Rank, .int .i64 b8.Id]]) h rfl (pv_c (sn_ow hS 2 rfl qv9 (fun _ => rfl)) (pv_c rfl pv_n)) fun b21 hb21 h => ⟨.tup [.own 3 (b21.1.map e_Work), .bool b21.2], spec_PushHeap_w hb21 (Own.nil _) fun v24 qv24 H hS => TV_ok rfl (TV_o 0 hS rfl qv24 (fun _ _ => by simp [takeE, takeT, takeC, plainA, e_Work]) fun H hS => TV_p rfl (TV_n rfl)), (nf_t (nf_c (noFz_o _ (fun _ => rfl) _) (nf_c rfl nf_n))), ?_⟩
    refine thaw_tup ?_
    refine TH_o hS (fun _ _ => rfl) (fun _ => rfl) fun v26 H qv26 hS => ?_
    refine TH_p (fun _ => rfl) ?_
    refine TH_n ?_
    try simp only [List.headD_cons]
    obtain ⟨b22, b23⟩ := b21
    try dsimp only at h
    try simp only [W]
    refine seq_n hK20 ?_
    refine w_seq fun K27 hK27 => ?_
    refine w_seq fun K28 hK28 => ?_
    obtain ⟨y30, h, g31⟩ := Option.bind_eq_some_iff.1 h
    refine w_join gC (fun s H => ∃ x29 : Bool, y30 = (x29) ∧ s = [u, .fz (a1.map (AV.int .u8)), u, u, u, v9, .ptr ip11 wp11 0 0, v19, .bool b16, u, u, u, u, u, u, u, u, u, u, u, u, u, u, u, u, u, u, u, u, u, u, u, u, u, u, u, u, u, u, u, u, u, u, u, u, u, u, u, u, u, u, u, u, u, u, u, u, u, u, u, u, u, u, u, u, u, u, u, u, u, u, u, .bool x29, u, u, u, u, u, u, u, u, u, u, u, u, u, u, u, u, u, u, u, u, u, u, u, u, u, u, u, u, u, u, u, u, u, u, u, u, u, u, u, u, u, u, u, u, u, u, u, u, u, u, u, u, u, u, u, u, u, u, u, u, u, u, u, u, u, u, u, u, u, u, u, u, u, u, u, u, u, u, u, u, u, u, u, u, u, u, u, u, u, u, u, u, u, u, u, u, u, u, u, u, u, u, u, u, u, u, u, u, u, u, u, u, u, u, u, u, u, u, u, u, u, u, u, u, u, u, u, u, u, u, u, u, u, u, u, u, u, u, u, u, u, u, u, u, u, u, u, u, u, u, u, u, u, u, u, u, u, u, u, u, u, u, u, u, u, u, u, u, u, u, u, u, u, u, u, u, u, u, u, u, u, u, u, u, u, u, u, u, u, u, u, u, u, u, u, u, u, u, u, u, u] ∧ Own H (⟨v9, 3, b7.map e_Work⟩ :: ⟨v19, 3, b15.map e_Work⟩ :: ⟨.ptr ip11 wp11 0 0, 3, [.agg [.int .i64 b8.End, .int .i64 b8.Rank, .int .i64 b8.Id]]⟩ :: F)) (fun K32 hK32 => ?_) (fun s H hq => ?_)
    · refine w_seq fun K33 hK33 => ?_
      refine w_reg gC ?_
      try simp only [W, EE, Nat.reduceAdd]
      rw [b_bneq _ _ _ _ (h := rfl) rfl, resV_s]
      try simp only [W]
      refine w_grdT h (fun hc h => ?_) (fun hc h => ?_)
      · try simp only [W, hc]
        refine seq_n hK33 ?_
        refine w_kill ?_
        exact cut_n hK32 ⟨_, (Option.some.inj h).symm, rfl, (hS.sel 4 [3, 1, 2] (by decide))⟩
      · try simp only [W, hc]
        refine w_callS (rsh := [[.sc]]) (ys := [.fz (b15.map e_Work), .fz (b22.map e_Work)]) h rfl (pv_c (sn_ow hS 1 rfl qv19 (fun _ => rfl)) (pv_c (sn_ow hS 0 rfl qv26 (fun _ => rfl)) pv_n)) fun b34 hb34 h => ⟨.bool b34, laws_sameWorks_w hb34 (Own.nil _) fun H hS => TV_ok rfl (TV_p rfl (TV_n rfl)), ⟨rfl, rfl, fun _ => rfl⟩, ?_⟩
        try simp only [W, reduceIte, Bool.false_eq_true]
        refine seq_n hK33 ?_
        refine w_kill ?_
        exact cut_n hK32 ⟨_, (Option.some.inj h).symm, rfl, (hS.sel 4 [3, 1, 2] (by decide))⟩
    · obtain ⟨x29, ey, rfl, hS⟩ := hq; obtain rfl := ey.symm
      replace h := g31
      try dsimp only at h
      refine seq_n hK28 ?_
      refine w_if ?_
      simp only [W]
      refine w_cnd h (fun hc h => ?_) (fun hc h => ?_)
      · refine w_seq fun K35 hK35 => ?_
        refine w_reg gC ?_
        try simp only [W, Nat.reduceAdd]
        refine seq_n hK35 ?_
        refine w_ret ?_
        refine seq_r hK27 ?_
        refine fin_r1 hK0 rfl ?_
        try obtain rfl := Option.some.inj h
        exact hP _ (hS.sel 3 [] (by decide))
      · refine w_skip ?_
        refine seq_n hK27 ?_
        refine w_seq fun K36 hK36 => ?_
        refine w_seq fun K37 hK37 => ?_
        refine w_reg gC ?_
        try simp only [W, Nat.reduceAdd]
        refine seq_n hK37 ?_
        obtain ⟨y38, h, g39⟩ := Option.bind_eq_some_iff.1 h
        refine w_join gC (fun s H => y38 = LR.next () ∧ s = [u, .fz (a1.map (AV.int .u8)), u, u, u, u, u, u, u, u, u, u, u, u, u, u, u, u, u, u, u, u, u, u, u, u, u, u, u, u, u, u, u, u, u, u, u, u, u, u, u, u, u, u, u, u, u, u, u, u, u, u, u, u, u, u, u, u, u, u, u, u, u, u, u, u, u, u, u, u, u, u, u, u, u, u, u, u, u, u, u, u, u, u, u, u, u, u, u, u, u, u, u, u, u, u, u, u, u, u, u, u, u, u, u, u, u, u, u, u, u, u, u, u, u, u, u, u, u, u, u, u, u, u, u, u, u, u, u, u, u, u, u, u, u, u, u, u, u, u, u, u, u, u, u, u, u, u, u, u, u, u, u, u, u, u, u, u, u, u, u, u, u, u, u, u, u, u, u, u, u, u, u, u, u, u, u, u, u, u, u, u, u, u, u, u, u, u, u, u, u, u, u, u, u, u, u, u, u, u, u, u, u, u, u, u, u, u, u, u, u, u, u, u, u, u, u, u, u, u, u, u, u, u, u, u, u, u, u, u, u, u, u, u, u, u, u, u, u, u, u, u, u, u, u, u, u, u, u, u, u, u, u, u, u, u, u, u, u, u, u, u, u, u, u, u, u, u, u, u, u, u, u, u] ∧ Own H (F)) (fun K40 hK40 => ?_) (fun s H hq => ?_)
        · refine w_seq fun K41 hK41 => ?_
          refine w_if ?_
          simp only [W]
          refine w_cnd h (fun hc h => ?_) (fun hc h => ?_)
          · refine w_seq fun K42 hK42 => ?_
            refine w_reg gC ?_
            try simp only [W, Nat.reduceAdd]
            refine w_callS (rsh := [[.sc], [.sc]]) (ys := [.fz (b15.map e_Work)]) h rfl (pv_c (sn_ow hS 1 rfl qv19 (fun _ => rfl)) pv_n) fun b43 hb43 h => ⟨.tup [.bool b43.1, .bool b43.2], impl_IsHeap_w hb43 (Own.nil _) fun H hS => TV_ok rfl (TV_p rfl (TV_p rfl (TV_n rfl))), ⟨rfl, rfl, fun _ => rfl⟩, ?_⟩
            obtain ⟨b44, b45⟩ := b43
            try dsimp only at h
            try simp only [W]
            refine seq_n hK42 ?_
            refine w_seq fun K46 hK46 => ?_
            refine w_reg gC ?_
            try simp only [W, Nat.reduceAdd, Nat.reduceBEq, List.contains_cons, Nat.reduceBEq, Bool.or_self]
            refine w_callO (rsh := [[.sl [.sc, .sc, .sc]], [.sc, .sc, .sc], [.sc]]) (ys := [.fz (b15.map e_Work)]) h rfl (pv_c (sn_ow hS 1 rfl qv19 (fun _ => rfl)) pv_n) fun b47 hb47 h => ⟨.tup [.own 3 (b47.1.map e_Work), .agg [.int .i64 b47.2.1.End, .int .i64 b47.2.1.Rank, .int .i64 b47.2.1.Id], .bool b47.2.2], impl_PopHeap_w hb47 (Own.nil _) fun v51 qv51 H hS => TV_ok rfl (TV_o 0 hS rfl qv51 (fun _ _ => by simp [takeE, takeT, takeC, plainA, e_Work]) fun H hS => TV_a (TC_sc rfl (TC_sc rfl (TC_sc rfl (TC_nil (TV_p rfl (TV_n rfl))))))), (nf_t (nf_c (noFz_o _ (fun _ => rfl) _) (nf_c (nf_a (nf_c rfl (nf_c rfl (nf_c rfl nf_n)))) (nf_c rfl nf_n)))), ?_⟩
            refine thaw_tup ?_
            refine TH_o hS (fun _ _ => rfl) (fun _ => rfl) fun v53 H qv53 hS => ?_
            refine TH_a ?_
            refine TH_p (fun _ => rfl) ?_
            refine TH_p (fun _ => rfl) ?_
            refine TH_p (fun _ => rfl) ?_
            refine TH_n ?_
            refine TH_p (fun _ => rfl) ?_
            refine TH_n ?_
            try simp only [List.headD_cons]
            obtain ⟨b48, b49, b50⟩ := b47
            try dsimp only at h
            try simp only [W]
            refine w_alloc hS rfl rfl fun ip54 wp54 H hS => ?_
            try simp only [W]
            refine w_stv (a := .agg [.int .i64 b49.End, .int .i64 b49.Rank, .int .i64 b49.Id]) (y' := .agg [.int .i64 b49.End, .int .i64 b49.Rank, .int .i64 b49.Id]) 0 hS rfl rfl rfl rfl rfl rfl rfl rfl fun H hS => ?_
            try simp only [W]
            refine seq_n hK46 ?_
            refine w_seq fun K56 hK56 => ?_
            refine w_reg gC ?_
            try simp only [W, Nat.reduceAdd]
            refine w_callS (rsh := [[.sc], [.sc]]) (ys := [.fz (b48.map e_Work)]) h rfl (pv_c (sn_ow hS 1 rfl qv53 (fun _ => rfl)) pv_n) fun b57 hb57 h => ⟨.tup [.bool b57.1, .bool b57.2], impl_IsHeap_w hb57 (Own.nil _) fun H hS => TV_ok rfl (TV_p rfl (TV_p rfl (TV_n rfl))), ⟨rfl, rfl, fun _ => rfl⟩, ?_⟩
            obtain ⟨b58, b59⟩ := b57
            try dsimp only at h
            try simp only [W]
            refine seq_n hK56 ?_
            refine w_seq fun K60 hK60 => ?_
            refine w_seq fun K61 hK61 => ?_
            obtain ⟨y63, h, g64⟩ := Option.bind_eq_some_iff.1 h
            refine w_join gC (fun s H => ∃ x62 : Bool, y63 = (x62) ∧ s = [u, .fz (a1.map (AV.int .u8)), u, u, u, u, u, v19, u, u, u, u, u, v53, .ptr ip54 wp54 0 0, u, u, u, u, u, u, u, u, u, u, u, u, u, u, u, u, u, u, u, u, u, u, u, u, u, u, u, u, u, u, u, u, u, u, u, u, u, u, u, u, u, u, u, u, u, u, u, u, u, u, u, u, u, u, u, u, u, u, u, u, u, u, u, u, u, u, u, u, u, u, u, u, u, u, u, u, u, u, u, u, u, u, u, u, u, u, u, u, u, u, u, u, u, u, u, u, u, u, u, u, u, u, u, u, u, u, u, u, u, u, u, u, u, u, u, u, u, .bool x62, u, u, u, u, u, u, u, u, u, u, u, u, u, u, u, u, u, u, u, u, u, u, u, u, u, u, u, u, u, u, u, u, u, u, u, u, u, u, u, u, u, u, u, u, u, u, u, u, u, u, u, u, u, u, u, u, u, u, u, u, u, u, u, u, u, u, u, u, u, u, u, u, u, u, u, u, u, u, u, u, u, u, u, u, u, u, u, u, u, u, u, u, u, u, u, u, u, u, u, u, u, u, u, u, u, u, u, u, u, u, u, u, u, u, u, u, u, u, u, u, u, u, u, u, u, u, u, u, u, u, u, u, u, u, u, u, u, u, u, u, u] ∧ Own H (⟨v19, 3, b15.map e_Work⟩ :: ⟨v53, 3, b48.map e_Work⟩ :: ⟨.ptr ip54 wp54 0 0, 3, [.agg [.int .i64 b49.End, .int .i64 b49.Rank, .int .i64 b49.Id]]⟩ :: F)) (fun K65 hK65 => ?_) (fun s H hq => ?_)
            · refine w_seq fun K66 hK66 => ?_
              refine w_draw0 gC (by kernel_rfl) ?_
              try simp only [W, Nat.reduceAdd]
              refine w_grdT h (fun hc h => ?_) (fun hc h => ?_)
              · try simp only [W, hc]
                refine seq_n hK66 ?_
                refine w_kill ?_
                exact cut_n hK65 ⟨_, (Option.some.inj h).symm, rfl, (hS.sel 5 [3, 1, 0] (by decide))⟩
              · try simp only [W, reduceIte, Bool.false_eq_true, hc]
                refine w_grdT h (fun hc h => ?_) (fun hc h => ?_)
                · try simp only [W, hc]
                  refine seq_n hK66 ?_
                  refine w_kill ?_
                  exact cut_n hK65 ⟨_, (Option.some.inj h).symm, rfl, (hS.sel 5 [3, 1, 0] (by decide))⟩
                · try simp only [W, reduceIte, Bool.false_eq_true, hc]
                  refine w_grdT h (fun hc h => ?_) (fun hc h => ?_)
                  · try simp only [W, hc]
                    refine seq_n hK66 ?_
                    refine w_kill ?_
                    exact cut_n hK65 ⟨_, (Option.some.inj h).symm, rfl, (hS.sel 5 [3, 1, 0] (by decide))⟩
                  · try simp only [W, reduceIte, Bool.false_eq_true, hc]
                    refine w_grdT h (fun hc h => ?_) (fun hc h => ?_)
                    · try simp only [W, hc]
                      refine seq_n hK66 ?_
                      refine w_kill ?_
                      exact cut_n hK65 ⟨_, (Option.some.inj h).symm, rfl, (hS.sel 5 [3, 1, 0] (by decide))⟩
                    · try simp only [W, reduceIte, Bool.false_eq_true, hc]
                      refine w_grdT h (fun hc h => ?_) (fun hc h => ?_)
                      · try simp only [W, hc]
                        refine seq_n hK66 ?_
                        refine w_kill ?_
                        exact cut_n hK65 ⟨_, (Option.some.inj h).symm, rfl, (hS.sel 5 [3, 1, 0] (by decide))⟩
                      · try simp only [W, EE, hc]
                        refine w_len 3 hS rfl qv19 rfl ?_
                        try simp only [W, EE]
                        refine w_len 2 hS rfl qv9 rfl ?_
                        try simp only [W, EE, reduceIte, Bool.false_eq_true]
                        refine w_grdT h (fun hc h => ?_) (fun hc h => ?_)
                        · try simp only [W, hc]
                          refine seq_n hK66 ?_
                          refine w_kill ?_
                          exact cut_n hK65 ⟨_, (Option.some.inj h).symm, rfl, (hS.sel 5 [3, 1, 0] (by decide))⟩
                        · try simp only [W, EE, hc]
                          refine w_len 1 hS rfl qv53 rfl ?_
                          try simp only [W, EE]
                          refine w_len 2 hS rfl qv9 rfl ?_
                          try simp only [W, EE, reduceIte, Bool.false_eq_true]
                          refine w_grdT h (fun hc h => ?_) (fun hc h => ?_)
                          · try simp only [W, hc]
                            refine seq_n hK66 ?_
                            refine w_kill ?_
                            exact cut_n hK65 ⟨_, (Option.some.inj h).symm, rfl, (hS.sel 5 [3, 1, 0] (by decide))⟩
                          · try simp only [W, EE, reduceIte, Nat.reduceAdd, Nat.reduceLeDiff, hS.var 4 rfl, hc]
                            refine w_callS (rsh := [[.sc]]) (ys := [.fz (b15.map e_Work), .agg [.int .i64 b8.End, .int .i64 b8.Rank, .int .i64 b8.Id]]) h rfl (pv_c (sn_ow hS 3 rfl qv19 (fun _ => rfl)) (pv_c rfl pv_n)) fun b67 hb67 h => ⟨.int .i64 b67, laws_manyOf_w hb67 (Own.nil _) fun H hS => TV_ok rfl (TV_p rfl (TV_n rfl)), ⟨rfl, rfl, fun _ => rfl⟩, ?_⟩
                            try simp only [W, EE, reduceIte, Nat.reduceAdd, Nat.reduceLeDiff, hS.var 4 rfl]
                            refine w_callS (rsh := [[.sc]]) (ys := [.fz (b7.map e_Work), .agg [.int .i64 b8.End, .int .i64 b8.Rank, .int .i64 b8.Id]]) h rfl (pv_c (sn_ow hS 2 rfl qv9 (fun _ => rfl)) (pv_c rfl pv_n)) fun b68 hb68 h => ⟨.int .i64 b68, laws_manyOf_w hb68 (Own.nil _) fun H hS => TV_ok rfl (TV_p rfl (TV_n rfl)), ⟨rfl, rfl, fun _ => rfl⟩, ?_⟩
                            try simp only [W, EE, reduceIte, Bool.false_eq_true]
                            refine seq_n hK66 ?_
                            refine w_kill ?_
                            exact cut_n hK65 ⟨_, (Option.some.inj h).symm, rfl, (hS.sel 5 [3, 1, 0] (by decide))⟩
            · obtain ⟨x62, ey, rfl, hS⟩ := hq; obtain rfl := ey.symm
              replace h := g64
              try dsimp only at h
              refine seq_n hK61 ?_
              refine w_if ?_
              simp only [W]
              refine w_cnd h (fun hc h => ?_) (fun hc h => ?_)
              · refine w_seq fun K69 hK69 => ?_
                refine w_reg gC ?_
                try simp only [W, Nat.reduceAdd]
                refine seq_n hK69 ?_
                refine w_ret ?_
                refine seq_r hK60 ?_
                refine seq_r hK41 ?_
                try obtain rfl := Option.some.inj h
                obtain rfl := Option.some.inj g39
                have h : (some false : Option (Bool)) = some false := rfl
                refine cut_r hK40 ?_
                refine seq_r hK36 ?_
                refine fin_r1 hK0 rfl ?_
                try obtain rfl := Option.some.inj h
                exact hP _ (hS.sel 3 [] (by decide))
              · refine w_skip ?_
                refine seq_n hK60 ?_
                refine w_seq fun K72 hK72 => ?_
                refine w_reg gC ?_
                try simp only [W, EE, Nat.reduceAdd]
                refine w_len 0 hS rfl qv19 rfl ?_
                try simp only [W]
                refine seq_n hK72 ?_
                obtain ⟨y74, hw75, g81⟩ := Option.bind_eq_some_iff.1 h
                refine w_join gC (fun s H => y74 = LR.next () ∧ s = [u, .fz (a1.map (AV.int .u8)), u, u, u, u, u, u, u, u, u, u, u, u, u, u, u, u, u, u, u, u, u, u, u, u, u, u, u, u, u, u, u, u, u, u, u, u, u, u, u, u, u, u, u, u, u, u, u, u, u, u, u, u, u, u, u, u, u, u, u, u, u, u, u, u, u, u, u, u, u, u, u, u, u, u, u, u, u, u, u, u, u, u, u, u, u, u, u, u, u, u, u, u, u, u, u, u, u, u, u, u, u, u, u, u, u, u, u, u, u, u, u, u, u, u, u, u, u, u, u, u, u, u, u, u, u, u, u, u, u, u, u, u, u, u, u, u, u, u, u, u, u, u, u, u, u, u, u, u, u, u, u, u, u, u, u, u, u, u, u, u, u, u, u, u, u, u, u, u, u, u, u, u, u, u, u, u, u, u, u, u, u, u, u, u, u, u, u, u, u, u, u, u, u, u, u, u, u, u, u, u, u, u, u, u, u, u, u, u, u, u, u, u, u, u, u, u, u, u, u, u, u, u, u, u, u, u, u, u, u, u, u, u, u, u, u, u, u, u, u, u, u, u, u, u, u, u, u, u, u, u, u, u, u, u, u, u, u, u, u, u, u, u, u, u, u, u, u, u, u, u, u, u] ∧ Own H (F)) (fun K76 hK76 => ?_) (fun s H hq => ?_)
                · refine w_blk fun K77 hK77 => ?_
                  refine w_loop gC hw75 (fun x s H => s = [u, .fz (a1.map (AV.int .u8)), u, u, u, u, u, v19, u, u, u, u, u, v53, .ptr ip54 wp54 0 0, u, u, u, u, u, u, u, u, u, u, u, u, u, u, u, u, u, u, u, u, u, u, u, u, u, u, u, u, u, u, u, u, u, u, u, u, u, u, u, u, u, u, u, u, u, u, u, u, u, u, u, u, u, u, u, u, u, u, u, u, u, u, u, u, u, u, u, u, u, u, u, u, u, u, u, u, u, u, u, u, u, u, u, u, u, u, u, u, u, u, u, u, u, u, u, u, u, u, u, u, u, u, u, u, u, u, u, u, u, u, u, u, u, u, u, u, u, u, v19, .int .i64 (b15.length : Int), .int .i64 x, u, u, u, u, u, u, u, u, u, u, u, u, u, u, u, u, u, u, u, u, u, u, u, u, u, u, u, u, u, u, u, u, u, u, u, u, u, u, u, u, u, u, u, u, u, u, u, u, u, u, u, u, u, u, u, u, u, u, u, u, u, u, u, u, u, u, u, u, u, u, u, u, u, u, u, u, u, u, u, u, u, u, u, u, u, u, u, u, u, u, u, u, u, u, u, u, u, u, u, u, u, u, u, u, u, u, u, u, u, u, u, u, u, u, u, u, u, u, u, u, u, u, u, u, u, u, u, u, u, u, u, u, u, u, u, u, u, u] ∧ Own H (⟨v19, 3, b15.map e_Work⟩ :: ⟨v53, 3, b48.map e_Work⟩ :: ⟨.ptr ip54 wp54 0 0, 3, [.agg [.int .i64 b49.End, .int .i64 b49.Rank, .int .i64 b49.Id]]⟩ :: F)) ⟨rfl, hS⟩ (fun x73 y80 s H h hd79 hi K78 hK78 => ?_)
                  skip
                  try dsimp only at hi
                  obtain ⟨rfl, hS⟩ := hi
                  simp only [laws_FnHeaps_l0] at h
                  refine w_seq fun K82 hK82 => ?_
                  refine w_reg gC ?_
                  try simp only [W, EE, Nat.reduceAdd]
                  refine seq_n hK82 ?_
                  refine w_seq fun K83 hK83 => ?_
                  refine w_if ?_
                  simp only [W]
                  refine w_cnd h (fun hc h => ?_) (fun hc h => ?_)
                  · refine w_skip ?_
                    refine seq_n hK83 ?_
                    refine w_seq fun K84 hK84 => ?_
                    refine w_blk fun K85 hK85 => ?_
                    refine w_seq fun K86 hK86 => ?_
                    refine w_reg gC ?_
                    try simp only [W, EE, Nat.reduceAdd]
                    refine w_ow 0 hS rfl rfl rfl rfl rfl h (fun b87 in88 wn88 on88 hb87 h en88 => ?_) qv19.ne
                    obtain ⟨kn88, hbn88, hen88⟩ := hS.elem 0 rfl en88 hb87
                    try simp only [W, EE, EN, reduceIte, Nat.reduceAdd, Nat.reduceLeDiff, hbn88, hen88]
                    refine w_alloc hS rfl rfl fun ip89 wp89 H hS => ?_
                    try simp only [W]
                    refine w_stv (a := .agg [.int .i64 b87.End, .int .i64 b87.Rank, .int .i64 b87.Id]) (y' := .agg [.int .i64 b87.End, .int .i64 b87.Rank, .int .i64 b87.Id]) 0 hS rfl rfl rfl rfl rfl rfl rfl rfl fun H hS => ?_
                    try simp only [W]
                    refine seq_n hK86 ?_
                    refine w_seq fun K91 hK91 => ?_
                    refine w_reg gC ?_
                    try simp only [W, EE, reduceIte, Nat.reduceAdd, Nat.reduceLeDiff, hS.var 3 rfl, hS.var 0 rfl]
                    refine w_call h fun b92 hb92 h => ?_
                    obtain ⟨b93, b94⟩ := b92
                    try dsimp only at h
                    refine impl_LessWork_w hb92 hS fun H hS => ?_
                    try simp only [W]
                    refine seq_n hK91 ?_
                    refine w_seq fun K95 hK95 => ?_
                    obtain ⟨y97, h, g98⟩ := Option.bind_eq_some_iff.1 h
                    refine w_join gC (fun s H => ∃ x96 : Bool, y97 = (x96) ∧ s = [u, .fz (a1.map (AV.int .u8)), u, u, u, u, u, v19, u, u, u, u, u, v53, .ptr ip54 wp54 0 0, u, u, u, u, u, u, u, u, u, u, u, u, u, u, u, u, u, u, u, u, u, u, u, u, u, u, u, u, u, u, u, u, u, u, u, u, u, u, u, u, u, u, u, u, u, u, u, u, u, u, u, u, u, u, u, u, u, u, u, u, u, u, u, u, u, u, u, u, u, u, u, u, u, u, u, u, u, u, u, u, u, u, u, u, u, u, u, u, u, u, u, u, u, u, u, u, u, u, u, u, u, u, u, u, u, u, u, u, u, u, u, u, u, u, u, u, u, u, v19, .int .i64 (b15.length : Int), .int .i64 x73, u, u, u, u, u, u, u, u, u, u, u, u, u, u, u, u, u, u, u, u, u, u, u, u, u, u, u, .bool x96, u, u, u, u, u, u, u, u, u, u, u, u, u, u, u, u, u, u, u, u, u, u, u, u, u, u, u, u, u, u, u, u, u, u, u, u, u, u, u, u, u, u, u, u, u, u, u, u, u, u, u, u, u, u, u, u, u, u, u, u, u, u, u, u, u, u, u, u, u, u, u, u, u, u, u, u, u, u, u, u, u, u, u, u, u, u, u, u, u, u, u, u, u, u, u, u, u, u, u, u, u, u, u, u, u, u, u, u, u, u] ∧ Own H (⟨v19, 3, b15.map e_Work⟩ :: ⟨v53, 3, b48.map e_Work⟩ :: ⟨.ptr ip54 wp54 0 0, 3, [.agg [.int .i64 b49.End, .int .i64 b49.Rank, .int .i64 b49.Id]]⟩ :: F)) (fun K99 hK99 => ?_) (fun s H hq => ?_)
                    · refine w_seq fun K100 hK100 => ?_
                      refine w_draw0 gC (by kernel_rfl) ?_
                      try simp only [W, Nat.reduceAdd]
                      refine w_grdT h (fun hc h => ?_) (fun hc h => ?_)
                      · try simp only [W, hc]
                        refine seq_n hK100 ?_
                        refine w_kill ?_
                        exact cut_n hK99 ⟨_, (Option.some.inj h).symm, rfl, (hS.sel 4 [1, 2, 3] (by decide))⟩
                      · try simp only [W, reduceIte, Bool.false_eq_true, hc]
                        refine w_grdT h (fun hc h => ?_) (fun hc h => ?_)
                        · try simp only [W, hc]
                          refine seq_n hK100 ?_
                          refine w_kill ?_
                          exact cut_n hK99 ⟨_, (Option.some.inj h).symm, rfl, (hS.sel 4 [1, 2, 3] (by decide))⟩
                        · try simp only [W, EE, reduceIte, Nat.reduceAdd, Nat.reduceLeDiff, hS.var 0 rfl, hc]
                          refine w_callS (rsh := [[.sc]]) (ys := [.fz (b15.map e_Work), .agg [.int .i64 b87.End, .int .i64 b87.Rank, .int .i64 b87.Id]]) h rfl (pv_c (sn_ow hS 1 rfl qv19 (fun _ => rfl)) (pv_c rfl pv_n)) fun b101 hb101 h => ⟨.int .i64 b101, laws_manyOf_w hb101 (Own.nil _) fun H hS => TV_ok rfl (TV_p rfl (TV_n rfl)), ⟨rfl, rfl, fun _ => rfl⟩, ?_⟩
                          try simp only [W, EE, reduceIte, Nat.reduceAdd, Nat.reduceLeDiff, hS.var 0 rfl]
                          refine w_callS (rsh := [[.sc]]) (ys := [.fz (b48.map e_Work), .agg [.int .i64 b87.End, .int .i64 b87.Rank, .int .i64 b87.Id]]) h rfl (pv_c (sn_ow hS 2 rfl qv53 (fun _ => rfl)) (pv_c rfl pv_n)) fun b102 hb102 h => ⟨.int .i64 b102, laws_manyOf_w hb102 (Own.nil _) fun H hS => TV_ok rfl (TV_p rfl (TV_n rfl)), ⟨rfl, rfl, fun _ => rfl⟩, ?_⟩
                          try simp only [W, EE, reduceIte, Nat.reduceAdd, Nat.reduceLeDiff, hS.var 3 rfl]
                          refine w_lit (el := ([b49] : List Work).map e_Work) hS rfl rfl rfl rfl rfl rfl rfl fun v103 H qv103 hS => ?_
                          try simp only [W, EE, reduceIte, Nat.reduceAdd, Nat.reduceLeDiff, hS.var 1 rfl]
                          refine w_callS (rsh := [[.sc]]) (ys := [.fz (([b49] : List Work).map e_Work), .agg [.int .i64 b87.End, .int .i64 b87.Rank, .int .i64 b87.Id]]) h rfl (pv_c (sn_ow hS 0 rfl qv103 (fun _ => rfl)) (pv_c rfl pv_n)) fun b105 hb105 h => ⟨.int .i64 b105, laws_manyOf_w hb105 (Own.nil _) fun H hS => TV_ok rfl (TV_p rfl (TV_n rfl)), ⟨rfl, rfl, fun _ => rfl⟩, ?_⟩
                          try simp only [W, EE, reduceIte, Bool.false_eq_true]
                          refine seq_n hK100 ?_
                          refine w_kill ?_
                          exact cut_n hK99 ⟨_, (Option.some.inj h).symm, rfl, (hS.sel 5 [2, 3, 4] (by decide))⟩
                    · obtain ⟨x96, ey, rfl, hS⟩ := hq; obtain rfl := ey.symm
                      replace h := g98
                      try dsimp only at h
                      refine seq_n hK95 ?_
                      refine w_if ?_
                      simp only [W]
                      refine w_cnd h (fun hc h => ?_) (fun hc h => ?_)
                      · refine w_seq fun K106 hK106 => ?_
                        refine w_reg gC ?_
                        try simp only [W, Nat.reduceAdd]
                        refine seq_n hK106 ?_
                        refine w_ret ?_
                        refine blk_r hK85 ?_
                        refine seq_r hK84 ?_
                        try obtain rfl := Option.some.inj h
                        obtain rfl := hd79 _ rfl
                        have h : (some (LR.done (LR.done false)) : Option (LR Unit (LR Unit (Bool)))) = some (LR.done (LR.done false)) := rfl
                        refine lp_r hK78 ?_
                        refine blk_r hK77 ?_
                        try obtain rfl := Option.some.inj h
                        obtain rfl := Option.some.inj g81
                        have h : (some (LR.done false) : Option (LR Unit (Bool))) = some (LR.done false) := rfl
                        refine cut_r hK76 ?_
                        refine seq_r hK41 ?_
                        try obtain rfl := Option.some.inj h
                        obtain rfl := Option.some.inj g39
                        have h : (some false : Option (Bool)) = some false := rfl
                        refine cut_r hK40 ?_
                        refine seq_r hK36 ?_
                        refine fin_r1 hK0 rfl ?_
                        try obtain rfl := Option.some.inj h
                        exact hP _ (hS.sel 3 [] (by decide))
                      · refine w_skip ?_
                        refine blk_n0 hK85 ?_
                        refine seq_n hK84 ?_
                        refine w_reg gC ?_
                        try simp only [W, EE, Nat.reduceAdd]
                        exact lp_n hK78 h ⟨rfl, hS⟩
                  · refine w_exit ?_
                    refine seq_x hK83 ?_
                    try obtain rfl := Option.some.inj h
                    obtain rfl := hd79 _ rfl
                    have h : (some (LR.next ()) : Option (LR Unit (LR Unit (Bool)))) = some (LR.next ()) := rfl
                    refine lp_x hK78 ?_
                    refine blk_e hK77 ?_
                    exact cut_n hK76 ⟨(Option.some.inj h).symm, rfl, (hS.sel 3 [] (by decide))⟩
                · obtain ⟨rfl, rfl, hS⟩ := hq
                  replace h := g81
                  try dsimp only at h
                  refine seq_n hK41 ?_
                  refine w_kill ?_
                  exact cut_n hK40 ⟨(Option.some.inj h).symm, rfl, hS⟩
          · refine w_skip ?_
            refine seq_n hK41 ?_
            refine w_kill ?_
            exact cut_n hK40 ⟨(Option.some.inj h).symm, rfl, (hS.sel 3 [] (by decide))⟩
        · obtain ⟨rfl, rfl, hS⟩ := hq
          replace h := g39
          try dsimp only at h
          refine seq_n hK36 ?_
          refine w_seq fun K115 hK115 => ?_
          refine w_reg gC ?_
          try simp only [W, Nat.reduceAdd]
          refine w_call h fun b116 hb116 h => ?_
          obtain ⟨b117, b118⟩ := b116
          try dsimp only at h
          refine spec_DrawRemoveAt_w hb116 hS fun v119 qv119 H hS => ?_
          try simp only [W]
          refine seq_n hK115 ?_
          refine w_seq fun K121 hK121 => ?_
          refine w_reg gC ?_
          try simp only [W, Nat.reduceAdd, Nat.reduceBEq, List.contains_cons, Nat.reduceBEq, Bool.or_self]
          refine w_callO (rsh := [[.sl [.sc, .sc, .sc]], [.sc]]) (ys := [.fz (b117.map e_Work), .int .i64 b118]) h rfl (pv_c (sn_ow hS 0 rfl qv119 (fun _ => rfl)) (pv_c rfl pv_n)) fun b122 hb122 h => ⟨.tup [.own 3 (b122.1.map e_Work), .bool b122.2], impl_RemoveAt_w hb122 (Own.nil _) fun v125 qv125 H hS => TV_ok rfl (TV_o 0 hS rfl qv125 (fun _ _ => by simp [takeE, takeT, takeC, plainA, e_Work]) fun H hS => TV_p rfl (TV_n rfl)), (nf_t (nf_c (noFz_o _ (fun _ => rfl) _) (nf_c rfl nf_n))), ?_⟩
          refine thaw_tup ?_
          refine TH_o hS (fun _ _ => rfl) (fun _ => rfl) fun v127 H qv127 hS => ?_
          refine TH_p (fun _ => rfl) ?_
          refine TH_n ?_
          try simp only [List.headD_cons]
          obtain ⟨b123, b124⟩ := b122
          try dsimp only at h
          try simp only [W]
          refine seq_n hK121 ?_
          refine w_seq fun K128 hK128 => ?_
          refine w_reg gC ?_
          try simp only [W, Nat.reduceAdd, Nat.reduceBEq, List.contains_cons, Nat.reduceBEq, Bool.or_self]
          refine w_callO (rsh := [[.sl [.sc, .sc, .sc]], [.sc]]) (ys := [.fz (b117.map e_Work), .int .i64 b118]) h rfl (pv_c (sn_ow hS 1 rfl qv119 (fun _ => rfl)) (pv_c rfl pv_n)) fun b129 hb129 h => ⟨.tup [.own 3 (b129.1.map e_Work), .bool b129.2], spec_RemoveAt_w hb129 (Own.nil _) fun v132 qv132 H hS => TV_ok rfl (TV_o 0 hS rfl qv132 (fun _ _ => by simp [takeE, takeT, takeC, plainA, e_Work]) fun H hS => TV_p rfl (TV_n rfl)), (nf_t (nf_c (noFz_o _ (fun _ => rfl) _) (nf_c rfl nf_n))), ?_⟩
          refine thaw_tup ?_
          refine TH_o hS (fun _ _ => rfl) (fun _ => rfl) fun v134 H qv134 hS => ?_
          refine TH_p (fun _ => rfl) ?_
          refine TH_n ?_
          try simp only [List.headD_cons]
          obtain ⟨b130, b131⟩ := b129
          try dsimp only at h
          try simp only [W]
          refine seq_n hK128 ?_
          refine w_seq fun K135 hK135 => ?_
          refine w_seq fun K136 hK136 => ?_
          obtain ⟨y138, h, g139⟩ := Option.bind_eq_some_iff.1 h
          refine w_join gC (fun s H => ∃ x137 : Bool, y138 = (x137) ∧ s = [u, .fz (a1.map (AV.int .u8)), u, u, u, u, u, u, u, u, u, u, u, u, u, u, u, u, u, u, u, u, v119, .int .i64 b118, v127, .bool b124, u, u, u, u, u, u, u, u, u, u, u, u, u, u, u, u, u, u, u, u, u, u, u, u, u, u, u, u, u, u, u, u, u, u, u, u, u, u, u, u, u, u, u, u, u, u, u, u, u, u, u, u, u, u, u, u, u, u, u, u, u, u, u, u, u, u, u, u, u, u, u, u, u, u, u, u, u, u, u, u, u, u, u, u, u, u, u, u, u, u, u, u, u, u, u, u, u, u, u, u, u, u, u, u, u, u, u, u, u, u, u, u, u, u, u, u, u, u, u, u, u, u, u, u, u, u, u, u, u, u, u, u, u, u, u, u, u, u, u, u, u, u, u, u, u, u, u, u, u, u, u, u, u, u, u, u, u, u, u, u, u, u, u, u, .bool x137, u, u, u, u, u, u, u, u, u, u, u, u, u, u, u, u, u, u, u, u, u, u, u, u, u, u, u, u, u, u, u, u, u, u, u, u, u, u, u, u, u, u, u, u, u, u, u, u, u, u, u, u, u, u, u, u, u, u, u, u, u, u, u, u, u, u, u, u, u, u, u, u, u, u, u, u, u, u, u, u, u, u, u] ∧ Own H (⟨v119, 3, b117.map e_Work⟩ :: ⟨v127, 3, b123.map e_Work⟩ :: F)) (fun K140 hK140 => ?_) (fun s H hq => ?_)
          · refine w_seq fun K141 hK141 => ?_
            refine w_reg gC ?_
            try simp only [W, EE, Nat.reduceAdd]
            rw [b_bneq _ _ _ _ (h := rfl) rfl, resV_s]
            try simp only [W]
            refine w_grdT h (fun hc h => ?_) (fun hc h => ?_)
            · try simp only [W, hc]
              refine seq_n hK141 ?_
              refine w_kill ?_
              exact cut_n hK140 ⟨_, (Option.some.inj h).symm, rfl, (hS.sel 3 [2, 1] (by decide))⟩
            · try simp only [W, hc]
              refine w_callS (rsh := [[.sc]]) (ys := [.fz (b123.map e_Work), .fz (b130.map e_Work)]) h rfl (pv_c (sn_ow hS 1 rfl qv127 (fun _ => rfl)) (pv_c (sn_ow hS 0 rfl qv134 (fun _ => rfl)) pv_n)) fun b142 hb142 h => ⟨.bool b142, laws_sameWorks_w hb142 (Own.nil _) fun H hS => TV_ok rfl (TV_p rfl (TV_n rfl)), ⟨rfl, rfl, fun _ => rfl⟩, ?_⟩
              try simp only [W, reduceIte, Bool.false_eq_true]
              refine seq_n hK141 ?_
              refine w_kill ?_
              exact cut_n hK140 ⟨_, (Option.some.inj h).symm, rfl, (hS.sel 3 [2, 1] (by decide))⟩
          · obtain ⟨x137, ey, rfl, hS⟩ := hq; obtain rfl := ey.symm
            replace h := g139
            try dsimp only at h
            refine seq_n hK136 ?_
            refine w_if ?_
            simp only [W]
            refine w_cnd h (fun hc h => ?_) (fun hc h => ?_)
            · refine w_seq fun K143 hK143 => ?_
              refine w_reg gC ?_
              try simp only [W, Nat.reduceAdd]
              refine seq_n hK143 ?_
              refine w_ret ?_
              refine seq_r hK135 ?_
              refine fin_r1 hK0 rfl ?_
              try obtain rfl := Option.some.inj h
              exact hP _ (hS.sel 2 [] (by decide))
            · refine w_skip ?_
              refine seq_n hK135 ?_
              refine w_seq fun K144 hK144 => ?_
              refine w_seq fun K145 hK145 => ?_
              refine w_reg gC ?_
              try simp only [W, Nat.reduceAdd]
              refine seq_n hK145 ?_
              obtain ⟨y146, h, g147⟩ := Option.bind_eq_some_iff.1 h
              refine w_join gC (fun s H => y146 = LR.next () ∧ s = [u, .fz (a1.map (AV.int .u8)), u, u, u, u, u, u, u, u, u, u, u, u, u, u, u, u, u, u, u, u, u, u, u, u, u, u, u, u, u, u, u, u, u, u, u, u, u, u, u, u, u, u, u, u, u, u, u, u, u, u, u, u, u, u, u, u, u, u, u, u, u, u, u, u, u, u, u, u, u, u, u, u, u, u, u, u, u, u, u, u, u, u, u, u, u, u, u, u, u, u, u, u, u, u, u, u, u, u, u, u, u, u, u, u, u, u, u, u, u, u, u, u, u, u, u, u, u, u, u, u, u, u, u, u, u, u, u, u, u, u, u, u, u, u, u, u, u, u, u, u, u, u, u, u, u, u, u, u, u, u, u, u, u, u, u, u, u, u, u, u, u, u, u, u, u, u, u, u, u, u, u, u, u, u, u, u, u, u, u, u, u, u, u, u, u, u, u, u, u, u, u, u, u, u, u, u, u, u, u, u, u, u, u, u, u, u, u, u, u, u, u, u, u, u, u, u, u, u, u, u, u, u, u, u, u, u, u, u, u, u, u, u, u, u, u, u, u, u, u, u, u, u, u, u, u, u, u, u, u, u, u, u, u, u, u, u, u, u, u, u, u, u, u, u, u, u, u, u, u, u, u, u] ∧ Own H (F)) (fun K148 hK148 => ?_) (fun s H hq => ?_)
              · refine w_seq fun K149 hK149 => ?_
                refine w_if ?_
                simp only [W]
                refine w_cnd h (fun hc h => ?_) (fun hc h => ?_)
                · refine w_seq fun K150 hK150 => ?_
                  refine w_reg gC ?_
                  try simp only [W, Nat.reduceAdd]
                  refine w_callS (rsh := [[.sc], [.sc]]) (ys := [.fz (b123.map e_Work)]) h rfl (pv_c (sn_ow hS 1 rfl qv127 (fun _ => rfl)) pv_n) fun b151 hb151 h => ⟨.tup [.bool b151.1, .bool b151.2], impl_IsHeap_w hb151 (Own.nil _) fun H hS => TV_ok rfl (TV_p rfl (TV_p rfl (TV_n rfl))), ⟨rfl, rfl, fun _ => rfl⟩, ?_⟩
                  obtain ⟨b152, b153⟩ := b151
                  try dsimp only at h
                  try simp only [W]
                  refine seq_n hK150 ?_
                  refine w_seq fun K154 hK154 => ?_
                  obtain ⟨y156, h, g157⟩ := Option.bind_eq_some_iff.1 h
                  refine w_join gC (fun s H => ∃ x155 : Bool, y156 = (x155) ∧ s = [u, .fz (a1.map (AV.int .u8)), u, u, u, u, u, u, u, u, u, u, u, u, u, u, u, u, u, u, u, u, u, u, u, u, u, u, u, u, u, u, u, u, u, u, u, u, u, u, u, u, u, u, u, u, u, u, u, u, u, u, u, u, u, u, u, u, u, u, u, u, u, u, u, u, u, u, u, u, u, u, u, u, u, u, u, u, u, u, u, u, u, u, u, u, u, u, u, u, u, u, u, u, u, u, u, u, u, u, u, u, u, u, u, u, u, u, u, u, u, u, u, u, u, u, u, u, u, u, u, u, u, u, u, u, u, u, u, u, u, u, u, u, u, u, u, u, u, u, u, u, u, u, u, u, u, u, u, u, u, u, u, u, u, u, u, u, u, u, u, u, u, u, u, u, u, u, u, u, u, u, u, u, u, u, u, u, u, u, u, u, u, u, u, u, u, u, u, u, u, u, u, u, u, u, u, u, u, u, u, u, u, u, u, u, u, u, u, u, u, u, u, u, u, u, u, u, u, u, u, u, u, u, u, u, .bool x155, u, u, u, u, u, u, u, u, u, u, u, u, u, u, u, u, u, u, u, u, u, u, u, u, u, u, u, u, u, u, u, u, u, u, u, u, u, u, u, u, u, u, u, u, u, u, u] ∧ Own H (F)) (fun K158 hK158 => ?_) (fun s H hq => ?_)
                  · refine w_seq fun K159 hK159 => ?_
                    refine w_draw0 gC (by kernel_rfl) ?_
                    try simp only [W, Nat.reduceAdd]
                    refine w_grdT h (fun hc h => ?_) (fun hc h => ?_)
                    · try simp only [W, hc]
                      refine seq_n hK159 ?_
                      refine w_kill ?_
                      exact cut_n hK158 ⟨_, (Option.some.inj h).symm, rfl, (hS.sel 2 [] (by decide))⟩
                    · try simp only [W, reduceIte, Bool.false_eq_true, hc]
                      refine w_grdT h (fun hc h => ?_) (fun hc h => ?_)
                      · try simp only [W, hc]
                        refine seq_n hK159 ?_
                        refine w_kill ?_
                        exact cut_n hK158 ⟨_, (Option.some.inj h).symm, rfl, (hS.sel 2 [] (by decide))⟩
                      · try simp only [W, EE, hc]
                        refine w_len 1 hS rfl qv127 rfl ?_
                        try simp only [W, EE]
                        refine w_len 0 hS rfl qv119 rfl ?_
                        try simp only [W, EE, reduceIte, Bool.false_eq_true]
                        refine w_grdT h (fun hc h => ?_) (fun hc h => ?_)
                        · try simp only [W, hc]
                          refine seq_n hK159 ?_
                          refine w_kill ?_
                          exact cut_n hK158 ⟨_, (Option.some.inj h).symm, rfl, (hS.sel 2 [] (by decide))⟩
                        · try simp only [W, EE, hc]
                          refine w_ow 0 hS rfl rfl rfl rfl rfl h (fun b160 in161 wn161 on161 hb160 h en161 => ?_) qv119.ne
                          obtain ⟨kn161, hbn161, hen161⟩ := hS.elem 0 rfl en161 hb160
                          try simp only [W, EE, EN, reduceIte, Nat.reduceAdd, Nat.reduceLeDiff, hbn161, hen161]
                          refine w_callS (rsh := [[.sc]]) (ys := [.fz (b123.map e_Work), .agg [.int .i64 b160.End, .int .i64 b160.Rank, .int .i64 b160.Id]]) h rfl (pv_c (sn_ow hS 1 rfl qv127 (fun _ => rfl)) (pv_c rfl pv_n)) fun b162 hb162 h => ⟨.int .i64 b162, laws_manyOf_w hb162 (Own.nil _) fun H hS => TV_ok rfl (TV_p rfl (TV_n rfl)), ⟨rfl, rfl, fun _ => rfl⟩, ?_⟩
                          try simp only [W, EE]
                          refine w_ow 0 hS rfl rfl rfl rfl rfl h (fun b163 in164 wn164 on164 hb163 h en164 => ?_) qv119.ne
                          obtain ⟨kn164, hbn164, hen164⟩ := hS.elem 0 rfl en164 hb163
                          try simp only [W, EE, EN, reduceIte, Nat.reduceAdd, Nat.reduceLeDiff, hbn164, hen164]
                          refine w_callS (rsh := [[.sc]]) (ys := [.fz (b117.map e_Work), .agg [.int .i64 b163.End, .int .i64 b163.Rank, .int .i64 b163.Id]]) h rfl (pv_c (sn_ow hS 0 rfl qv119 (fun _ => rfl)) (pv_c rfl pv_n)) fun b165 hb165 h => ⟨.int .i64 b165, laws_manyOf_w hb165 (Own.nil _) fun H hS => TV_ok rfl (TV_p rfl (TV_n rfl)), ⟨rfl, rfl, fun _ => rfl⟩, ?_⟩
                          try simp only [W, EE, reduceIte, Bool.false_eq_true]
                          refine seq_n hK159 ?_
                          refine w_kill ?_
                          exact cut_n hK158 ⟨_, (Option.some.inj h).symm, rfl, (hS.sel 2 [] (by decide))⟩
                  · obtain ⟨x155, ey, rfl, hS⟩ := hq; obtain rfl := ey.symm
                    replace h := g157
                    try dsimp only at h
                    refine seq_n hK154 ?_
                    refine w_if ?_
                    simp only [W]
                    refine w_cnd h (fun hc h => ?_) (fun hc h => ?_)
                    · refine w_seq fun K166 hK166 => ?_
                      refine w_reg gC ?_
                      try simp only [W, Nat.reduceAdd]
                      refine seq_n hK166 ?_
                      refine w_ret ?_
                      refine seq_r hK149 ?_
                      try obtain rfl := Option.some.inj h
                      obtain rfl := Option.some.inj g147
                      have h : (some false : Option (Bool)) = some false := rfl
                      refine cut_r hK148 ?_
                      refine seq_r hK144 ?_
                      refine fin_r1 hK0 rfl ?_
                      try obtain rfl := Option.some.inj h
                      exact hP _ hS
                    · refine w_skip ?_
                      refine seq_n hK149 ?_
                      refine w_kill ?_
                      exact cut_n hK148 ⟨(Option.some.inj h).symm, rfl, hS⟩
                · refine w_skip ?_
                  refine seq_n hK149 ?_
                  refine w_kill ?_
                  exact cut_n hK148 ⟨(Option.some.inj h).symm, rfl, (hS.sel 2 [] (by decide))⟩
              · obtain ⟨rfl, rfl, hS⟩ := hq
                replace h := g147
                try dsimp only at h
                refine seq_n hK144 ?_
                refine w_seq fun K169 hK169 => ?_
                refine w_reg gC ?_
                try simp only [W, Nat.reduceAdd]
                refine w_call h fun b170 hb170 h => ?_
                refine spec_DrawPopHeap_w hb170 hS fun v171 qv171 H hS => ?_
                try simp only [W]
                refine seq_n hK169 ?_
                refine w_seq fun K173 hK173 => ?_
                refine w_reg gC ?_
                try simp only [W, Nat.reduceAdd, Nat.reduceBEq, List.contains_cons, Nat.reduceBEq, Bool.or_self]
                refine w_callO (rsh := [[.sl [.sc, .sc, .sc]], [.sc, .sc, .sc], [.sc]]) (ys := [.fz (b170.map e_Work)]) h rfl (pv_c (sn_ow hS 0 rfl qv171 (fun _ => rfl)) pv_n) fun b174 hb174 h => ⟨.tup [.own 3 (b174.1.map e_Work), .agg [.int .i64 b174.2.1.End, .int .i64 b174.2.1.Rank, .int .i64 b174.2.1.Id], .bool b174.2.2], impl_PopHeap_w hb174 (Own.nil _) fun v178 qv178 H hS => TV_ok rfl (TV_o 0 hS rfl qv178 (fun _ _ => by simp [takeE, takeT, takeC, plainA, e_Work]) fun H hS => TV_a (TC_sc rfl (TC_sc rfl (TC_sc rfl (TC_nil (TV_p rfl (TV_n rfl))))))), (nf_t (nf_c (noFz_o _ (fun _ => rfl) _) (nf_c (nf_a (nf_c rfl (nf_c rfl (nf_c rfl nf_n)))) (nf_c rfl nf_n)))), ?_⟩
                refine thaw_tup ?_
                refine TH_o hS (fun _ _ => rfl) (fun _ => rfl) fun v180 H qv180 hS => ?_
                refine TH_a ?_
                refine TH_p (fun _ => rfl) ?_
                refine TH_p (fun _ => rfl) ?_
                refine TH_p (fun _ => rfl) ?_
                refine TH_n ?_
                refine TH_p (fun _ => rfl) ?_
                refine TH_n ?_
                try simp only [List.headD_cons]
                obtain ⟨b175, b176, b177⟩ := b174
                try dsimp only at h
                try simp only [W]
                refine w_alloc hS rfl rfl fun ip181 wp181 H hS => ?_
                try simp only [W]
                refine w_stv (a := .agg [.int .i64 b176.End, .int .i64 b176.Rank, .int .i64 b176.Id]) (y' := .agg [.int .i64 b176.End, .int .i64 b176.Rank, .int .i64 b176.Id]) 0 hS rfl rfl rfl rfl rfl rfl rfl rfl fun H hS => ?_
                try simp only [W]
                refine seq_n hK173 ?_
                refine w_seq fun K183 hK183 => ?_
                refine w_reg gC ?_
                try simp only [W, Nat.reduceAdd, Nat.reduceBEq, List.contains_cons, Nat.reduceBEq, Bool.or_self]
                refine w_callO (rsh := [[.sl [.sc, .sc, .sc]], [.sc, .sc, .sc], [.sc]]) (ys := [.fz (b170.map e_Work)]) h rfl (pv_c (sn_ow hS 2 rfl qv171 (fun _ => rfl)) pv_n) fun b184 hb184 h => ⟨.tup [.own 3 (b184.1.map e_Work), .agg [.int .i64 b184.2.1.End, .int .i64 b184.2.1.Rank, .int .i64 b184.2.1.Id], .bool b184.2.2], spec_PopHeap_w hb184 (Own.nil _) fun v188 qv188 H hS => TV_ok rfl (TV_o 0 hS rfl qv188 (fun _ _ => by simp [takeE, takeT, takeC, plainA, e_Work]) fun H hS => TV_a (TC_sc rfl (TC_sc rfl (TC_sc rfl (TC_nil (TV_p rfl (TV_n rfl))))))), (nf_t (nf_c (noFz_o _ (fun _ => rfl) _) (nf_c (nf_a (nf_c rfl (nf_c rfl (nf_c rfl nf_n)))) (nf_c rfl nf_n)))), ?_⟩
                refine thaw_tup ?_
                refine TH_o hS (fun _ _ => rfl) (fun _ => rfl) fun v190 H qv190 hS => ?_
                refine TH_a ?_
                refine TH_p (fun _ => rfl) ?_
                refine TH_p (fun _ => rfl) ?_
                refine TH_p (fun _ => rfl) ?_
                refine TH_n ?_
                refine TH_p (fun _ => rfl) ?_
                refine TH_n ?_
                try simp only [List.headD_cons]
                obtain ⟨b185, b186, b187⟩ := b184
                try dsimp only at h
                try simp only [W]
                refine w_alloc hS rfl rfl fun ip191 wp191 H hS => ?_
                try simp only [W]
                refine w_stv (a := .agg [.int .i64 b186.End, .int .i64 b186.Rank, .int .i64 b186.Id]) (y' := .agg [.int .i64 b186.End, .int .i64 b186.Rank, .int .i64 b186.Id]) 0 hS rfl rfl rfl rfl rfl rfl rfl rfl fun H hS => ?_
                try simp only [W]
                refine seq_n hK183 ?_
                refine w_seq fun K193 hK193 => ?_
                refine w_reg gC ?_
                try simp only [W, Nat.reduceAdd]
                refine w_callS (rsh := [[.sc], [.sc]]) (ys := [.fz (b170.map e_Work)]) h rfl (pv_c (sn_ow hS 4 rfl qv171 (fun _ => rfl)) pv_n) fun b194 hb194 h => ⟨.tup [.bool b194.1, .bool b194.2], impl_IsHeap_w hb194 (Own.nil _) fun H hS => TV_ok rfl (TV_p rfl (TV_p rfl (TV_n rfl))), ⟨rfl, rfl, fun _ => rfl⟩, ?_⟩
                obtain ⟨b195, b196⟩ := b194
                try dsimp only at h
                try simp only [W]
                refine seq_n hK193 ?_
                refine w_seq fun K197 hK197 => ?_
                refine w_reg gC ?_
                try simp only [W, Nat.reduceAdd]
                refine w_callS (rsh := [[.sc], [.sc]]) (ys := [.fz (b170.map e_Work)]) h rfl (pv_c (sn_ow hS 4 rfl qv171 (fun _ => rfl)) pv_n) fun b198 hb198 h => ⟨.tup [.bool b198.1, .bool b198.2], spec_IsHeap_w hb198 (Own.nil _) fun H hS => TV_ok rfl (TV_p rfl (TV_p rfl (TV_n rfl))), ⟨rfl, rfl, fun _ => rfl⟩, ?_⟩
                obtain ⟨b199, b200⟩ := b198
                try dsimp only at h
                try simp only [W]
                refine seq_n hK197 ?_
                refine w_seq fun K201 hK201 => ?_
                refine w_reg gC ?_
                try simp only [W, EE, Nat.reduceAdd]
                rw [b_beql _ _ _ _ (h := rfl) rfl, resV_s]
                try simp only [W]
                refine w_grdT h (fun hc h => ?_) (fun hc h => ?_)
                · try simp only [W, EE, reduceIte, Nat.reduceAdd, Nat.reduceLeDiff, Bool.false_eq_true, hS.var 2 rfl, hS.var 0 rfl, hc]
                  refine w_grdT h (fun hc h => ?_) (fun hc h => ?_)
                  · try simp only [W, hc]
                    refine w_callS (rsh := [[.sc]]) (ys := [.fz (b175.map e_Work), .fz (b185.map e_Work)]) h rfl (pv_c (sn_ow hS 3 rfl qv180 (fun _ => rfl)) (pv_c (sn_ow hS 1 rfl qv190 (fun _ => rfl)) pv_n)) fun b202 hb202 h => ⟨.bool b202, laws_sameWorks_w hb202 (Own.nil _) fun H hS => TV_ok rfl (TV_p rfl (TV_n rfl)), ⟨rfl, rfl, fun _ => rfl⟩, ?_⟩
                    try simp only [W, reduceIte]
                    refine w_grdT h (fun hc h => ?_) (fun hc h => ?_)
                    · try simp only [W, EE, hc]
                      rw [b_beql _ _ _ _ (h := rfl) rfl, resV_s]
                      try simp only [W, reduceIte]
                      refine w_grdT h (fun hc h => ?_) (fun hc h => ?_)
                      · try simp only [W, EE, hc]
                        rw [b_beql _ _ _ _ (h := rfl) rfl, resV_s]
                        try simp only [W, reduceIte]
                        refine seq_n hK201 ?_
                        refine w_ret ?_
                        refine fin_r1 hK0 rfl ?_
                        try obtain rfl := Option.some.inj h
                        exact hP _ (hS.sel 5 [] (by decide))
                      · try simp only [W, hc]
                        refine seq_n hK201 ?_
                        refine w_ret ?_
                        refine fin_r1 hK0 rfl ?_
                        try obtain rfl := Option.some.inj h
                        exact hP _ (hS.sel 5 [] (by decide))
                    · try simp only [W, hc]
                      refine seq_n hK201 ?_
                      refine w_ret ?_
                      refine fin_r1 hK0 rfl ?_
                      try obtain rfl := Option.some.inj h
                      exact hP _ (hS.sel 5 [] (by decide))
                  · try simp only [W, hc]
                    refine seq_n hK201 ?_
                    refine w_ret ?_
                    refine fin_r1 hK0 rfl ?_
                    try obtain rfl := Option.some.inj h
                    exact hP _ (hS.sel 5 [] (by decide))
                · try simp only [W, hc]
                  refine seq_n hK201 ?_
                  refine w_ret ?_
                  refine fin_r1 hK0 rfl ?_
                  try obtain rfl := Option.some.inj h
                  exact hP _ (hS.sel 5 [] (by decide))
end Go.VxW
