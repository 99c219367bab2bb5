import Derived.Test.YtcgnkhdeckgaaaaVkG1
import Derived.Test.YtcgnkhdeckgaaaaProg
import Derived.Test.YtcgnkhdeckgaaaaVaE
import Derived.KernelRfl
open Go Go.VS
set_option maxRecDepth 8000
set_option maxHeartbeats 4000000
namespace Go.VxW
theorem laws_FnExactPutPacket_w {a0 : Turns} {a1 : Int} {a2 : Int} {r : (Bool)} (h : laws_FnExactPutPacket a0 a1 a2 = some r) {F : List It} {H : Heap} (hS : Own H (F)) {P : AV → Heap → Prop} (hP : ∀ H', Own H' (F) → P (.bool r) H') : ACall C 3 [.agg [.fz (a0.Quanta.map (AV.int .i64)), .fz (a0.Queues.map (fzl (AV.int .i64))), .fz (a0.Credit.map (AV.int .i64)), .fz (a0.Sent.map (AV.int .i64)), .int .i64 a0.At], .int .i64 a1, .int .i64 a2] H P := by
  refine acall_of gC (res := [.tmp 6]) (n := 106) rfl rfl rfl rfl fun K0 hK0 => ?_
  simp only [W, Nat.reduceSub, Nat.reduceAdd, List.replicate]
  unfold laws_FnExactPutPacket at h
  refine w_seq fun K1 hK1 => ?_
  refine w_reg gC ?_
  try simp only [W, Nat.reduceAdd]
  refine w_box hS rfl rfl rfl rfl fun ip2 wp2 H hS => ?_
  try simp only [W]
  refine seq_n hK1 ?_
  refine w_seq fun K4 hK4 => ?_
  refine w_reg gC ?_
  try simp only [W, Nat.reduceAdd]
  refine seq_n hK4 ?_
  refine w_seq fun K5 hK5 => ?_
  refine w_reg gC ?_
  try simp only [W, EE, reduceIte, Nat.reduceAdd, Nat.reduceLeDiff, hS.var 0 rfl]
  refine w_call h fun b6 hb6 h => ?_
  refine laws_szTurns_w hb6 hS fun H hS => ?_
  try simp only [W]
  refine seq_n hK5 ?_
  refine w_seq fun K7 hK7 => ?_
  refine w_seq fun K8 hK8 => ?_
  refine w_reg gC ?_
  try simp only [W, EE, Nat.reduceAdd]
  refine seq_n hK8 ?_
  refine w_if ?_
  simp only [W]
  refine w_cnd h (fun hc h => ?_) (fun hc h => ?_)
  · refine w_seq fun K9 hK9 => ?_
    refine w_reg gC ?_
    try simp only [W, Nat.reduceAdd]
    refine seq_n hK9 ?_
    refine w_ret ?_
    refine seq_r hK7 ?_
    refine fin_r1 hK0 rfl ?_
    try obtain rfl := Option.some.inj h
    exact hP _ (hS.sel 1 [] (by decide))
  · refine w_skip ?_
    refine seq_n hK7 ?_
    refine w_seq fun K10 hK10 => ?_
    refine w_reg gC ?_
    try simp only [W, EE, reduceIte, Nat.reduceAdd, Nat.reduceLeDiff, Nat.reduceBEq, hS.var 0 rfl, List.contains_cons, Nat.reduceBEq, Bool.or_self]
    refine w_call h fun b11 hb11 h => ?_
    refine laws_toTurns_w hb11 hS fun v12 qv12 v14 qv14 d16 qd16 v17 qv17 v19 qv19 H hS => ?_
    have hS : Own _ (⟨v12, 1, b11.Quanta.map (AV.int .i64)⟩ :: ⟨v14, 1, ouw nm_SInt d16 b11.Queues⟩ :: ⟨v17, 1, b11.Credit.map (AV.int .i64)⟩ :: ⟨v19, 1, b11.Sent.map (AV.int .i64)⟩ :: ⟨.ptr ip2 wp2 0 0, 5, [.agg [.fz (a0.Quanta.map (AV.int .i64)), .fz (a0.Queues.map (fzl (AV.int .i64))), .fz (a0.Credit.map (AV.int .i64)), .fz (a0.Sent.map (AV.int .i64)), .int .i64 a0.At]]⟩ :: ((inn np_SInt (AV.int .i64) 1 d16 b11.Queues) ++ (F))) := Own.catI_ (bl := [[⟨v12, 1, b11.Quanta.map (AV.int .i64)⟩], [⟨v14, 1, ouw nm_SInt d16 b11.Queues⟩], [⟨v17, 1, b11.Credit.map (AV.int .i64)⟩], [⟨v19, 1, b11.Sent.map (AV.int .i64)⟩], (inn np_SInt (AV.int .i64) 1 d16 b11.Queues), [⟨.ptr ip2 wp2 0 0, 5, [.agg [.fz (a0.Quanta.map (AV.int .i64)), .fz (a0.Queues.map (fzl (AV.int .i64))), .fz (a0.Credit.map (AV.int .i64)), .fz (a0.Sent.map (AV.int .i64)), .int .i64 a0.At]]⟩]]) (F := F) hS 6 rfl [0, 1, 2, 3, 5, 4] (by decide)
    try simp only [W]
    have hS : Own _ (⟨v12, 1, b11.Quanta.map (AV.int .i64)⟩ :: ⟨v14, 1, ouw nm_SInt d16 b11.Queues⟩ :: ⟨v17, 1, b11.Credit.map (AV.int .i64)⟩ :: ⟨v19, 1, b11.Sent.map (AV.int .i64)⟩ :: ⟨.ptr ip2 wp2 0 0, 5, [.agg [.fz (a0.Quanta.map (AV.int .i64)), .fz (a0.Queues.map (fzl (AV.int .i64))), .fz (a0.Credit.map (AV.int .i64)), .fz (a0.Sent.map (AV.int .i64)), .int .i64 a0.At]]⟩ :: ((inn np_SInt (AV.int .i64) 1 d16 b11.Queues) ++ F)) := hS
    refine w_callO (rsh := [[.sl [.sc], .sl [.sl [.sc]], .sl [.sc], .sl [.sc], .sc], [.sc]]) (ys := [.agg [.fz (b11.Quanta.map (AV.int .i64)), .fz (b11.Queues.map (fzl (AV.int .i64))), .fz (b11.Credit.map (AV.int .i64)), .fz (b11.Sent.map (AV.int .i64)), .int .i64 b11.At], .int .i64 a1, .int .i64 a2]) h rfl (pv_c (sn_agg (sm_c (sn_ow hS 0 rfl qv12 (fun _ => rfl)) (sm_c (sn_owN (enc := (fzl (AV.int .i64))) hS 1 rfl qv14 qd16 (fun _ h => (List.mem_cons_of_mem _ (List.mem_cons_of_mem _ (List.mem_cons_of_mem _ (List.mem_cons_of_mem _ (List.mem_cons_of_mem _ (List.mem_append_left _ h))))))) (fun _ _ ha hk => sn_it hk ha (fun _ => rfl))) (sm_c (sn_ow hS 2 rfl qv17 (fun _ => rfl)) (sm_c (sn_ow hS 3 rfl qv19 (fun _ => rfl)) (sm_c rfl (sm_n _))))))) (pv_c rfl (pv_c rfl pv_n))) fun b21 hb21 h => ⟨.tup [.agg [.own 1 (b21.1.Quanta.map (AV.int .i64)), .own 1 (b21.1.Queues.map nd_SInt), .own 1 (b21.1.Credit.map (AV.int .i64)), .own 1 (b21.1.Sent.map (AV.int .i64)), .int .i64 b21.1.At], .bool b21.2], spec_PutPacket_w hb21 (Own.nil _) fun v24 qv24 v25 qv25 d26 qd26 v27 qv27 v28 qv28 H hS => TV_ok rfl (TV_a (TC_ow 0 hS rfl qv24 (fun _ _ => by simp [takeE, takeT, plainA]) fun H hS => TC_owN (d := nd_SInt) (Own.catI_ (bl := [[⟨v25, 1, ouw nm_SInt d26 b21.1.Queues⟩], [⟨v27, 1, b21.1.Credit.map (AV.int .i64)⟩], [⟨v28, 1, b21.1.Sent.map (AV.int .i64)⟩], (inn np_SInt (AV.int .i64) 1 d26 b21.1.Queues)]) (F := []) hS 4 rfl [0, 3, 1, 2] (by decide)) qv25 qd26 nt_SInt fun H hS => TC_ow 0 hS rfl qv27 (fun _ _ => by simp [takeE, takeT, plainA]) fun H hS => TC_ow 0 hS rfl qv28 (fun _ _ => by simp [takeE, takeT, plainA]) fun H hS => TC_sc rfl (TC_nil (TV_p rfl (TV_n rfl))))), (nf_t (nf_c (nf_a (nf_c (noFz_o _ (fun _ => rfl) _) (nf_c (noFz_o _ nf_SInt _) (nf_c (noFz_o _ (fun _ => rfl) _) (nf_c (noFz_o _ (fun _ => rfl) _) (nf_c rfl nf_n)))))) (nf_c rfl nf_n))), ?_⟩
    obtain ⟨b22, b23⟩ := b21
    try dsimp only at h
    dsimp only
    refine thaw_tup ?_
    refine TH_a ?_
    refine TH_o hS (fun _ _ => rfl) (fun _ => rfl) fun v30 H qv30 hS => ?_
    refine TH_oN (l := b22.Queues) (d := nd_SInt) (m := nm_SInt) (p := np_SInt) (c := (AV.int .i64)) hS nc_SInt nh_SInt fun v32 d33 H qv32 qd33 hS => ?_
    have hS : Own _ (⟨v32, 1, ouw nm_SInt d33 b22.Queues⟩ :: ⟨v30, 1, b22.Quanta.map (AV.int .i64)⟩ :: ⟨v12, 1, b11.Quanta.map (AV.int .i64)⟩ :: ⟨v14, 1, ouw nm_SInt d16 b11.Queues⟩ :: ⟨v17, 1, b11.Credit.map (AV.int .i64)⟩ :: ⟨v19, 1, b11.Sent.map (AV.int .i64)⟩ :: ⟨.ptr ip2 wp2 0 0, 5, [.agg [.fz (a0.Quanta.map (AV.int .i64)), .fz (a0.Queues.map (fzl (AV.int .i64))), .fz (a0.Credit.map (AV.int .i64)), .fz (a0.Sent.map (AV.int .i64)), .int .i64 a0.At]]⟩ :: ((inn np_SInt (AV.int .i64) 1 d33 b22.Queues) ++ (((inn np_SInt (AV.int .i64) 1 d16 b11.Queues) ++ (F))))) := Own.catI_ (bl := [[⟨v32, 1, ouw nm_SInt d33 b22.Queues⟩], (inn np_SInt (AV.int .i64) 1 d33 b22.Queues), [⟨v30, 1, b22.Quanta.map (AV.int .i64)⟩], [⟨v12, 1, b11.Quanta.map (AV.int .i64)⟩], [⟨v14, 1, ouw nm_SInt d16 b11.Queues⟩], [⟨v17, 1, b11.Credit.map (AV.int .i64)⟩], [⟨v19, 1, b11.Sent.map (AV.int .i64)⟩], [⟨.ptr ip2 wp2 0 0, 5, [.agg [.fz (a0.Quanta.map (AV.int .i64)), .fz (a0.Queues.map (fzl (AV.int .i64))), .fz (a0.Credit.map (AV.int .i64)), .fz (a0.Sent.map (AV.int .i64)), .int .i64 a0.At]]⟩], (inn np_SInt (AV.int .i64) 1 d16 b11.Queues)]) (F := F) hS 9 rfl [0, 2, 3, 4, 5, 6, 7, 1, 8] (by decide)
    refine TH_o hS (fun _ _ => rfl) (fun _ => rfl) fun v35 H qv35 hS => ?_
    refine TH_o hS (fun _ _ => rfl) (fun _ => rfl) fun v37 H qv37 hS => ?_
    refine TH_p (fun _ => rfl) ?_
    refine TH_n ?_
    refine TH_p (fun _ => rfl) ?_
    refine TH_n ?_
    try simp only [List.headD_cons]
    try simp only [W]
    refine w_alloc hS rfl rfl fun ip38 wp38 H hS => ?_
    try simp only [W]
    refine w_stv (a := .agg [v30, v32, v35, v37, .int .i64 b22.At]) (y' := .agg [v30, v32, v35, v37, .int .i64 b22.At]) 0 hS rfl rfl rfl rfl rfl (by simp only [storA, List.all_cons, List.all_nil, qv30.stor, qv32.stor, qv35.stor, qv37.stor]; rfl) rfl rfl fun H hS => ?_
    try simp only [W]
    refine seq_n hK10 ?_
    refine w_seq fun K40 hK40 => ?_
    refine w_reg gC ?_
    try simp only [W, EE, reduceIte, Nat.reduceAdd, Nat.reduceLeDiff, hS.var 9 rfl]
    refine w_call h fun b41 hb41 h => ?_
    refine laws_toTurns_w hb41 hS fun v42 qv42 v44 qv44 d46 qd46 v47 qv47 v49 qv49 H hS => ?_
    have hS : Own _ (⟨v42, 1, b41.Quanta.map (AV.int .i64)⟩ :: ⟨v44, 1, ouw nm_SInt d46 b41.Queues⟩ :: ⟨v47, 1, b41.Credit.map (AV.int .i64)⟩ :: ⟨v49, 1, b41.Sent.map (AV.int .i64)⟩ :: ⟨.ptr ip38 wp38 0 0, 5, [.agg [v30, v32, v35, v37, .int .i64 b22.At]]⟩ :: ⟨v37, 1, b22.Sent.map (AV.int .i64)⟩ :: ⟨v35, 1, b22.Credit.map (AV.int .i64)⟩ :: ⟨v32, 1, ouw nm_SInt d33 b22.Queues⟩ :: ⟨v30, 1, b22.Quanta.map (AV.int .i64)⟩ :: ⟨v12, 1, b11.Quanta.map (AV.int .i64)⟩ :: ⟨v14, 1, ouw nm_SInt d16 b11.Queues⟩ :: ⟨v17, 1, b11.Credit.map (AV.int .i64)⟩ :: ⟨v19, 1, b11.Sent.map (AV.int .i64)⟩ :: ⟨.ptr ip2 wp2 0 0, 5, [.agg [.fz (a0.Quanta.map (AV.int .i64)), .fz (a0.Queues.map (fzl (AV.int .i64))), .fz (a0.Credit.map (AV.int .i64)), .fz (a0.Sent.map (AV.int .i64)), .int .i64 a0.At]]⟩ :: ((inn np_SInt (AV.int .i64) 1 d46 b41.Queues) ++ (((inn np_SInt (AV.int .i64) 1 d33 b22.Queues) ++ (((inn np_SInt (AV.int .i64) 1 d16 b11.Queues) ++ (F))))))) := Own.catI_ (bl := [[⟨v42, 1, b41.Quanta.map (AV.int .i64)⟩], [⟨v44, 1, ouw nm_SInt d46 b41.Queues⟩], [⟨v47, 1, b41.Credit.map (AV.int .i64)⟩], [⟨v49, 1, b41.Sent.map (AV.int .i64)⟩], (inn np_SInt (AV.int .i64) 1 d46 b41.Queues), [⟨.ptr ip38 wp38 0 0, 5, [.agg [v30, v32, v35, v37, .int .i64 b22.At]]⟩], [⟨v37, 1, b22.Sent.map (AV.int .i64)⟩], [⟨v35, 1, b22.Credit.map (AV.int .i64)⟩], [⟨v32, 1, ouw nm_SInt d33 b22.Queues⟩], [⟨v30, 1, b22.Quanta.map (AV.int .i64)⟩], [⟨v12, 1, b11.Quanta.map (AV.int .i64)⟩], [⟨v14, 1, ouw nm_SInt d16 b11.Queues⟩], [⟨v17, 1, b11.Credit.map (AV.int .i64)⟩], [⟨v19, 1, b11.Sent.map (AV.int .i64)⟩], [⟨.ptr ip2 wp2 0 0, 5, [.agg [.fz (a0.Quanta.map (AV.int .i64)), .fz (a0.Queues.map (fzl (AV.int .i64))), .fz (a0.Credit.map (AV.int .i64)), .fz (a0.Sent.map (AV.int .i64)), .int .i64 a0.At]]⟩], (inn np_SInt (AV.int .i64) 1 d33 b22.Queues), (inn np_SInt (AV.int .i64) 1 d16 b11.Queues)]) (F := F) hS 17 rfl [0, 1, 2, 3, 5, 6, 7, 8, 9, 10, 11, 12, 13, 14, 4, 15, 16] (by decide)
    try simp only [W]
    refine w_alloc hS rfl rfl fun ip51 wp51 H hS => ?_
    try simp only [W]
    refine w_stv (a := .agg [v42, v44, v47, v49, .int .i64 b41.At]) (y' := .agg [v42, v44, v47, v49, .int .i64 b41.At]) 0 hS rfl rfl rfl rfl rfl (by simp only [storA, List.all_cons, List.all_nil, qv42.stor, qv44.stor, qv47.stor, qv49.stor]; rfl) rfl rfl fun H hS => ?_
    try simp only [W]
    refine seq_n hK40 ?_
    refine w_seq fun K53 hK53 => ?_
    refine w_reg gC ?_
    try simp only [W, EE, reduceIte, Nat.reduceAdd, Nat.reduceLeDiff, Nat.reduceBEq, hS.var 0 rfl, List.contains_cons, Nat.reduceBEq, Bool.or_self]
    have hS : Own _ (⟨.ptr ip51 wp51 0 0, 5, [.agg [v42, v44, v47, v49, .int .i64 b41.At]]⟩ :: ⟨v42, 1, b41.Quanta.map (AV.int .i64)⟩ :: ⟨v44, 1, ouw nm_SInt d46 b41.Queues⟩ :: ⟨v47, 1, b41.Credit.map (AV.int .i64)⟩ :: ⟨v49, 1, b41.Sent.map (AV.int .i64)⟩ :: ⟨.ptr ip38 wp38 0 0, 5, [.agg [v30, v32, v35, v37, .int .i64 b22.At]]⟩ :: ⟨v37, 1, b22.Sent.map (AV.int .i64)⟩ :: ⟨v35, 1, b22.Credit.map (AV.int .i64)⟩ :: ⟨v32, 1, ouw nm_SInt d33 b22.Queues⟩ :: ⟨v30, 1, b22.Quanta.map (AV.int .i64)⟩ :: ⟨v12, 1, b11.Quanta.map (AV.int .i64)⟩ :: ⟨v14, 1, ouw nm_SInt d16 b11.Queues⟩ :: ⟨v17, 1, b11.Credit.map (AV.int .i64)⟩ :: ⟨v19, 1, b11.Sent.map (AV.int .i64)⟩ :: ⟨.ptr ip2 wp2 0 0, 5, [.agg [.fz (a0.Quanta.map (AV.int .i64)), .fz (a0.Queues.map (fzl (AV.int .i64))), .fz (a0.Credit.map (AV.int .i64)), .fz (a0.Sent.map (AV.int .i64)), .int .i64 a0.At]]⟩ :: ((inn np_SInt (AV.int .i64) 1 d46 b41.Queues) ++ ((inn np_SInt (AV.int .i64) 1 d33 b22.Queues) ++ ((inn np_SInt (AV.int .i64) 1 d16 b11.Queues) ++ F)))) := hS
    refine w_callO (rsh := [[.sl [.sc], .sl [.sl [.sc]], .sl [.sc], .sl [.sc], .sc], [.sc]]) (ys := [.agg [.fz (b41.Quanta.map (AV.int .i64)), .fz (b41.Queues.map (fzl (AV.int .i64))), .fz (b41.Credit.map (AV.int .i64)), .fz (b41.Sent.map (AV.int .i64)), .int .i64 b41.At], .int .i64 a1, .int .i64 a2]) h rfl (pv_c (sn_agg (sm_c (sn_ow hS 1 rfl qv42 (fun _ => rfl)) (sm_c (sn_owN (enc := (fzl (AV.int .i64))) hS 2 rfl qv44 qd46 (fun _ h => (List.mem_cons_of_mem _ (List.mem_cons_of_mem _ (List.mem_cons_of_mem _ (List.mem_cons_of_mem _ (List.mem_cons_of_mem _ (List.mem_cons_of_mem _ (List.mem_cons_of_mem _ (List.mem_cons_of_mem _ (List.mem_cons_of_mem _ (List.mem_cons_of_mem _ (List.mem_cons_of_mem _ (List.mem_cons_of_mem _ (List.mem_cons_of_mem _ (List.mem_cons_of_mem _ (List.mem_cons_of_mem _ (List.mem_append_left _ h))))))))))))))))) (fun _ _ ha hk => sn_it hk ha (fun _ => rfl))) (sm_c (sn_ow hS 3 rfl qv47 (fun _ => rfl)) (sm_c (sn_ow hS 4 rfl qv49 (fun _ => rfl)) (sm_c rfl (sm_n _))))))) (pv_c rfl (pv_c rfl pv_n))) fun b54 hb54 h => ⟨.tup [.agg [.own 1 (b54.1.Quanta.map (AV.int .i64)), .own 1 (b54.1.Queues.map nd_SInt), .own 1 (b54.1.Credit.map (AV.int .i64)), .own 1 (b54.1.Sent.map (AV.int .i64)), .int .i64 b54.1.At], .bool b54.2], impl_PutPacket_w hb54 (Own.nil _) fun v57 qv57 v58 qv58 d59 qd59 v60 qv60 v61 qv61 H hS => TV_ok rfl (TV_a (TC_ow 0 hS rfl qv57 (fun _ _ => by simp [takeE, takeT, plainA]) fun H hS => TC_owN (d := nd_SInt) (Own.catI_ (bl := [[⟨v58, 1, ouw nm_SInt d59 b54.1.Queues⟩], [⟨v60, 1, b54.1.Credit.map (AV.int .i64)⟩], [⟨v61, 1, b54.1.Sent.map (AV.int .i64)⟩], (inn np_SInt (AV.int .i64) 1 d59 b54.1.Queues)]) (F := []) hS 4 rfl [0, 3, 1, 2] (by decide)) qv58 qd59 nt_SInt fun H hS => TC_ow 0 hS rfl qv60 (fun _ _ => by simp [takeE, takeT, plainA]) fun H hS => TC_ow 0 hS rfl qv61 (fun _ _ => by simp [takeE, takeT, plainA]) fun H hS => TC_sc rfl (TC_nil (TV_p rfl (TV_n rfl))))), (nf_t (nf_c (nf_a (nf_c (noFz_o _ (fun _ => rfl) _) (nf_c (noFz_o _ nf_SInt _) (nf_c (noFz_o _ (fun _ => rfl) _) (nf_c (noFz_o _ (fun _ => rfl) _) (nf_c rfl nf_n)))))) (nf_c rfl nf_n))), ?_⟩
    obtain ⟨b55, b56⟩ := b54
    try dsimp only at h
    dsimp only
    refine thaw_tup ?_
    refine TH_a ?_
    refine TH_o hS (fun _ _ => rfl) (fun _ => rfl) fun v63 H qv63 hS => ?_
    refine TH_oN (l := b55.Queues) (d := nd_SInt) (m := nm_SInt) (p := np_SInt) (c := (AV.int .i64)) hS nc_SInt nh_SInt fun v65 d66 H qv65 qd66 hS => ?_
    have hS : Own _ (⟨v65, 1, ouw nm_SInt d66 b55.Queues⟩ :: ⟨v63, 1, b55.Quanta.map (AV.int .i64)⟩ :: ⟨.ptr ip51 wp51 0 0, 5, [.agg [v42, v44, v47, v49, .int .i64 b41.At]]⟩ :: ⟨v42, 1, b41.Quanta.map (AV.int .i64)⟩ :: ⟨v44, 1, ouw nm_SInt d46 b41.Queues⟩ :: ⟨v47, 1, b41.Credit.map (AV.int .i64)⟩ :: ⟨v49, 1, b41.Sent.map (AV.int .i64)⟩ :: ⟨.ptr ip38 wp38 0 0, 5, [.agg [v30, v32, v35, v37, .int .i64 b22.At]]⟩ :: ⟨v37, 1, b22.Sent.map (AV.int .i64)⟩ :: ⟨v35, 1, b22.Credit.map (AV.int .i64)⟩ :: ⟨v32, 1, ouw nm_SInt d33 b22.Queues⟩ :: ⟨v30, 1, b22.Quanta.map (AV.int .i64)⟩ :: ⟨v12, 1, b11.Quanta.map (AV.int .i64)⟩ :: ⟨v14, 1, ouw nm_SInt d16 b11.Queues⟩ :: ⟨v17, 1, b11.Credit.map (AV.int .i64)⟩ :: ⟨v19, 1, b11.Sent.map (AV.int .i64)⟩ :: ⟨.ptr ip2 wp2 0 0, 5, [.agg [.fz (a0.Quanta.map (AV.int .i64)), .fz (a0.Queues.map (fzl (AV.int .i64))), .fz (a0.Credit.map (AV.int .i64)), .fz (a0.Sent.map (AV.int .i64)), .int .i64 a0.At]]⟩ :: ((inn np_SInt (AV.int .i64) 1 d66 b55.Queues) ++ (((inn np_SInt (AV.int .i64) 1 d46 b41.Queues) ++ (((inn np_SInt (AV.int .i64) 1 d33 b22.Queues) ++ (((inn np_SInt (AV.int .i64) 1 d16 b11.Queues) ++ (F))))))))) := Own.catI_ (bl := [[⟨v65, 1, ouw nm_SInt d66 b55.Queues⟩], (inn np_SInt (AV.int .i64) 1 d66 b55.Queues), [⟨v63, 1, b55.Quanta.map (AV.int .i64)⟩], [⟨.ptr ip51 wp51 0 0, 5, [.agg [v42, v44, v47, v49, .int .i64 b41.At]]⟩], [⟨v42, 1, b41.Quanta.map (AV.int .i64)⟩], [⟨v44, 1, ouw nm_SInt d46 b41.Queues⟩], [⟨v47, 1, b41.Credit.map (AV.int .i64)⟩], [⟨v49, 1, b41.Sent.map (AV.int .i64)⟩], [⟨.ptr ip38 wp38 0 0, 5, [.agg [v30, v32, v35, v37, .int .i64 b22.At]]⟩], [⟨v37, 1, b22.Sent.map (AV.int .i64)⟩], [⟨v35, 1, b22.Credit.map (AV.int .i64)⟩], [⟨v32, 1, ouw nm_SInt d33 b22.Queues⟩], [⟨v30, 1, b22.Quanta.map (AV.int .i64)⟩], [⟨v12, 1, b11.Quanta.map (AV.int .i64)⟩], [⟨v14, 1, ouw nm_SInt d16 b11.Queues⟩], [⟨v17, 1, b11.Credit.map (AV.int .i64)⟩], [⟨v19, 1, b11.Sent.map (AV.int .i64)⟩], [⟨.ptr ip2 wp2 0 0, 5, [.agg [.fz (a0.Quanta.map (AV.int .i64)), .fz (a0.Queues.map (fzl (AV.int .i64))), .fz (a0.Credit.map (AV.int .i64)), .fz (a0.Sent.map (AV.int .i64)), .int .i64 a0.At]]⟩], (inn np_SInt (AV.int .i64) 1 d46 b41.Queues), (inn np_SInt (AV.int .i64) 1 d33 b22.Queues), (inn np_SInt (AV.int .i64) 1 d16 b11.Queues)]) (F := F) hS 21 rfl [0, 2, 3, 4, 5, 6, 7, 8, 9, 10, 11, 12, 13, 14, 15, 16, 17, 1, 18, 19, 20] (by decide)
    refine TH_o hS (fun _ _ => rfl) (fun _ => rfl) fun v68 H qv68 hS => ?_
    refine TH_o hS (fun _ _ => rfl) (fun _ => rfl) fun v70 H qv70 hS => ?_
    refine TH_p (fun _ => rfl) ?_
    refine TH_n ?_
    refine TH_p (fun _ => rfl) ?_
    refine TH_n ?_
    try simp only [List.headD_cons]
    try simp only [W]
    refine w_alloc hS rfl rfl fun ip71 wp71 H hS => ?_
    try simp only [W]
    refine w_stv (a := .agg [v63, v65, v68, v70, .int .i64 b55.At]) (y' := .agg [v63, v65, v68, v70, .int .i64 b55.At]) 0 hS rfl rfl rfl rfl rfl (by simp only [storA, List.all_cons, List.all_nil, qv63.stor, qv65.stor, qv68.stor, qv70.stor]; rfl) rfl rfl fun H hS => ?_
    try simp only [W]
    refine seq_n hK53 ?_
    refine w_seq fun K73 hK73 => ?_
    refine w_seq fun K74 hK74 => ?_
    obtain ⟨y76, h, g77⟩ := Option.bind_eq_some_iff.1 h
    refine w_join gC (fun s H => ∃ x75 : Bool, y76 = (x75) ∧ s = (u :: .int .i64 a1 :: .int .i64 a2 :: .ptr ip2 wp2 0 0 :: u :: u :: u :: u :: .ptr ip38 wp38 0 0 :: .bool b23 :: .ptr ip51 wp51 0 0 :: .ptr ip71 wp71 0 0 :: .bool b56 :: u :: u :: u :: u :: u :: u :: u :: u :: u :: u :: u :: u :: u :: u :: u :: u :: u :: u :: u :: u :: u :: u :: u :: u :: u :: u :: u :: u :: u :: u :: u :: u :: u :: u :: u :: .bool x75 :: u :: u :: u :: u :: u :: u :: u :: u :: u :: u :: u :: u :: u :: u :: u :: u :: u :: u :: u :: u :: u :: u :: u :: u :: u :: u :: u :: u :: u :: u :: u :: u :: u :: u :: u :: u :: u :: u :: u :: u :: u :: u :: u :: u :: u :: u :: u :: u :: u :: u :: u :: u :: u :: u :: u :: u :: u :: []) ∧ Own H (⟨v30, 1, b22.Quanta.map (AV.int .i64)⟩ :: ⟨v32, 1, ouw nm_SInt d33 b22.Queues⟩ :: ⟨v35, 1, b22.Credit.map (AV.int .i64)⟩ :: ⟨v37, 1, b22.Sent.map (AV.int .i64)⟩ :: ⟨v42, 1, b41.Quanta.map (AV.int .i64)⟩ :: ⟨v44, 1, ouw nm_SInt d46 b41.Queues⟩ :: ⟨v47, 1, b41.Credit.map (AV.int .i64)⟩ :: ⟨v49, 1, b41.Sent.map (AV.int .i64)⟩ :: ⟨v63, 1, b55.Quanta.map (AV.int .i64)⟩ :: ⟨v65, 1, ouw nm_SInt d66 b55.Queues⟩ :: ⟨v68, 1, b55.Credit.map (AV.int .i64)⟩ :: ⟨v70, 1, b55.Sent.map (AV.int .i64)⟩ :: ⟨.ptr ip2 wp2 0 0, 5, [.agg [.fz (a0.Quanta.map (AV.int .i64)), .fz (a0.Queues.map (fzl (AV.int .i64))), .fz (a0.Credit.map (AV.int .i64)), .fz (a0.Sent.map (AV.int .i64)), .int .i64 a0.At]]⟩ :: ⟨.ptr ip38 wp38 0 0, 5, [.agg [v30, v32, v35, v37, .int .i64 b22.At]]⟩ :: ⟨.ptr ip51 wp51 0 0, 5, [.agg [v42, v44, v47, v49, .int .i64 b41.At]]⟩ :: ⟨.ptr ip71 wp71 0 0, 5, [.agg [v63, v65, v68, v70, .int .i64 b55.At]]⟩ :: ((inn np_SInt (AV.int .i64) 1 d33 b22.Queues) ++ ((inn np_SInt (AV.int .i64) 1 d46 b41.Queues) ++ ((inn np_SInt (AV.int .i64) 1 d66 b55.Queues) ++ F))))) (fun K78 hK78 => ?_) (fun s H hq => ?_)
    · refine w_seq fun K79 hK79 => ?_
      refine w_reg gC ?_
      try simp only [W, EE, reduceIte, Nat.reduceAdd, Nat.reduceLeDiff, hS.var 10 rfl, hS.var 0 rfl]
      have hS : Own _ (⟨.ptr ip71 wp71 0 0, 5, [.agg [v63, v65, v68, v70, .int .i64 b55.At]]⟩ :: ⟨v70, 1, b55.Sent.map (AV.int .i64)⟩ :: ⟨v68, 1, b55.Credit.map (AV.int .i64)⟩ :: ⟨v65, 1, ouw nm_SInt d66 b55.Queues⟩ :: ⟨v63, 1, b55.Quanta.map (AV.int .i64)⟩ :: ⟨.ptr ip51 wp51 0 0, 5, [.agg [v42, v44, v47, v49, .int .i64 b41.At]]⟩ :: ⟨v42, 1, b41.Quanta.map (AV.int .i64)⟩ :: ⟨v44, 1, ouw nm_SInt d46 b41.Queues⟩ :: ⟨v47, 1, b41.Credit.map (AV.int .i64)⟩ :: ⟨v49, 1, b41.Sent.map (AV.int .i64)⟩ :: ⟨.ptr ip38 wp38 0 0, 5, [.agg [v30, v32, v35, v37, .int .i64 b22.At]]⟩ :: ⟨v37, 1, b22.Sent.map (AV.int .i64)⟩ :: ⟨v35, 1, b22.Credit.map (AV.int .i64)⟩ :: ⟨v32, 1, ouw nm_SInt d33 b22.Queues⟩ :: ⟨v30, 1, b22.Quanta.map (AV.int .i64)⟩ :: ⟨v12, 1, b11.Quanta.map (AV.int .i64)⟩ :: ⟨v14, 1, ouw nm_SInt d16 b11.Queues⟩ :: ⟨v17, 1, b11.Credit.map (AV.int .i64)⟩ :: ⟨v19, 1, b11.Sent.map (AV.int .i64)⟩ :: ⟨.ptr ip2 wp2 0 0, 5, [.agg [.fz (a0.Quanta.map (AV.int .i64)), .fz (a0.Queues.map (fzl (AV.int .i64))), .fz (a0.Credit.map (AV.int .i64)), .fz (a0.Sent.map (AV.int .i64)), .int .i64 a0.At]]⟩ :: ((inn np_SInt (AV.int .i64) 1 d66 b55.Queues) ++ ((inn np_SInt (AV.int .i64) 1 d46 b41.Queues) ++ ((inn np_SInt (AV.int .i64) 1 d33 b22.Queues) ++ ((inn np_SInt (AV.int .i64) 1 d16 b11.Queues) ++ F))))) := hS
      refine w_callS (rsh := [[.sc]]) (ys := [.agg [.fz (b55.Quanta.map (AV.int .i64)), .fz (b55.Queues.map (fzl (AV.int .i64))), .fz (b55.Credit.map (AV.int .i64)), .fz (b55.Sent.map (AV.int .i64)), .int .i64 b55.At], .agg [.fz (b22.Quanta.map (AV.int .i64)), .fz (b22.Queues.map (fzl (AV.int .i64))), .fz (b22.Credit.map (AV.int .i64)), .fz (b22.Sent.map (AV.int .i64)), .int .i64 b22.At]]) h rfl (pv_c (sn_agg (sm_c (sn_ow hS 4 rfl qv63 (fun _ => rfl)) (sm_c (sn_owN (enc := (fzl (AV.int .i64))) hS 3 rfl qv65 qd66 (fun _ h => (List.mem_cons_of_mem _ (List.mem_cons_of_mem _ (List.mem_cons_of_mem _ (List.mem_cons_of_mem _ (List.mem_cons_of_mem _ (List.mem_cons_of_mem _ (List.mem_cons_of_mem _ (List.mem_cons_of_mem _ (List.mem_cons_of_mem _ (List.mem_cons_of_mem _ (List.mem_cons_of_mem _ (List.mem_cons_of_mem _ (List.mem_cons_of_mem _ (List.mem_cons_of_mem _ (List.mem_cons_of_mem _ (List.mem_cons_of_mem _ (List.mem_cons_of_mem _ (List.mem_cons_of_mem _ (List.mem_cons_of_mem _ (List.mem_cons_of_mem _ (List.mem_append_left _ h)))))))))))))))))))))) (fun _ _ ha hk => sn_it hk ha (fun _ => rfl))) (sm_c (sn_ow hS 2 rfl qv68 (fun _ => rfl)) (sm_c (sn_ow hS 1 rfl qv70 (fun _ => rfl)) (sm_c rfl (sm_n _))))))) (pv_c (sn_agg (sm_c (sn_ow hS 14 rfl qv30 (fun _ => rfl)) (sm_c (sn_owN (enc := (fzl (AV.int .i64))) hS 13 rfl qv32 qd33 (fun _ h => (List.mem_cons_of_mem _ (List.mem_cons_of_mem _ (List.mem_cons_of_mem _ (List.mem_cons_of_mem _ (List.mem_cons_of_mem _ (List.mem_cons_of_mem _ (List.mem_cons_of_mem _ (List.mem_cons_of_mem _ (List.mem_cons_of_mem _ (List.mem_cons_of_mem _ (List.mem_cons_of_mem _ (List.mem_cons_of_mem _ (List.mem_cons_of_mem _ (List.mem_cons_of_mem _ (List.mem_cons_of_mem _ (List.mem_cons_of_mem _ (List.mem_cons_of_mem _ (List.mem_cons_of_mem _ (List.mem_cons_of_mem _ (List.mem_cons_of_mem _ (List.mem_append_right _ (List.mem_append_right _ (List.mem_append_left _ h)))))))))))))))))))))))) (fun _ _ ha hk => sn_it hk ha (fun _ => rfl))) (sm_c (sn_ow hS 12 rfl qv35 (fun _ => rfl)) (sm_c (sn_ow hS 11 rfl qv37 (fun _ => rfl)) (sm_c rfl (sm_n _))))))) pv_n)) fun b80 hb80 h => ⟨.bool b80, laws_eqTurns_w hb80 (Own.nil _) fun H hS => TV_ok rfl (TV_p rfl (TV_n rfl)), ⟨rfl, rfl, fun _ => rfl⟩, ?_⟩
      try simp only [W]
      refine w_grdT h (fun hc h => ?_) (fun hc h => ?_)
      · try simp only [W, hc]
        refine seq_n hK79 ?_
        refine w_kill ?_
        have hS : Own _ (⟨v30, 1, b22.Quanta.map (AV.int .i64)⟩ :: ⟨v32, 1, ouw nm_SInt d33 b22.Queues⟩ :: ⟨v35, 1, b22.Credit.map (AV.int .i64)⟩ :: ⟨v37, 1, b22.Sent.map (AV.int .i64)⟩ :: ⟨v42, 1, b41.Quanta.map (AV.int .i64)⟩ :: ⟨v44, 1, ouw nm_SInt d46 b41.Queues⟩ :: ⟨v47, 1, b41.Credit.map (AV.int .i64)⟩ :: ⟨v49, 1, b41.Sent.map (AV.int .i64)⟩ :: ⟨v63, 1, b55.Quanta.map (AV.int .i64)⟩ :: ⟨v65, 1, ouw nm_SInt d66 b55.Queues⟩ :: ⟨v68, 1, b55.Credit.map (AV.int .i64)⟩ :: ⟨v70, 1, b55.Sent.map (AV.int .i64)⟩ :: ⟨.ptr ip2 wp2 0 0, 5, [.agg [.fz (a0.Quanta.map (AV.int .i64)), .fz (a0.Queues.map (fzl (AV.int .i64))), .fz (a0.Credit.map (AV.int .i64)), .fz (a0.Sent.map (AV.int .i64)), .int .i64 a0.At]]⟩ :: ⟨.ptr ip38 wp38 0 0, 5, [.agg [v30, v32, v35, v37, .int .i64 b22.At]]⟩ :: ⟨.ptr ip51 wp51 0 0, 5, [.agg [v42, v44, v47, v49, .int .i64 b41.At]]⟩ :: ⟨.ptr ip71 wp71 0 0, 5, [.agg [v63, v65, v68, v70, .int .i64 b55.At]]⟩ :: ((inn np_SInt (AV.int .i64) 1 d33 b22.Queues) ++ (((inn np_SInt (AV.int .i64) 1 d46 b41.Queues) ++ (((inn np_SInt (AV.int .i64) 1 d66 b55.Queues) ++ (F))))))) := Own.catI_ (bl := [[⟨.ptr ip71 wp71 0 0, 5, [.agg [v63, v65, v68, v70, .int .i64 b55.At]]⟩], [⟨v70, 1, b55.Sent.map (AV.int .i64)⟩], [⟨v68, 1, b55.Credit.map (AV.int .i64)⟩], [⟨v65, 1, ouw nm_SInt d66 b55.Queues⟩], [⟨v63, 1, b55.Quanta.map (AV.int .i64)⟩], [⟨.ptr ip51 wp51 0 0, 5, [.agg [v42, v44, v47, v49, .int .i64 b41.At]]⟩], [⟨v42, 1, b41.Quanta.map (AV.int .i64)⟩], [⟨v44, 1, ouw nm_SInt d46 b41.Queues⟩], [⟨v47, 1, b41.Credit.map (AV.int .i64)⟩], [⟨v49, 1, b41.Sent.map (AV.int .i64)⟩], [⟨.ptr ip38 wp38 0 0, 5, [.agg [v30, v32, v35, v37, .int .i64 b22.At]]⟩], [⟨v37, 1, b22.Sent.map (AV.int .i64)⟩], [⟨v35, 1, b22.Credit.map (AV.int .i64)⟩], [⟨v32, 1, ouw nm_SInt d33 b22.Queues⟩], [⟨v30, 1, b22.Quanta.map (AV.int .i64)⟩], [⟨v12, 1, b11.Quanta.map (AV.int .i64)⟩], [⟨v14, 1, ouw nm_SInt d16 b11.Queues⟩], [⟨v17, 1, b11.Credit.map (AV.int .i64)⟩], [⟨v19, 1, b11.Sent.map (AV.int .i64)⟩], [⟨.ptr ip2 wp2 0 0, 5, [.agg [.fz (a0.Quanta.map (AV.int .i64)), .fz (a0.Queues.map (fzl (AV.int .i64))), .fz (a0.Credit.map (AV.int .i64)), .fz (a0.Sent.map (AV.int .i64)), .int .i64 a0.At]]⟩], (inn np_SInt (AV.int .i64) 1 d66 b55.Queues), (inn np_SInt (AV.int .i64) 1 d46 b41.Queues), (inn np_SInt (AV.int .i64) 1 d33 b22.Queues), (inn np_SInt (AV.int .i64) 1 d16 b11.Queues)]) (F := F) hS 24 rfl [14, 13, 12, 11, 6, 7, 8, 9, 4, 3, 2, 1, 19, 10, 5, 0, 22, 21, 20] (by decide)
        exact cut_n hK78 ⟨_, (Option.some.inj h).symm, rfl, hS⟩
      · try simp only [W, EE, hc]
        rw [b_bneq _ _ _ _ (h := rfl) rfl, resV_s]
        try simp only [W, reduceIte, Bool.false_eq_true]
        refine seq_n hK79 ?_
        refine w_kill ?_
        have hS : Own _ (⟨v30, 1, b22.Quanta.map (AV.int .i64)⟩ :: ⟨v32, 1, ouw nm_SInt d33 b22.Queues⟩ :: ⟨v35, 1, b22.Credit.map (AV.int .i64)⟩ :: ⟨v37, 1, b22.Sent.map (AV.int .i64)⟩ :: ⟨v42, 1, b41.Quanta.map (AV.int .i64)⟩ :: ⟨v44, 1, ouw nm_SInt d46 b41.Queues⟩ :: ⟨v47, 1, b41.Credit.map (AV.int .i64)⟩ :: ⟨v49, 1, b41.Sent.map (AV.int .i64)⟩ :: ⟨v63, 1, b55.Quanta.map (AV.int .i64)⟩ :: ⟨v65, 1, ouw nm_SInt d66 b55.Queues⟩ :: ⟨v68, 1, b55.Credit.map (AV.int .i64)⟩ :: ⟨v70, 1, b55.Sent.map (AV.int .i64)⟩ :: ⟨.ptr ip2 wp2 0 0, 5, [.agg [.fz (a0.Quanta.map (AV.int .i64)), .fz (a0.Queues.map (fzl (AV.int .i64))), .fz (a0.Credit.map (AV.int .i64)), .fz (a0.Sent.map (AV.int .i64)), .int .i64 a0.At]]⟩ :: ⟨.ptr ip38 wp38 0 0, 5, [.agg [v30, v32, v35, v37, .int .i64 b22.At]]⟩ :: ⟨.ptr ip51 wp51 0 0, 5, [.agg [v42, v44, v47, v49, .int .i64 b41.At]]⟩ :: ⟨.ptr ip71 wp71 0 0, 5, [.agg [v63, v65, v68, v70, .int .i64 b55.At]]⟩ :: ((inn np_SInt (AV.int .i64) 1 d33 b22.Queues) ++ (((inn np_SInt (AV.int .i64) 1 d46 b41.Queues) ++ (((inn np_SInt (AV.int .i64) 1 d66 b55.Queues) ++ (F))))))) := Own.catI_ (bl := [[⟨.ptr ip71 wp71 0 0, 5, [.agg [v63, v65, v68, v70, .int .i64 b55.At]]⟩], [⟨v70, 1, b55.Sent.map (AV.int .i64)⟩], [⟨v68, 1, b55.Credit.map (AV.int .i64)⟩], [⟨v65, 1, ouw nm_SInt d66 b55.Queues⟩], [⟨v63, 1, b55.Quanta.map (AV.int .i64)⟩], [⟨.ptr ip51 wp51 0 0, 5, [.agg [v42, v44, v47, v49, .int .i64 b41.At]]⟩], [⟨v42, 1, b41.Quanta.map (AV.int .i64)⟩], [⟨v44, 1, ouw nm_SInt d46 b41.Queues⟩], [⟨v47, 1, b41.Credit.map (AV.int .i64)⟩], [⟨v49, 1, b41.Sent.map (AV.int .i64)⟩], [⟨.ptr ip38 wp38 0 0, 5, [.agg [v30, v32, v35, v37, .int .i64 b22.At]]⟩], [⟨v37, 1, b22.Sent.map (AV.int .i64)⟩], [⟨v35, 1, b22.Credit.map (AV.int .i64)⟩], [⟨v32, 1, ouw nm_SInt d33 b22.Queues⟩], [⟨v30, 1, b22.Quanta.map (AV.int .i64)⟩], [⟨v12, 1, b11.Quanta.map (AV.int .i64)⟩], [⟨v14, 1, ouw nm_SInt d16 b11.Queues⟩], [⟨v17, 1, b11.Credit.map (AV.int .i64)⟩], [⟨v19, 1, b11.Sent.map (AV.int .i64)⟩], [⟨.ptr ip2 wp2 0 0, 5, [.agg [.fz (a0.Quanta.map (AV.int .i64)), .fz (a0.Queues.map (fzl (AV.int .i64))), .fz (a0.Credit.map (AV.int .i64)), .fz (a0.Sent.map (AV.int .i64)), .int .i64 a0.At]]⟩], (inn np_SInt (AV.int .i64) 1 d66 b55.Queues), (inn np_SInt (AV.int .i64) 1 d46 b41.Queues), (inn np_SInt (AV.int .i64) 1 d33 b22.Queues), (inn np_SInt (AV.int .i64) 1 d16 b11.Queues)]) (F := F) hS 24 rfl [14, 13, 12, 11, 6, 7, 8, 9, 4, 3, 2, 1, 19, 10, 5, 0, 22, 21, 20] (by decide)
        exact cut_n hK78 ⟨_, (Option.some.inj h).symm, rfl, hS⟩
    · obtain ⟨x75, ey, rfl, hS⟩ := hq; obtain rfl := ey.symm
      replace h := g77
      try dsimp only at h
      refine seq_n hK74 ?_
      refine w_if ?_
      simp only [W]
      refine w_cnd h (fun hc h => ?_) (fun hc h => ?_)
      · refine w_seq fun K81 hK81 => ?_
        refine w_reg gC ?_
        try simp only [W, Nat.reduceAdd]
        refine seq_n hK81 ?_
        refine w_ret ?_
        refine seq_r hK73 ?_
        refine fin_r1 hK0 rfl ?_
        try obtain rfl := Option.some.inj h
        have hS : Own _ (F) := Own.catI_ (bl := [[⟨v30, 1, b22.Quanta.map (AV.int .i64)⟩], [⟨v32, 1, ouw nm_SInt d33 b22.Queues⟩], [⟨v35, 1, b22.Credit.map (AV.int .i64)⟩], [⟨v37, 1, b22.Sent.map (AV.int .i64)⟩], [⟨v42, 1, b41.Quanta.map (AV.int .i64)⟩], [⟨v44, 1, ouw nm_SInt d46 b41.Queues⟩], [⟨v47, 1, b41.Credit.map (AV.int .i64)⟩], [⟨v49, 1, b41.Sent.map (AV.int .i64)⟩], [⟨v63, 1, b55.Quanta.map (AV.int .i64)⟩], [⟨v65, 1, ouw nm_SInt d66 b55.Queues⟩], [⟨v68, 1, b55.Credit.map (AV.int .i64)⟩], [⟨v70, 1, b55.Sent.map (AV.int .i64)⟩], [⟨.ptr ip2 wp2 0 0, 5, [.agg [.fz (a0.Quanta.map (AV.int .i64)), .fz (a0.Queues.map (fzl (AV.int .i64))), .fz (a0.Credit.map (AV.int .i64)), .fz (a0.Sent.map (AV.int .i64)), .int .i64 a0.At]]⟩], [⟨.ptr ip38 wp38 0 0, 5, [.agg [v30, v32, v35, v37, .int .i64 b22.At]]⟩], [⟨.ptr ip51 wp51 0 0, 5, [.agg [v42, v44, v47, v49, .int .i64 b41.At]]⟩], [⟨.ptr ip71 wp71 0 0, 5, [.agg [v63, v65, v68, v70, .int .i64 b55.At]]⟩], (inn np_SInt (AV.int .i64) 1 d33 b22.Queues), (inn np_SInt (AV.int .i64) 1 d46 b41.Queues), (inn np_SInt (AV.int .i64) 1 d66 b55.Queues)]) (F := F) hS 19 rfl [] (by decide)
        exact hP _ hS
      · refine w_skip ?_
        refine seq_n hK73 ?_
        refine w_seq fun K82 hK82 => ?_
        refine w_seq fun K83 hK83 => ?_
        refine w_draw0 gC (by kernel_rfl) ?_
        try simp only [W, EE, reduceIte, Nat.reduceAdd, Nat.reduceLeDiff, hS.var 12 rfl, hS.var 14 rfl]
        refine w_callF (rsh := [[.sl [.sc], .sl [.sl [.sc]], .sl [.sc], .sl [.sc], .sc]]) (ys := [.agg [.fz (a0.Quanta.map (AV.int .i64)), .fz (a0.Queues.map (fzl (AV.int .i64))), .fz (a0.Credit.map (AV.int .i64)), .fz (a0.Sent.map (AV.int .i64)), .int .i64 a0.At]]) h rfl (by rfl) fun b84 hb84 h => ⟨.agg [.own 1 (b84.Quanta.map (AV.int .i64)), .own 1 (b84.Queues.map nd_SInt), .own 1 (b84.Credit.map (AV.int .i64)), .own 1 (b84.Sent.map (AV.int .i64)), .int .i64 b84.At], laws_toTurns_w hb84 (Own.nil _) fun v85 qv85 v86 qv86 d87 qd87 v88 qv88 v89 qv89 H hS => TV_ok rfl (TV_a (TC_ow 0 hS rfl qv85 (fun _ _ => by simp [takeE, takeT, plainA]) fun H hS => TC_owN (d := nd_SInt) (Own.catI_ (bl := [[⟨v86, 1, ouw nm_SInt d87 b84.Queues⟩], [⟨v88, 1, b84.Credit.map (AV.int .i64)⟩], [⟨v89, 1, b84.Sent.map (AV.int .i64)⟩], (inn np_SInt (AV.int .i64) 1 d87 b84.Queues)]) (F := []) hS 4 rfl [0, 3, 1, 2] (by decide)) qv86 qd87 nt_SInt fun H hS => TC_ow 0 hS rfl qv88 (fun _ _ => by simp [takeE, takeT, plainA]) fun H hS => TC_ow 0 hS rfl qv89 (fun _ _ => by simp [takeE, takeT, plainA]) fun H hS => TC_sc rfl (TC_nil (TV_n rfl)))), ?_⟩
        simp only [W, frzL_map (c := (AV.int .i64)) (fun _ => rfl), frzL_mapN nz_SInt]
        try simp only [W, EE, EN, reduceIte, Nat.reduceAdd, Nat.reduceLeDiff, Nat.reduceBEq, Nat.reduceMul, Bool.false_eq_true]
        have hS : Own _ (⟨v30, 1, b22.Quanta.map (AV.int .i64)⟩ :: ⟨v32, 1, ouw nm_SInt d33 b22.Queues⟩ :: ⟨v35, 1, b22.Credit.map (AV.int .i64)⟩ :: ⟨v37, 1, b22.Sent.map (AV.int .i64)⟩ :: ⟨v42, 1, b41.Quanta.map (AV.int .i64)⟩ :: ⟨v44, 1, ouw nm_SInt d46 b41.Queues⟩ :: ⟨v47, 1, b41.Credit.map (AV.int .i64)⟩ :: ⟨v49, 1, b41.Sent.map (AV.int .i64)⟩ :: ⟨v63, 1, b55.Quanta.map (AV.int .i64)⟩ :: ⟨v65, 1, ouw nm_SInt d66 b55.Queues⟩ :: ⟨v68, 1, b55.Credit.map (AV.int .i64)⟩ :: ⟨v70, 1, b55.Sent.map (AV.int .i64)⟩ :: ⟨.ptr ip2 wp2 0 0, 5, [.agg [.fz (a0.Quanta.map (AV.int .i64)), .fz (a0.Queues.map (fzl (AV.int .i64))), .fz (a0.Credit.map (AV.int .i64)), .fz (a0.Sent.map (AV.int .i64)), .int .i64 a0.At]]⟩ :: ⟨.ptr ip38 wp38 0 0, 5, [.agg [v30, v32, v35, v37, .int .i64 b22.At]]⟩ :: ⟨.ptr ip51 wp51 0 0, 5, [.agg [v42, v44, v47, v49, .int .i64 b41.At]]⟩ :: ⟨.ptr ip71 wp71 0 0, 5, [.agg [v63, v65, v68, v70, .int .i64 b55.At]]⟩ :: ((inn np_SInt (AV.int .i64) 1 d33 b22.Queues) ++ ((inn np_SInt (AV.int .i64) 1 d46 b41.Queues) ++ ((inn np_SInt (AV.int .i64) 1 d66 b55.Queues) ++ F)))) := hS
        refine w_callS (rsh := [[.sc]]) (ys := [.agg [.fz (b41.Quanta.map (AV.int .i64)), .fz (b41.Queues.map (fzl (AV.int .i64))), .fz (b41.Credit.map (AV.int .i64)), .fz (b41.Sent.map (AV.int .i64)), .int .i64 b41.At], .agg [.fz (b84.Quanta.map (AV.int .i64)), .fz (b84.Queues.map (fzl (AV.int .i64))), .fz (b84.Credit.map (AV.int .i64)), .fz (b84.Sent.map (AV.int .i64)), .int .i64 b84.At]]) h rfl (pv_c (sn_agg (sm_c (sn_ow hS 4 rfl qv42 (fun _ => rfl)) (sm_c (sn_owN (enc := (fzl (AV.int .i64))) hS 5 rfl qv44 qd46 (fun _ h => (List.mem_cons_of_mem _ (List.mem_cons_of_mem _ (List.mem_cons_of_mem _ (List.mem_cons_of_mem _ (List.mem_cons_of_mem _ (List.mem_cons_of_mem _ (List.mem_cons_of_mem _ (List.mem_cons_of_mem _ (List.mem_cons_of_mem _ (List.mem_cons_of_mem _ (List.mem_cons_of_mem _ (List.mem_cons_of_mem _ (List.mem_cons_of_mem _ (List.mem_cons_of_mem _ (List.mem_cons_of_mem _ (List.mem_cons_of_mem _ (List.mem_append_right _ (List.mem_append_left _ h))))))))))))))))))) (fun _ _ ha hk => sn_it hk ha (fun _ => rfl))) (sm_c (sn_ow hS 6 rfl qv47 (fun _ => rfl)) (sm_c (sn_ow hS 7 rfl qv49 (fun _ => rfl)) (sm_c rfl (sm_n _))))))) (pv_c rfl pv_n)) fun b90 hb90 h => ⟨.bool b90, laws_eqTurns_w hb90 (Own.nil _) fun H hS => TV_ok rfl (TV_p rfl (TV_n rfl)), ⟨rfl, rfl, fun _ => rfl⟩, ?_⟩
        try simp only [W]
        refine seq_n hK83 ?_
        refine w_if ?_
        simp only [W]
        refine w_cnd h (fun hc h => ?_) (fun hc h => ?_)
        · refine w_seq fun K91 hK91 => ?_
          refine w_reg gC ?_
          try simp only [W, Nat.reduceAdd]
          refine seq_n hK91 ?_
          refine w_ret ?_
          refine seq_r hK82 ?_
          refine fin_r1 hK0 rfl ?_
          try obtain rfl := Option.some.inj h
          have hS : Own _ (F) := Own.catI_ (bl := [[⟨v30, 1, b22.Quanta.map (AV.int .i64)⟩], [⟨v32, 1, ouw nm_SInt d33 b22.Queues⟩], [⟨v35, 1, b22.Credit.map (AV.int .i64)⟩], [⟨v37, 1, b22.Sent.map (AV.int .i64)⟩], [⟨v42, 1, b41.Quanta.map (AV.int .i64)⟩], [⟨v44, 1, ouw nm_SInt d46 b41.Queues⟩], [⟨v47, 1, b41.Credit.map (AV.int .i64)⟩], [⟨v49, 1, b41.Sent.map (AV.int .i64)⟩], [⟨v63, 1, b55.Quanta.map (AV.int .i64)⟩], [⟨v65, 1, ouw nm_SInt d66 b55.Queues⟩], [⟨v68, 1, b55.Credit.map (AV.int .i64)⟩], [⟨v70, 1, b55.Sent.map (AV.int .i64)⟩], [⟨.ptr ip2 wp2 0 0, 5, [.agg [.fz (a0.Quanta.map (AV.int .i64)), .fz (a0.Queues.map (fzl (AV.int .i64))), .fz (a0.Credit.map (AV.int .i64)), .fz (a0.Sent.map (AV.int .i64)), .int .i64 a0.At]]⟩], [⟨.ptr ip38 wp38 0 0, 5, [.agg [v30, v32, v35, v37, .int .i64 b22.At]]⟩], [⟨.ptr ip51 wp51 0 0, 5, [.agg [v42, v44, v47, v49, .int .i64 b41.At]]⟩], [⟨.ptr ip71 wp71 0 0, 5, [.agg [v63, v65, v68, v70, .int .i64 b55.At]]⟩], (inn np_SInt (AV.int .i64) 1 d33 b22.Queues), (inn np_SInt (AV.int .i64) 1 d46 b41.Queues), (inn np_SInt (AV.int .i64) 1 d66 b55.Queues)]) (F := F) hS 19 rfl [] (by decide)
          exact hP _ hS
        · refine w_skip ?_
          refine seq_n hK82 ?_
          refine w_seq fun K92 hK92 => ?_
          refine w_reg gC ?_
          try simp only [W, Nat.reduceAdd]
          refine seq_n hK92 ?_
          refine w_seq fun K93 hK93 => ?_
          refine w_reg gC ?_
          try simp only [W, EE, reduceIte, Nat.reduceAdd, Nat.reduceLeDiff, hS.var 14 rfl]
          have hS : Own _ (⟨v42, 1, b41.Quanta.map (AV.int .i64)⟩ :: ⟨v44, 1, ouw nm_SInt d46 b41.Queues⟩ :: ⟨v47, 1, b41.Credit.map (AV.int .i64)⟩ :: ⟨v49, 1, b41.Sent.map (AV.int .i64)⟩ :: ((inn np_SInt (AV.int .i64) 1 d46 b41.Queues) ++ (⟨v30, 1, b22.Quanta.map (AV.int .i64)⟩ :: ⟨v32, 1, ouw nm_SInt d33 b22.Queues⟩ :: ⟨v35, 1, b22.Credit.map (AV.int .i64)⟩ :: ⟨v37, 1, b22.Sent.map (AV.int .i64)⟩ :: ⟨v63, 1, b55.Quanta.map (AV.int .i64)⟩ :: ⟨v65, 1, ouw nm_SInt d66 b55.Queues⟩ :: ⟨v68, 1, b55.Credit.map (AV.int .i64)⟩ :: ⟨v70, 1, b55.Sent.map (AV.int .i64)⟩ :: ⟨.ptr ip2 wp2 0 0, 5, [.agg [.fz (a0.Quanta.map (AV.int .i64)), .fz (a0.Queues.map (fzl (AV.int .i64))), .fz (a0.Credit.map (AV.int .i64)), .fz (a0.Sent.map (AV.int .i64)), .int .i64 a0.At]]⟩ :: ⟨.ptr ip38 wp38 0 0, 5, [.agg [v30, v32, v35, v37, .int .i64 b22.At]]⟩ :: ⟨.ptr ip51 wp51 0 0, 5, [.agg [v42, v44, v47, v49, .int .i64 b41.At]]⟩ :: ⟨.ptr ip71 wp71 0 0, 5, [.agg [v63, v65, v68, v70, .int .i64 b55.At]]⟩ :: ((inn np_SInt (AV.int .i64) 1 d33 b22.Queues) ++ (((inn np_SInt (AV.int .i64) 1 d66 b55.Queues) ++ (F))))))) := Own.catI_ (bl := [[⟨v30, 1, b22.Quanta.map (AV.int .i64)⟩], [⟨v32, 1, ouw nm_SInt d33 b22.Queues⟩], [⟨v35, 1, b22.Credit.map (AV.int .i64)⟩], [⟨v37, 1, b22.Sent.map (AV.int .i64)⟩], [⟨v42, 1, b41.Quanta.map (AV.int .i64)⟩], [⟨v44, 1, ouw nm_SInt d46 b41.Queues⟩], [⟨v47, 1, b41.Credit.map (AV.int .i64)⟩], [⟨v49, 1, b41.Sent.map (AV.int .i64)⟩], [⟨v63, 1, b55.Quanta.map (AV.int .i64)⟩], [⟨v65, 1, ouw nm_SInt d66 b55.Queues⟩], [⟨v68, 1, b55.Credit.map (AV.int .i64)⟩], [⟨v70, 1, b55.Sent.map (AV.int .i64)⟩], [⟨.ptr ip2 wp2 0 0, 5, [.agg [.fz (a0.Quanta.map (AV.int .i64)), .fz (a0.Queues.map (fzl (AV.int .i64))), .fz (a0.Credit.map (AV.int .i64)), .fz (a0.Sent.map (AV.int .i64)), .int .i64 a0.At]]⟩], [⟨.ptr ip38 wp38 0 0, 5, [.agg [v30, v32, v35, v37, .int .i64 b22.At]]⟩], [⟨.ptr ip51 wp51 0 0, 5, [.agg [v42, v44, v47, v49, .int .i64 b41.At]]⟩], [⟨.ptr ip71 wp71 0 0, 5, [.agg [v63, v65, v68, v70, .int .i64 b55.At]]⟩], (inn np_SInt (AV.int .i64) 1 d33 b22.Queues), (inn np_SInt (AV.int .i64) 1 d46 b41.Queues), (inn np_SInt (AV.int .i64) 1 d66 b55.Queues)]) (F := F) hS 19 rfl [4, 5, 6, 7, 17, 0, 1, 2, 3, 8, 9, 10, 11, 12, 13, 14, 15, 16, 18] (by decide)
          refine w_call h fun b94 hb94 h => ?_
          obtain ⟨b95, b96, b97, b98, b99⟩ := b94
          try dsimp only at h
          refine laws_markTurns_w hb94 hS qv42 qv44 qd46 qv47 qv49 fun d100 qd100 H hS => ?_
          have hS : Own _ (⟨v42, 1, b96.map (AV.int .i64)⟩ :: ⟨v44, 1, ouw nm_SInt d100 b97⟩ :: ⟨v47, 1, b98.map (AV.int .i64)⟩ :: ⟨v49, 1, b99.map (AV.int .i64)⟩ :: ⟨v30, 1, b22.Quanta.map (AV.int .i64)⟩ :: ⟨v32, 1, ouw nm_SInt d33 b22.Queues⟩ :: ⟨v35, 1, b22.Credit.map (AV.int .i64)⟩ :: ⟨v37, 1, b22.Sent.map (AV.int .i64)⟩ :: ⟨v63, 1, b55.Quanta.map (AV.int .i64)⟩ :: ⟨v65, 1, ouw nm_SInt d66 b55.Queues⟩ :: ⟨v68, 1, b55.Credit.map (AV.int .i64)⟩ :: ⟨v70, 1, b55.Sent.map (AV.int .i64)⟩ :: ⟨.ptr ip2 wp2 0 0, 5, [.agg [.fz (a0.Quanta.map (AV.int .i64)), .fz (a0.Queues.map (fzl (AV.int .i64))), .fz (a0.Credit.map (AV.int .i64)), .fz (a0.Sent.map (AV.int .i64)), .int .i64 a0.At]]⟩ :: ⟨.ptr ip38 wp38 0 0, 5, [.agg [v30, v32, v35, v37, .int .i64 b22.At]]⟩ :: ⟨.ptr ip51 wp51 0 0, 5, [.agg [v42, v44, v47, v49, .int .i64 b41.At]]⟩ :: ⟨.ptr ip71 wp71 0 0, 5, [.agg [v63, v65, v68, v70, .int .i64 b55.At]]⟩ :: ((inn np_SInt (AV.int .i64) 1 d100 b97) ++ (((inn np_SInt (AV.int .i64) 1 d33 b22.Queues) ++ (((inn np_SInt (AV.int .i64) 1 d66 b55.Queues) ++ (F))))))) := Own.catI_ (bl := [[⟨v42, 1, b96.map (AV.int .i64)⟩], [⟨v44, 1, ouw nm_SInt d100 b97⟩], [⟨v47, 1, b98.map (AV.int .i64)⟩], [⟨v49, 1, b99.map (AV.int .i64)⟩], (inn np_SInt (AV.int .i64) 1 d100 b97), [⟨v30, 1, b22.Quanta.map (AV.int .i64)⟩], [⟨v32, 1, ouw nm_SInt d33 b22.Queues⟩], [⟨v35, 1, b22.Credit.map (AV.int .i64)⟩], [⟨v37, 1, b22.Sent.map (AV.int .i64)⟩], [⟨v63, 1, b55.Quanta.map (AV.int .i64)⟩], [⟨v65, 1, ouw nm_SInt d66 b55.Queues⟩], [⟨v68, 1, b55.Credit.map (AV.int .i64)⟩], [⟨v70, 1, b55.Sent.map (AV.int .i64)⟩], [⟨.ptr ip2 wp2 0 0, 5, [.agg [.fz (a0.Quanta.map (AV.int .i64)), .fz (a0.Queues.map (fzl (AV.int .i64))), .fz (a0.Credit.map (AV.int .i64)), .fz (a0.Sent.map (AV.int .i64)), .int .i64 a0.At]]⟩], [⟨.ptr ip38 wp38 0 0, 5, [.agg [v30, v32, v35, v37, .int .i64 b22.At]]⟩], [⟨.ptr ip51 wp51 0 0, 5, [.agg [v42, v44, v47, v49, .int .i64 b41.At]]⟩], [⟨.ptr ip71 wp71 0 0, 5, [.agg [v63, v65, v68, v70, .int .i64 b55.At]]⟩], (inn np_SInt (AV.int .i64) 1 d33 b22.Queues), (inn np_SInt (AV.int .i64) 1 d66 b55.Queues)]) (F := F) hS 19 rfl [0, 1, 2, 3, 5, 6, 7, 8, 9, 10, 11, 12, 13, 14, 15, 16, 4, 17, 18] (by decide)
          try simp only [W]
          refine seq_n hK93 ?_
          refine w_seq fun K101 hK101 => ?_
          refine w_seq fun K102 hK102 => ?_
          obtain ⟨y104, h, g105⟩ := Option.bind_eq_some_iff.1 h
          refine w_join gC (fun s H => ∃ x103 : Bool, y104 = (x103) ∧ s = (u :: .int .i64 a1 :: .int .i64 a2 :: .ptr ip2 wp2 0 0 :: u :: u :: u :: u :: .ptr ip38 wp38 0 0 :: .bool b23 :: u :: .ptr ip71 wp71 0 0 :: u :: u :: u :: u :: u :: u :: u :: u :: u :: u :: u :: u :: u :: u :: u :: u :: u :: u :: u :: u :: u :: u :: u :: u :: u :: u :: u :: u :: u :: u :: u :: u :: u :: u :: u :: u :: u :: u :: u :: u :: u :: u :: u :: u :: u :: u :: u :: u :: u :: u :: u :: u :: u :: u :: u :: u :: u :: .bool x103 :: u :: u :: u :: u :: u :: u :: u :: u :: u :: u :: u :: u :: u :: u :: u :: u :: u :: u :: u :: u :: u :: u :: u :: u :: u :: u :: u :: u :: u :: u :: u :: u :: u :: u :: u :: u :: []) ∧ Own H (⟨v30, 1, b22.Quanta.map (AV.int .i64)⟩ :: ⟨v32, 1, ouw nm_SInt d33 b22.Queues⟩ :: ⟨v35, 1, b22.Credit.map (AV.int .i64)⟩ :: ⟨v37, 1, b22.Sent.map (AV.int .i64)⟩ :: ⟨v63, 1, b55.Quanta.map (AV.int .i64)⟩ :: ⟨v65, 1, ouw nm_SInt d66 b55.Queues⟩ :: ⟨v68, 1, b55.Credit.map (AV.int .i64)⟩ :: ⟨v70, 1, b55.Sent.map (AV.int .i64)⟩ :: ⟨.ptr ip2 wp2 0 0, 5, [.agg [.fz (a0.Quanta.map (AV.int .i64)), .fz (a0.Queues.map (fzl (AV.int .i64))), .fz (a0.Credit.map (AV.int .i64)), .fz (a0.Sent.map (AV.int .i64)), .int .i64 a0.At]]⟩ :: ⟨.ptr ip38 wp38 0 0, 5, [.agg [v30, v32, v35, v37, .int .i64 b22.At]]⟩ :: ⟨.ptr ip71 wp71 0 0, 5, [.agg [v63, v65, v68, v70, .int .i64 b55.At]]⟩ :: ((inn np_SInt (AV.int .i64) 1 d33 b22.Queues) ++ ((inn np_SInt (AV.int .i64) 1 d66 b55.Queues) ++ F)))) (fun K106 hK106 => ?_) (fun s H hq => ?_)
          · refine w_seq fun K107 hK107 => ?_
            refine w_reg gC ?_
            try simp only [W, EE, Nat.reduceAdd]
            refine w_grdT h (fun hc h => ?_) (fun hc h => ?_)
            · try simp only [W, hc]
              refine seq_n hK107 ?_
              refine w_kill ?_
              have hS : Own _ (⟨v30, 1, b22.Quanta.map (AV.int .i64)⟩ :: ⟨v32, 1, ouw nm_SInt d33 b22.Queues⟩ :: ⟨v35, 1, b22.Credit.map (AV.int .i64)⟩ :: ⟨v37, 1, b22.Sent.map (AV.int .i64)⟩ :: ⟨v63, 1, b55.Quanta.map (AV.int .i64)⟩ :: ⟨v65, 1, ouw nm_SInt d66 b55.Queues⟩ :: ⟨v68, 1, b55.Credit.map (AV.int .i64)⟩ :: ⟨v70, 1, b55.Sent.map (AV.int .i64)⟩ :: ⟨.ptr ip2 wp2 0 0, 5, [.agg [.fz (a0.Quanta.map (AV.int .i64)), .fz (a0.Queues.map (fzl (AV.int .i64))), .fz (a0.Credit.map (AV.int .i64)), .fz (a0.Sent.map (AV.int .i64)), .int .i64 a0.At]]⟩ :: ⟨.ptr ip38 wp38 0 0, 5, [.agg [v30, v32, v35, v37, .int .i64 b22.At]]⟩ :: ⟨.ptr ip71 wp71 0 0, 5, [.agg [v63, v65, v68, v70, .int .i64 b55.At]]⟩ :: ((inn np_SInt (AV.int .i64) 1 d33 b22.Queues) ++ (((inn np_SInt (AV.int .i64) 1 d66 b55.Queues) ++ (F))))) := Own.catI_ (bl := [[⟨v42, 1, b96.map (AV.int .i64)⟩], [⟨v44, 1, ouw nm_SInt d100 b97⟩], [⟨v47, 1, b98.map (AV.int .i64)⟩], [⟨v49, 1, b99.map (AV.int .i64)⟩], [⟨v30, 1, b22.Quanta.map (AV.int .i64)⟩], [⟨v32, 1, ouw nm_SInt d33 b22.Queues⟩], [⟨v35, 1, b22.Credit.map (AV.int .i64)⟩], [⟨v37, 1, b22.Sent.map (AV.int .i64)⟩], [⟨v63, 1, b55.Quanta.map (AV.int .i64)⟩], [⟨v65, 1, ouw nm_SInt d66 b55.Queues⟩], [⟨v68, 1, b55.Credit.map (AV.int .i64)⟩], [⟨v70, 1, b55.Sent.map (AV.int .i64)⟩], [⟨.ptr ip2 wp2 0 0, 5, [.agg [.fz (a0.Quanta.map (AV.int .i64)), .fz (a0.Queues.map (fzl (AV.int .i64))), .fz (a0.Credit.map (AV.int .i64)), .fz (a0.Sent.map (AV.int .i64)), .int .i64 a0.At]]⟩], [⟨.ptr ip38 wp38 0 0, 5, [.agg [v30, v32, v35, v37, .int .i64 b22.At]]⟩], [⟨.ptr ip51 wp51 0 0, 5, [.agg [v42, v44, v47, v49, .int .i64 b41.At]]⟩], [⟨.ptr ip71 wp71 0 0, 5, [.agg [v63, v65, v68, v70, .int .i64 b55.At]]⟩], (inn np_SInt (AV.int .i64) 1 d100 b97), (inn np_SInt (AV.int .i64) 1 d33 b22.Queues), (inn np_SInt (AV.int .i64) 1 d66 b55.Queues)]) (F := F) hS 19 rfl [4, 5, 6, 7, 8, 9, 10, 11, 12, 13, 15, 17, 18] (by decide)
              exact cut_n hK106 ⟨_, (Option.some.inj h).symm, rfl, hS⟩
            · try simp only [W, EE, reduceIte, Nat.reduceAdd, Nat.reduceLeDiff, hS.var 13 rfl, hS.var 15 rfl, hc]
              have hS : Own _ (⟨v42, 1, b96.map (AV.int .i64)⟩ :: ⟨v44, 1, ouw nm_SInt d100 b97⟩ :: ⟨v47, 1, b98.map (AV.int .i64)⟩ :: ⟨v49, 1, b99.map (AV.int .i64)⟩ :: ⟨v30, 1, b22.Quanta.map (AV.int .i64)⟩ :: ⟨v32, 1, ouw nm_SInt d33 b22.Queues⟩ :: ⟨v35, 1, b22.Credit.map (AV.int .i64)⟩ :: ⟨v37, 1, b22.Sent.map (AV.int .i64)⟩ :: ⟨v63, 1, b55.Quanta.map (AV.int .i64)⟩ :: ⟨v65, 1, ouw nm_SInt d66 b55.Queues⟩ :: ⟨v68, 1, b55.Credit.map (AV.int .i64)⟩ :: ⟨v70, 1, b55.Sent.map (AV.int .i64)⟩ :: ⟨.ptr ip2 wp2 0 0, 5, [.agg [.fz (a0.Quanta.map (AV.int .i64)), .fz (a0.Queues.map (fzl (AV.int .i64))), .fz (a0.Credit.map (AV.int .i64)), .fz (a0.Sent.map (AV.int .i64)), .int .i64 a0.At]]⟩ :: ⟨.ptr ip38 wp38 0 0, 5, [.agg [v30, v32, v35, v37, .int .i64 b22.At]]⟩ :: ⟨.ptr ip51 wp51 0 0, 5, [.agg [v42, v44, v47, v49, .int .i64 b41.At]]⟩ :: ⟨.ptr ip71 wp71 0 0, 5, [.agg [v63, v65, v68, v70, .int .i64 b55.At]]⟩ :: ((inn np_SInt (AV.int .i64) 1 d100 b97) ++ ((inn np_SInt (AV.int .i64) 1 d33 b22.Queues) ++ ((inn np_SInt (AV.int .i64) 1 d66 b55.Queues) ++ F)))) := hS
              refine w_callS (rsh := [[.sc]]) (ys := [.agg [.fz (b55.Quanta.map (AV.int .i64)), .fz (b55.Queues.map (fzl (AV.int .i64))), .fz (b55.Credit.map (AV.int .i64)), .fz (b55.Sent.map (AV.int .i64)), .int .i64 b55.At], .agg [.fz (b22.Quanta.map (AV.int .i64)), .fz (b22.Queues.map (fzl (AV.int .i64))), .fz (b22.Credit.map (AV.int .i64)), .fz (b22.Sent.map (AV.int .i64)), .int .i64 b22.At]]) h rfl (pv_c (sn_agg (sm_c (sn_ow hS 8 rfl qv63 (fun _ => rfl)) (sm_c (sn_owN (enc := (fzl (AV.int .i64))) hS 9 rfl qv65 qd66 (fun _ h => (List.mem_cons_of_mem _ (List.mem_cons_of_mem _ (List.mem_cons_of_mem _ (List.mem_cons_of_mem _ (List.mem_cons_of_mem _ (List.mem_cons_of_mem _ (List.mem_cons_of_mem _ (List.mem_cons_of_mem _ (List.mem_cons_of_mem _ (List.mem_cons_of_mem _ (List.mem_cons_of_mem _ (List.mem_cons_of_mem _ (List.mem_cons_of_mem _ (List.mem_cons_of_mem _ (List.mem_cons_of_mem _ (List.mem_cons_of_mem _ (List.mem_append_right _ (List.mem_append_right _ (List.mem_append_left _ h)))))))))))))))))))) (fun _ _ ha hk => sn_it hk ha (fun _ => rfl))) (sm_c (sn_ow hS 10 rfl qv68 (fun _ => rfl)) (sm_c (sn_ow hS 11 rfl qv70 (fun _ => rfl)) (sm_c rfl (sm_n _))))))) (pv_c (sn_agg (sm_c (sn_ow hS 4 rfl qv30 (fun _ => rfl)) (sm_c (sn_owN (enc := (fzl (AV.int .i64))) hS 5 rfl qv32 qd33 (fun _ h => (List.mem_cons_of_mem _ (List.mem_cons_of_mem _ (List.mem_cons_of_mem _ (List.mem_cons_of_mem _ (List.mem_cons_of_mem _ (List.mem_cons_of_mem _ (List.mem_cons_of_mem _ (List.mem_cons_of_mem _ (List.mem_cons_of_mem _ (List.mem_cons_of_mem _ (List.mem_cons_of_mem _ (List.mem_cons_of_mem _ (List.mem_cons_of_mem _ (List.mem_cons_of_mem _ (List.mem_cons_of_mem _ (List.mem_cons_of_mem _ (List.mem_append_right _ (List.mem_append_left _ h))))))))))))))))))) (fun _ _ ha hk => sn_it hk ha (fun _ => rfl))) (sm_c (sn_ow hS 6 rfl qv35 (fun _ => rfl)) (sm_c (sn_ow hS 7 rfl qv37 (fun _ => rfl)) (sm_c rfl (sm_n _))))))) pv_n)) fun b108 hb108 h => ⟨.bool b108, laws_eqTurns_w hb108 (Own.nil _) fun H hS => TV_ok rfl (TV_p rfl (TV_n rfl)), ⟨rfl, rfl, fun _ => rfl⟩, ?_⟩
              try simp only [W, reduceIte, Bool.false_eq_true]
              refine w_grdT h (fun hc h => ?_) (fun hc h => ?_)
              · try simp only [W, hc]
                refine seq_n hK107 ?_
                refine w_kill ?_
                have hS : Own _ (⟨v30, 1, b22.Quanta.map (AV.int .i64)⟩ :: ⟨v32, 1, ouw nm_SInt d33 b22.Queues⟩ :: ⟨v35, 1, b22.Credit.map (AV.int .i64)⟩ :: ⟨v37, 1, b22.Sent.map (AV.int .i64)⟩ :: ⟨v63, 1, b55.Quanta.map (AV.int .i64)⟩ :: ⟨v65, 1, ouw nm_SInt d66 b55.Queues⟩ :: ⟨v68, 1, b55.Credit.map (AV.int .i64)⟩ :: ⟨v70, 1, b55.Sent.map (AV.int .i64)⟩ :: ⟨.ptr ip2 wp2 0 0, 5, [.agg [.fz (a0.Quanta.map (AV.int .i64)), .fz (a0.Queues.map (fzl (AV.int .i64))), .fz (a0.Credit.map (AV.int .i64)), .fz (a0.Sent.map (AV.int .i64)), .int .i64 a0.At]]⟩ :: ⟨.ptr ip38 wp38 0 0, 5, [.agg [v30, v32, v35, v37, .int .i64 b22.At]]⟩ :: ⟨.ptr ip71 wp71 0 0, 5, [.agg [v63, v65, v68, v70, .int .i64 b55.At]]⟩ :: ((inn np_SInt (AV.int .i64) 1 d33 b22.Queues) ++ (((inn np_SInt (AV.int .i64) 1 d66 b55.Queues) ++ (F))))) := Own.catI_ (bl := [[⟨v42, 1, b96.map (AV.int .i64)⟩], [⟨v44, 1, ouw nm_SInt d100 b97⟩], [⟨v47, 1, b98.map (AV.int .i64)⟩], [⟨v49, 1, b99.map (AV.int .i64)⟩], [⟨v30, 1, b22.Quanta.map (AV.int .i64)⟩], [⟨v32, 1, ouw nm_SInt d33 b22.Queues⟩], [⟨v35, 1, b22.Credit.map (AV.int .i64)⟩], [⟨v37, 1, b22.Sent.map (AV.int .i64)⟩], [⟨v63, 1, b55.Quanta.map (AV.int .i64)⟩], [⟨v65, 1, ouw nm_SInt d66 b55.Queues⟩], [⟨v68, 1, b55.Credit.map (AV.int .i64)⟩], [⟨v70, 1, b55.Sent.map (AV.int .i64)⟩], [⟨.ptr ip2 wp2 0 0, 5, [.agg [.fz (a0.Quanta.map (AV.int .i64)), .fz (a0.Queues.map (fzl (AV.int .i64))), .fz (a0.Credit.map (AV.int .i64)), .fz (a0.Sent.map (AV.int .i64)), .int .i64 a0.At]]⟩], [⟨.ptr ip38 wp38 0 0, 5, [.agg [v30, v32, v35, v37, .int .i64 b22.At]]⟩], [⟨.ptr ip51 wp51 0 0, 5, [.agg [v42, v44, v47, v49, .int .i64 b41.At]]⟩], [⟨.ptr ip71 wp71 0 0, 5, [.agg [v63, v65, v68, v70, .int .i64 b55.At]]⟩], (inn np_SInt (AV.int .i64) 1 d100 b97), (inn np_SInt (AV.int .i64) 1 d33 b22.Queues), (inn np_SInt (AV.int .i64) 1 d66 b55.Queues)]) (F := F) hS 19 rfl [4, 5, 6, 7, 8, 9, 10, 11, 12, 13, 15, 17, 18] (by decide)
                exact cut_n hK106 ⟨_, (Option.some.inj h).symm, rfl, hS⟩
              · try simp only [W, EE, hc]
                rw [b_bneq _ _ _ _ (h := rfl) rfl, resV_s]
                try simp only [W, reduceIte, Bool.false_eq_true]
                refine seq_n hK107 ?_
                refine w_kill ?_
                have hS : Own _ (⟨v30, 1, b22.Quanta.map (AV.int .i64)⟩ :: ⟨v32, 1, ouw nm_SInt d33 b22.Queues⟩ :: ⟨v35, 1, b22.Credit.map (AV.int .i64)⟩ :: ⟨v37, 1, b22.Sent.map (AV.int .i64)⟩ :: ⟨v63, 1, b55.Quanta.map (AV.int .i64)⟩ :: ⟨v65, 1, ouw nm_SInt d66 b55.Queues⟩ :: ⟨v68, 1, b55.Credit.map (AV.int .i64)⟩ :: ⟨v70, 1, b55.Sent.map (AV.int .i64)⟩ :: ⟨.ptr ip2 wp2 0 0, 5, [.agg [.fz (a0.Quanta.map (AV.int .i64)), .fz (a0.Queues.map (fzl (AV.int .i64))), .fz (a0.Credit.map (AV.int .i64)), .fz (a0.Sent.map (AV.int .i64)), .int .i64 a0.At]]⟩ :: ⟨.ptr ip38 wp38 0 0, 5, [.agg [v30, v32, v35, v37, .int .i64 b22.At]]⟩ :: ⟨.ptr ip71 wp71 0 0, 5, [.agg [v63, v65, v68, v70, .int .i64 b55.At]]⟩ :: ((inn np_SInt (AV.int .i64) 1 d33 b22.Queues) ++ (((inn np_SInt (AV.int .i64) 1 d66 b55.Queues) ++ (F))))) := Own.catI_ (bl := [[⟨v42, 1, b96.map (AV.int .i64)⟩], [⟨v44, 1, ouw nm_SInt d100 b97⟩], [⟨v47, 1, b98.map (AV.int .i64)⟩], [⟨v49, 1, b99.map (AV.int .i64)⟩], [⟨v30, 1, b22.Quanta.map (AV.int .i64)⟩], [⟨v32, 1, ouw nm_SInt d33 b22.Queues⟩], [⟨v35, 1, b22.Credit.map (AV.int .i64)⟩], [⟨v37, 1, b22.Sent.map (AV.int .i64)⟩], [⟨v63, 1, b55.Quanta.map (AV.int .i64)⟩], [⟨v65, 1, ouw nm_SInt d66 b55.Queues⟩], [⟨v68, 1, b55.Credit.map (AV.int .i64)⟩], [⟨v70, 1, b55.Sent.map (AV.int .i64)⟩], [⟨.ptr ip2 wp2 0 0, 5, [.agg [.fz (a0.Quanta.map (AV.int .i64)), .fz (a0.Queues.map (fzl (AV.int .i64))), .fz (a0.Credit.map (AV.int .i64)), .fz (a0.Sent.map (AV.int .i64)), .int .i64 a0.At]]⟩], [⟨.ptr ip38 wp38 0 0, 5, [.agg [v30, v32, v35, v37, .int .i64 b22.At]]⟩], [⟨.ptr ip51 wp51 0 0, 5, [.agg [v42, v44, v47, v49, .int .i64 b41.At]]⟩], [⟨.ptr ip71 wp71 0 0, 5, [.agg [v63, v65, v68, v70, .int .i64 b55.At]]⟩], (inn np_SInt (AV.int .i64) 1 d100 b97), (inn np_SInt (AV.int .i64) 1 d33 b22.Queues), (inn np_SInt (AV.int .i64) 1 d66 b55.Queues)]) (F := F) hS 19 rfl [4, 5, 6, 7, 8, 9, 10, 11, 12, 13, 15, 17, 18] (by decide)
                exact cut_n hK106 ⟨_, (Option.some.inj h).symm, rfl, hS⟩
          · obtain ⟨x103, ey, rfl, hS⟩ := hq; obtain rfl := ey.symm
            replace h := g105
            try dsimp only at h
            refine seq_n hK102 ?_
            refine w_if ?_
            simp only [W]
            refine w_cnd h (fun hc h => ?_) (fun hc h => ?_)
            · refine w_seq fun K109 hK109 => ?_
              refine w_reg gC ?_
              try simp only [W, Nat.reduceAdd]
              refine seq_n hK109 ?_
              refine w_ret ?_
              refine seq_r hK101 ?_
              refine fin_r1 hK0 rfl ?_
              try obtain rfl := Option.some.inj h
              have hS : Own _ (F) := Own.catI_ (bl := [[⟨v30, 1, b22.Quanta.map (AV.int .i64)⟩], [⟨v32, 1, ouw nm_SInt d33 b22.Queues⟩], [⟨v35, 1, b22.Credit.map (AV.int .i64)⟩], [⟨v37, 1, b22.Sent.map (AV.int .i64)⟩], [⟨v63, 1, b55.Quanta.map (AV.int .i64)⟩], [⟨v65, 1, ouw nm_SInt d66 b55.Queues⟩], [⟨v68, 1, b55.Credit.map (AV.int .i64)⟩], [⟨v70, 1, b55.Sent.map (AV.int .i64)⟩], [⟨.ptr ip2 wp2 0 0, 5, [.agg [.fz (a0.Quanta.map (AV.int .i64)), .fz (a0.Queues.map (fzl (AV.int .i64))), .fz (a0.Credit.map (AV.int .i64)), .fz (a0.Sent.map (AV.int .i64)), .int .i64 a0.At]]⟩], [⟨.ptr ip38 wp38 0 0, 5, [.agg [v30, v32, v35, v37, .int .i64 b22.At]]⟩], [⟨.ptr ip71 wp71 0 0, 5, [.agg [v63, v65, v68, v70, .int .i64 b55.At]]⟩], (inn np_SInt (AV.int .i64) 1 d33 b22.Queues), (inn np_SInt (AV.int .i64) 1 d66 b55.Queues)]) (F := F) hS 13 rfl [] (by decide)
              exact hP _ hS
            · refine w_skip ?_
              refine seq_n hK101 ?_
              refine w_seq fun K110 hK110 => ?_
              refine w_reg gC ?_
              try simp only [W, Nat.reduceAdd]
              refine seq_n hK110 ?_
              refine w_seq fun K111 hK111 => ?_
              refine w_reg gC ?_
              try simp only [W, EE, reduceIte, Nat.reduceAdd, Nat.reduceLeDiff, hS.var 10 rfl]
              have hS : Own _ (⟨v63, 1, b55.Quanta.map (AV.int .i64)⟩ :: ⟨v65, 1, ouw nm_SInt d66 b55.Queues⟩ :: ⟨v68, 1, b55.Credit.map (AV.int .i64)⟩ :: ⟨v70, 1, b55.Sent.map (AV.int .i64)⟩ :: ((inn np_SInt (AV.int .i64) 1 d66 b55.Queues) ++ (⟨v30, 1, b22.Quanta.map (AV.int .i64)⟩ :: ⟨v32, 1, ouw nm_SInt d33 b22.Queues⟩ :: ⟨v35, 1, b22.Credit.map (AV.int .i64)⟩ :: ⟨v37, 1, b22.Sent.map (AV.int .i64)⟩ :: ⟨.ptr ip2 wp2 0 0, 5, [.agg [.fz (a0.Quanta.map (AV.int .i64)), .fz (a0.Queues.map (fzl (AV.int .i64))), .fz (a0.Credit.map (AV.int .i64)), .fz (a0.Sent.map (AV.int .i64)), .int .i64 a0.At]]⟩ :: ⟨.ptr ip38 wp38 0 0, 5, [.agg [v30, v32, v35, v37, .int .i64 b22.At]]⟩ :: ⟨.ptr ip71 wp71 0 0, 5, [.agg [v63, v65, v68, v70, .int .i64 b55.At]]⟩ :: ((inn np_SInt (AV.int .i64) 1 d33 b22.Queues) ++ (F))))) := Own.catI_ (bl := [[⟨v30, 1, b22.Quanta.map (AV.int .i64)⟩], [⟨v32, 1, ouw nm_SInt d33 b22.Queues⟩], [⟨v35, 1, b22.Credit.map (AV.int .i64)⟩], [⟨v37, 1, b22.Sent.map (AV.int .i64)⟩], [⟨v63, 1, b55.Quanta.map (AV.int .i64)⟩], [⟨v65, 1, ouw nm_SInt d66 b55.Queues⟩], [⟨v68, 1, b55.Credit.map (AV.int .i64)⟩], [⟨v70, 1, b55.Sent.map (AV.int .i64)⟩], [⟨.ptr ip2 wp2 0 0, 5, [.agg [.fz (a0.Quanta.map (AV.int .i64)), .fz (a0.Queues.map (fzl (AV.int .i64))), .fz (a0.Credit.map (AV.int .i64)), .fz (a0.Sent.map (AV.int .i64)), .int .i64 a0.At]]⟩], [⟨.ptr ip38 wp38 0 0, 5, [.agg [v30, v32, v35, v37, .int .i64 b22.At]]⟩], [⟨.ptr ip71 wp71 0 0, 5, [.agg [v63, v65, v68, v70, .int .i64 b55.At]]⟩], (inn np_SInt (AV.int .i64) 1 d33 b22.Queues), (inn np_SInt (AV.int .i64) 1 d66 b55.Queues)]) (F := F) hS 13 rfl [4, 5, 6, 7, 12, 0, 1, 2, 3, 8, 9, 10, 11] (by decide)
              refine w_call h fun b112 hb112 h => ?_
              obtain ⟨b113, b114, b115, b116, b117⟩ := b112
              try dsimp only at h
              refine laws_markTurns_w hb112 hS qv63 qv65 qd66 qv68 qv70 fun d118 qd118 H hS => ?_
              have hS : Own _ (⟨v63, 1, b114.map (AV.int .i64)⟩ :: ⟨v65, 1, ouw nm_SInt d118 b115⟩ :: ⟨v68, 1, b116.map (AV.int .i64)⟩ :: ⟨v70, 1, b117.map (AV.int .i64)⟩ :: ⟨v30, 1, b22.Quanta.map (AV.int .i64)⟩ :: ⟨v32, 1, ouw nm_SInt d33 b22.Queues⟩ :: ⟨v35, 1, b22.Credit.map (AV.int .i64)⟩ :: ⟨v37, 1, b22.Sent.map (AV.int .i64)⟩ :: ⟨.ptr ip2 wp2 0 0, 5, [.agg [.fz (a0.Quanta.map (AV.int .i64)), .fz (a0.Queues.map (fzl (AV.int .i64))), .fz (a0.Credit.map (AV.int .i64)), .fz (a0.Sent.map (AV.int .i64)), .int .i64 a0.At]]⟩ :: ⟨.ptr ip38 wp38 0 0, 5, [.agg [v30, v32, v35, v37, .int .i64 b22.At]]⟩ :: ⟨.ptr ip71 wp71 0 0, 5, [.agg [v63, v65, v68, v70, .int .i64 b55.At]]⟩ :: ((inn np_SInt (AV.int .i64) 1 d118 b115) ++ (((inn np_SInt (AV.int .i64) 1 d33 b22.Queues) ++ (F))))) := Own.catI_ (bl := [[⟨v63, 1, b114.map (AV.int .i64)⟩], [⟨v65, 1, ouw nm_SInt d118 b115⟩], [⟨v68, 1, b116.map (AV.int .i64)⟩], [⟨v70, 1, b117.map (AV.int .i64)⟩], (inn np_SInt (AV.int .i64) 1 d118 b115), [⟨v30, 1, b22.Quanta.map (AV.int .i64)⟩], [⟨v32, 1, ouw nm_SInt d33 b22.Queues⟩], [⟨v35, 1, b22.Credit.map (AV.int .i64)⟩], [⟨v37, 1, b22.Sent.map (AV.int .i64)⟩], [⟨.ptr ip2 wp2 0 0, 5, [.agg [.fz (a0.Quanta.map (AV.int .i64)), .fz (a0.Queues.map (fzl (AV.int .i64))), .fz (a0.Credit.map (AV.int .i64)), .fz (a0.Sent.map (AV.int .i64)), .int .i64 a0.At]]⟩], [⟨.ptr ip38 wp38 0 0, 5, [.agg [v30, v32, v35, v37, .int .i64 b22.At]]⟩], [⟨.ptr ip71 wp71 0 0, 5, [.agg [v63, v65, v68, v70, .int .i64 b55.At]]⟩], (inn np_SInt (AV.int .i64) 1 d33 b22.Queues)]) (F := F) hS 13 rfl [0, 1, 2, 3, 5, 6, 7, 8, 9, 10, 11, 4, 12] (by decide)
              try simp only [W]
              refine seq_n hK111 ?_
              refine w_seq fun K119 hK119 => ?_
              refine w_reg gC ?_
              try simp only [W, Nat.reduceAdd]
              refine seq_n hK119 ?_
              refine w_seq fun K120 hK120 => ?_
              refine w_reg gC ?_
              try simp only [W, EE, reduceIte, Nat.reduceAdd, Nat.reduceLeDiff, hS.var 10 rfl]
              have hS : Own _ (⟨v63, 1, b114.map (AV.int .i64)⟩ :: ⟨v65, 1, ouw nm_SInt d118 b115⟩ :: ⟨v68, 1, b116.map (AV.int .i64)⟩ :: ⟨v70, 1, b117.map (AV.int .i64)⟩ :: ⟨v30, 1, b22.Quanta.map (AV.int .i64)⟩ :: ⟨v32, 1, ouw nm_SInt d33 b22.Queues⟩ :: ⟨v35, 1, b22.Credit.map (AV.int .i64)⟩ :: ⟨v37, 1, b22.Sent.map (AV.int .i64)⟩ :: ⟨.ptr ip2 wp2 0 0, 5, [.agg [.fz (a0.Quanta.map (AV.int .i64)), .fz (a0.Queues.map (fzl (AV.int .i64))), .fz (a0.Credit.map (AV.int .i64)), .fz (a0.Sent.map (AV.int .i64)), .int .i64 a0.At]]⟩ :: ⟨.ptr ip38 wp38 0 0, 5, [.agg [v30, v32, v35, v37, .int .i64 b22.At]]⟩ :: ⟨.ptr ip71 wp71 0 0, 5, [.agg [v63, v65, v68, v70, .int .i64 b55.At]]⟩ :: ((inn np_SInt (AV.int .i64) 1 d118 b115) ++ ((inn np_SInt (AV.int .i64) 1 d33 b22.Queues) ++ F))) := hS
              refine w_callS (rsh := [[.sc]]) (ys := [.agg [.fz (b114.map (AV.int .i64)), .fz (b115.map (fzl (AV.int .i64))), .fz (b116.map (AV.int .i64)), .fz (b117.map (AV.int .i64)), .int .i64 b55.At], .int .i64 1]) h rfl (pv_c (sn_agg (sm_c (sn_ow hS 0 rfl qv63 (fun _ => rfl)) (sm_c (sn_owN (enc := (fzl (AV.int .i64))) hS 1 rfl qv65 qd118 (fun _ h => (List.mem_cons_of_mem _ (List.mem_cons_of_mem _ (List.mem_cons_of_mem _ (List.mem_cons_of_mem _ (List.mem_cons_of_mem _ (List.mem_cons_of_mem _ (List.mem_cons_of_mem _ (List.mem_cons_of_mem _ (List.mem_cons_of_mem _ (List.mem_cons_of_mem _ (List.mem_cons_of_mem _ (List.mem_append_left _ h))))))))))))) (fun _ _ ha hk => sn_it hk ha (fun _ => rfl))) (sm_c (sn_ow hS 2 rfl qv68 (fun _ => rfl)) (sm_c (sn_ow hS 3 rfl qv70 (fun _ => rfl)) (sm_c rfl (sm_n _))))))) (pv_c rfl pv_n)) fun b121 hb121 h => ⟨.int .i64 b121, laws_heldTurns_w hb121 (Own.nil _) fun H hS => TV_ok rfl (TV_p rfl (TV_n rfl)), ⟨rfl, rfl, fun _ => rfl⟩, ?_⟩
              try simp only [W]
              refine seq_n hK120 ?_
              refine w_seq fun K122 hK122 => ?_
              refine w_seq fun K123 hK123 => ?_
              refine w_reg gC ?_
              try simp only [W, EE, Nat.reduceAdd]
              refine seq_n hK123 ?_
              refine w_if ?_
              simp only [W]
              refine w_cnd h (fun hc h => ?_) (fun hc h => ?_)
              · refine w_seq fun K124 hK124 => ?_
                refine w_reg gC ?_
                try simp only [W, Nat.reduceAdd]
                refine seq_n hK124 ?_
                refine w_ret ?_
                refine seq_r hK122 ?_
                refine fin_r1 hK0 rfl ?_
                try obtain rfl := Option.some.inj h
                have hS : Own _ (F) := Own.catI_ (bl := [[⟨v63, 1, b114.map (AV.int .i64)⟩], [⟨v65, 1, ouw nm_SInt d118 b115⟩], [⟨v68, 1, b116.map (AV.int .i64)⟩], [⟨v70, 1, b117.map (AV.int .i64)⟩], [⟨v30, 1, b22.Quanta.map (AV.int .i64)⟩], [⟨v32, 1, ouw nm_SInt d33 b22.Queues⟩], [⟨v35, 1, b22.Credit.map (AV.int .i64)⟩], [⟨v37, 1, b22.Sent.map (AV.int .i64)⟩], [⟨.ptr ip2 wp2 0 0, 5, [.agg [.fz (a0.Quanta.map (AV.int .i64)), .fz (a0.Queues.map (fzl (AV.int .i64))), .fz (a0.Credit.map (AV.int .i64)), .fz (a0.Sent.map (AV.int .i64)), .int .i64 a0.At]]⟩], [⟨.ptr ip38 wp38 0 0, 5, [.agg [v30, v32, v35, v37, .int .i64 b22.At]]⟩], [⟨.ptr ip71 wp71 0 0, 5, [.agg [v63, v65, v68, v70, .int .i64 b55.At]]⟩], (inn np_SInt (AV.int .i64) 1 d118 b115), (inn np_SInt (AV.int .i64) 1 d33 b22.Queues)]) (F := F) hS 13 rfl [] (by decide)
                exact hP _ hS
              · refine w_skip ?_
                refine seq_n hK122 ?_
                refine w_seq fun K125 hK125 => ?_
                refine w_seq fun K126 hK126 => ?_
                refine w_reg gC ?_
                try simp only [W, EE, Nat.reduceAdd]
                refine seq_n hK126 ?_
                refine w_if ?_
                simp only [W]
                refine w_cnd h (fun hc h => ?_) (fun hc h => ?_)
                · refine w_seq fun K127 hK127 => ?_
                  refine w_reg gC ?_
                  try simp only [W, Nat.reduceAdd]
                  refine seq_n hK127 ?_
                  refine w_ret ?_
                  refine seq_r hK125 ?_
                  refine fin_r1 hK0 rfl ?_
                  try obtain rfl := Option.some.inj h
                  have hS : Own _ (F) := Own.catI_ (bl := [[⟨v63, 1, b114.map (AV.int .i64)⟩], [⟨v65, 1, ouw nm_SInt d118 b115⟩], [⟨v68, 1, b116.map (AV.int .i64)⟩], [⟨v70, 1, b117.map (AV.int .i64)⟩], [⟨v30, 1, b22.Quanta.map (AV.int .i64)⟩], [⟨v32, 1, ouw nm_SInt d33 b22.Queues⟩], [⟨v35, 1, b22.Credit.map (AV.int .i64)⟩], [⟨v37, 1, b22.Sent.map (AV.int .i64)⟩], [⟨.ptr ip2 wp2 0 0, 5, [.agg [.fz (a0.Quanta.map (AV.int .i64)), .fz (a0.Queues.map (fzl (AV.int .i64))), .fz (a0.Credit.map (AV.int .i64)), .fz (a0.Sent.map (AV.int .i64)), .int .i64 a0.At]]⟩], [⟨.ptr ip38 wp38 0 0, 5, [.agg [v30, v32, v35, v37, .int .i64 b22.At]]⟩], [⟨.ptr ip71 wp71 0 0, 5, [.agg [v63, v65, v68, v70, .int .i64 b55.At]]⟩], (inn np_SInt (AV.int .i64) 1 d118 b115), (inn np_SInt (AV.int .i64) 1 d33 b22.Queues)]) (F := F) hS 13 rfl [] (by decide)
                  exact hP _ hS
                · refine w_skip ?_
                  refine seq_n hK125 ?_
                  refine w_seq fun K128 hK128 => ?_
                  refine w_reg gC ?_
                  try simp only [W, EE, reduceIte, Nat.reduceAdd, Nat.reduceLeDiff, Nat.reduceBEq, hS.var 8 rfl, List.contains_cons, Nat.reduceBEq, Bool.or_self]
                  refine w_call h fun b129 hb129 h => ?_
                  refine laws_toTurns_w hb129 hS fun v130 qv130 v132 qv132 d134 qd134 v135 qv135 v137 qv137 H hS => ?_
                  have hS : Own _ (⟨v130, 1, b129.Quanta.map (AV.int .i64)⟩ :: ⟨v132, 1, ouw nm_SInt d134 b129.Queues⟩ :: ⟨v135, 1, b129.Credit.map (AV.int .i64)⟩ :: ⟨v137, 1, b129.Sent.map (AV.int .i64)⟩ :: ⟨v63, 1, b114.map (AV.int .i64)⟩ :: ⟨v65, 1, ouw nm_SInt d118 b115⟩ :: ⟨v68, 1, b116.map (AV.int .i64)⟩ :: ⟨v70, 1, b117.map (AV.int .i64)⟩ :: ⟨v30, 1, b22.Quanta.map (AV.int .i64)⟩ :: ⟨v32, 1, ouw nm_SInt d33 b22.Queues⟩ :: ⟨v35, 1, b22.Credit.map (AV.int .i64)⟩ :: ⟨v37, 1, b22.Sent.map (AV.int .i64)⟩ :: ⟨.ptr ip2 wp2 0 0, 5, [.agg [.fz (a0.Quanta.map (AV.int .i64)), .fz (a0.Queues.map (fzl (AV.int .i64))), .fz (a0.Credit.map (AV.int .i64)), .fz (a0.Sent.map (AV.int .i64)), .int .i64 a0.At]]⟩ :: ⟨.ptr ip38 wp38 0 0, 5, [.agg [v30, v32, v35, v37, .int .i64 b22.At]]⟩ :: ⟨.ptr ip71 wp71 0 0, 5, [.agg [v63, v65, v68, v70, .int .i64 b55.At]]⟩ :: ((inn np_SInt (AV.int .i64) 1 d134 b129.Queues) ++ (((inn np_SInt (AV.int .i64) 1 d118 b115) ++ (((inn np_SInt (AV.int .i64) 1 d33 b22.Queues) ++ (F))))))) := Own.catI_ (bl := [[⟨v130, 1, b129.Quanta.map (AV.int .i64)⟩], [⟨v132, 1, ouw nm_SInt d134 b129.Queues⟩], [⟨v135, 1, b129.Credit.map (AV.int .i64)⟩], [⟨v137, 1, b129.Sent.map (AV.int .i64)⟩], (inn np_SInt (AV.int .i64) 1 d134 b129.Queues), [⟨v63, 1, b114.map (AV.int .i64)⟩], [⟨v65, 1, ouw nm_SInt d118 b115⟩], [⟨v68, 1, b116.map (AV.int .i64)⟩], [⟨v70, 1, b117.map (AV.int .i64)⟩], [⟨v30, 1, b22.Quanta.map (AV.int .i64)⟩], [⟨v32, 1, ouw nm_SInt d33 b22.Queues⟩], [⟨v35, 1, b22.Credit.map (AV.int .i64)⟩], [⟨v37, 1, b22.Sent.map (AV.int .i64)⟩], [⟨.ptr ip2 wp2 0 0, 5, [.agg [.fz (a0.Quanta.map (AV.int .i64)), .fz (a0.Queues.map (fzl (AV.int .i64))), .fz (a0.Credit.map (AV.int .i64)), .fz (a0.Sent.map (AV.int .i64)), .int .i64 a0.At]]⟩], [⟨.ptr ip38 wp38 0 0, 5, [.agg [v30, v32, v35, v37, .int .i64 b22.At]]⟩], [⟨.ptr ip71 wp71 0 0, 5, [.agg [v63, v65, v68, v70, .int .i64 b55.At]]⟩], (inn np_SInt (AV.int .i64) 1 d118 b115), (inn np_SInt (AV.int .i64) 1 d33 b22.Queues)]) (F := F) hS 18 rfl [0, 1, 2, 3, 5, 6, 7, 8, 9, 10, 11, 12, 13, 14, 15, 4, 16, 17] (by decide)
                  try simp only [W]
                  have hS : Own _ (⟨v130, 1, b129.Quanta.map (AV.int .i64)⟩ :: ⟨v132, 1, ouw nm_SInt d134 b129.Queues⟩ :: ⟨v135, 1, b129.Credit.map (AV.int .i64)⟩ :: ⟨v137, 1, b129.Sent.map (AV.int .i64)⟩ :: ⟨v63, 1, b114.map (AV.int .i64)⟩ :: ⟨v65, 1, ouw nm_SInt d118 b115⟩ :: ⟨v68, 1, b116.map (AV.int .i64)⟩ :: ⟨v70, 1, b117.map (AV.int .i64)⟩ :: ⟨v30, 1, b22.Quanta.map (AV.int .i64)⟩ :: ⟨v32, 1, ouw nm_SInt d33 b22.Queues⟩ :: ⟨v35, 1, b22.Credit.map (AV.int .i64)⟩ :: ⟨v37, 1, b22.Sent.map (AV.int .i64)⟩ :: ⟨.ptr ip2 wp2 0 0, 5, [.agg [.fz (a0.Quanta.map (AV.int .i64)), .fz (a0.Queues.map (fzl (AV.int .i64))), .fz (a0.Credit.map (AV.int .i64)), .fz (a0.Sent.map (AV.int .i64)), .int .i64 a0.At]]⟩ :: ⟨.ptr ip38 wp38 0 0, 5, [.agg [v30, v32, v35, v37, .int .i64 b22.At]]⟩ :: ⟨.ptr ip71 wp71 0 0, 5, [.agg [v63, v65, v68, v70, .int .i64 b55.At]]⟩ :: ((inn np_SInt (AV.int .i64) 1 d134 b129.Queues) ++ ((inn np_SInt (AV.int .i64) 1 d118 b115) ++ ((inn np_SInt (AV.int .i64) 1 d33 b22.Queues) ++ F)))) := hS
                  refine w_callO (rsh := [[.sl [.sc], .sl [.sl [.sc]], .sl [.sc], .sl [.sc], .sc], [.sc]]) (ys := [.agg [.fz (b129.Quanta.map (AV.int .i64)), .fz (b129.Queues.map (fzl (AV.int .i64))), .fz (b129.Credit.map (AV.int .i64)), .fz (b129.Sent.map (AV.int .i64)), .int .i64 b129.At], .int .i64 a1, .int .i64 a2]) h rfl (pv_c (sn_agg (sm_c (sn_ow hS 0 rfl qv130 (fun _ => rfl)) (sm_c (sn_owN (enc := (fzl (AV.int .i64))) hS 1 rfl qv132 qd134 (fun _ h => (List.mem_cons_of_mem _ (List.mem_cons_of_mem _ (List.mem_cons_of_mem _ (List.mem_cons_of_mem _ (List.mem_cons_of_mem _ (List.mem_cons_of_mem _ (List.mem_cons_of_mem _ (List.mem_cons_of_mem _ (List.mem_cons_of_mem _ (List.mem_cons_of_mem _ (List.mem_cons_of_mem _ (List.mem_cons_of_mem _ (List.mem_cons_of_mem _ (List.mem_cons_of_mem _ (List.mem_cons_of_mem _ (List.mem_append_left _ h))))))))))))))))) (fun _ _ ha hk => sn_it hk ha (fun _ => rfl))) (sm_c (sn_ow hS 2 rfl qv135 (fun _ => rfl)) (sm_c (sn_ow hS 3 rfl qv137 (fun _ => rfl)) (sm_c rfl (sm_n _))))))) (pv_c rfl (pv_c rfl pv_n))) fun b139 hb139 h => ⟨.tup [.agg [.own 1 (b139.1.Quanta.map (AV.int .i64)), .own 1 (b139.1.Queues.map nd_SInt), .own 1 (b139.1.Credit.map (AV.int .i64)), .own 1 (b139.1.Sent.map (AV.int .i64)), .int .i64 b139.1.At], .bool b139.2], impl_PutPacket_w hb139 (Own.nil _) fun v142 qv142 v143 qv143 d144 qd144 v145 qv145 v146 qv146 H hS => TV_ok rfl (TV_a (TC_ow 0 hS rfl qv142 (fun _ _ => by simp [takeE, takeT, plainA]) fun H hS => TC_owN (d := nd_SInt) (Own.catI_ (bl := [[⟨v143, 1, ouw nm_SInt d144 b139.1.Queues⟩], [⟨v145, 1, b139.1.Credit.map (AV.int .i64)⟩], [⟨v146, 1, b139.1.Sent.map (AV.int .i64)⟩], (inn np_SInt (AV.int .i64) 1 d144 b139.1.Queues)]) (F := []) hS 4 rfl [0, 3, 1, 2] (by decide)) qv143 qd144 nt_SInt fun H hS => TC_ow 0 hS rfl qv145 (fun _ _ => by simp [takeE, takeT, plainA]) fun H hS => TC_ow 0 hS rfl qv146 (fun _ _ => by simp [takeE, takeT, plainA]) fun H hS => TC_sc rfl (TC_nil (TV_p rfl (TV_n rfl))))), (nf_t (nf_c (nf_a (nf_c (noFz_o _ (fun _ => rfl) _) (nf_c (noFz_o _ nf_SInt _) (nf_c (noFz_o _ (fun _ => rfl) _) (nf_c (noFz_o _ (fun _ => rfl) _) (nf_c rfl nf_n)))))) (nf_c rfl nf_n))), ?_⟩
                  obtain ⟨b140, b141⟩ := b139
                  try dsimp only at h
                  dsimp only
                  refine thaw_tup ?_
                  refine TH_a ?_
                  refine TH_o hS (fun _ _ => rfl) (fun _ => rfl) fun v148 H qv148 hS => ?_
                  refine TH_oN (l := b140.Queues) (d := nd_SInt) (m := nm_SInt) (p := np_SInt) (c := (AV.int .i64)) hS nc_SInt nh_SInt fun v150 d151 H qv150 qd151 hS => ?_
                  have hS : Own _ (⟨v150, 1, ouw nm_SInt d151 b140.Queues⟩ :: ⟨v148, 1, b140.Quanta.map (AV.int .i64)⟩ :: ⟨v130, 1, b129.Quanta.map (AV.int .i64)⟩ :: ⟨v132, 1, ouw nm_SInt d134 b129.Queues⟩ :: ⟨v135, 1, b129.Credit.map (AV.int .i64)⟩ :: ⟨v137, 1, b129.Sent.map (AV.int .i64)⟩ :: ⟨v63, 1, b114.map (AV.int .i64)⟩ :: ⟨v65, 1, ouw nm_SInt d118 b115⟩ :: ⟨v68, 1, b116.map (AV.int .i64)⟩ :: ⟨v70, 1, b117.map (AV.int .i64)⟩ :: ⟨v30, 1, b22.Quanta.map (AV.int .i64)⟩ :: ⟨v32, 1, ouw nm_SInt d33 b22.Queues⟩ :: ⟨v35, 1, b22.Credit.map (AV.int .i64)⟩ :: ⟨v37, 1, b22.Sent.map (AV.int .i64)⟩ :: ⟨.ptr ip2 wp2 0 0, 5, [.agg [.fz (a0.Quanta.map (AV.int .i64)), .fz (a0.Queues.map (fzl (AV.int .i64))), .fz (a0.Credit.map (AV.int .i64)), .fz (a0.Sent.map (AV.int .i64)), .int .i64 a0.At]]⟩ :: ⟨.ptr ip38 wp38 0 0, 5, [.agg [v30, v32, v35, v37, .int .i64 b22.At]]⟩ :: ⟨.ptr ip71 wp71 0 0, 5, [.agg [v63, v65, v68, v70, .int .i64 b55.At]]⟩ :: ((inn np_SInt (AV.int .i64) 1 d151 b140.Queues) ++ (((inn np_SInt (AV.int .i64) 1 d134 b129.Queues) ++ (((inn np_SInt (AV.int .i64) 1 d118 b115) ++ (((inn np_SInt (AV.int .i64) 1 d33 b22.Queues) ++ (F))))))))) := Own.catI_ (bl := [[⟨v150, 1, ouw nm_SInt d151 b140.Queues⟩], (inn np_SInt (AV.int .i64) 1 d151 b140.Queues), [⟨v148, 1, b140.Quanta.map (AV.int .i64)⟩], [⟨v130, 1, b129.Quanta.map (AV.int .i64)⟩], [⟨v132, 1, ouw nm_SInt d134 b129.Queues⟩], [⟨v135, 1, b129.Credit.map (AV.int .i64)⟩], [⟨v137, 1, b129.Sent.map (AV.int .i64)⟩], [⟨v63, 1, b114.map (AV.int .i64)⟩], [⟨v65, 1, ouw nm_SInt d118 b115⟩], [⟨v68, 1, b116.map (AV.int .i64)⟩], [⟨v70, 1, b117.map (AV.int .i64)⟩], [⟨v30, 1, b22.Quanta.map (AV.int .i64)⟩], [⟨v32, 1, ouw nm_SInt d33 b22.Queues⟩], [⟨v35, 1, b22.Credit.map (AV.int .i64)⟩], [⟨v37, 1, b22.Sent.map (AV.int .i64)⟩], [⟨.ptr ip2 wp2 0 0, 5, [.agg [.fz (a0.Quanta.map (AV.int .i64)), .fz (a0.Queues.map (fzl (AV.int .i64))), .fz (a0.Credit.map (AV.int .i64)), .fz (a0.Sent.map (AV.int .i64)), .int .i64 a0.At]]⟩], [⟨.ptr ip38 wp38 0 0, 5, [.agg [v30, v32, v35, v37, .int .i64 b22.At]]⟩], [⟨.ptr ip71 wp71 0 0, 5, [.agg [v63, v65, v68, v70, .int .i64 b55.At]]⟩], (inn np_SInt (AV.int .i64) 1 d134 b129.Queues), (inn np_SInt (AV.int .i64) 1 d118 b115), (inn np_SInt (AV.int .i64) 1 d33 b22.Queues)]) (F := F) hS 21 rfl [0, 2, 3, 4, 5, 6, 7, 8, 9, 10, 11, 12, 13, 14, 15, 16, 17, 1, 18, 19, 20] (by decide)
                  refine TH_o hS (fun _ _ => rfl) (fun _ => rfl) fun v153 H qv153 hS => ?_
                  refine TH_o hS (fun _ _ => rfl) (fun _ => rfl) fun v155 H qv155 hS => ?_
                  refine TH_p (fun _ => rfl) ?_
                  refine TH_n ?_
                  refine TH_p (fun _ => rfl) ?_
                  refine TH_n ?_
                  try simp only [List.headD_cons]
                  try simp only [W]
                  refine w_alloc hS rfl rfl fun ip156 wp156 H hS => ?_
                  try simp only [W]
                  refine w_stv (a := .agg [v148, v150, v153, v155, .int .i64 b140.At]) (y' := .agg [v148, v150, v153, v155, .int .i64 b140.At]) 0 hS rfl rfl rfl rfl rfl (by simp only [storA, List.all_cons, List.all_nil, qv148.stor, qv150.stor, qv153.stor, qv155.stor]; rfl) rfl rfl fun H hS => ?_
                  try simp only [W]
                  refine seq_n hK128 ?_
                  refine w_seq fun K158 hK158 => ?_
                  refine w_seq fun K159 hK159 => ?_
                  obtain ⟨y161, h, g162⟩ := Option.bind_eq_some_iff.1 h
                  refine w_join gC (fun s H => ∃ x160 : Bool, y161 = (x160) ∧ s = (u :: u :: u :: u :: u :: u :: u :: u :: u :: u :: u :: .ptr ip71 wp71 0 0 :: u :: u :: .int .i64 b113 :: u :: u :: u :: u :: u :: u :: u :: u :: u :: u :: u :: u :: u :: u :: u :: u :: u :: u :: u :: u :: u :: u :: u :: u :: u :: u :: u :: u :: u :: u :: u :: u :: u :: u :: u :: u :: u :: u :: u :: u :: u :: u :: u :: u :: u :: u :: u :: u :: u :: u :: u :: u :: u :: u :: u :: u :: u :: u :: u :: u :: u :: u :: u :: u :: u :: u :: u :: u :: u :: u :: u :: u :: u :: u :: u :: u :: u :: u :: u :: u :: u :: u :: .bool x160 :: u :: u :: u :: u :: u :: u :: u :: u :: []) ∧ Own H (⟨v63, 1, b114.map (AV.int .i64)⟩ :: ⟨v65, 1, ouw nm_SInt d118 b115⟩ :: ⟨v68, 1, b116.map (AV.int .i64)⟩ :: ⟨v70, 1, b117.map (AV.int .i64)⟩ :: ⟨.ptr ip71 wp71 0 0, 5, [.agg [v63, v65, v68, v70, .int .i64 b55.At]]⟩ :: ((inn np_SInt (AV.int .i64) 1 d118 b115) ++ F))) (fun K163 hK163 => ?_) (fun s H hq => ?_)
                  · refine w_seq fun K164 hK164 => ?_
                    refine w_reg gC ?_
                    try simp only [W, EE, reduceIte, Nat.reduceAdd, Nat.reduceLeDiff, hS.var 0 rfl, hS.var 18 rfl]
                    have hS : Own _ (⟨.ptr ip156 wp156 0 0, 5, [.agg [v148, v150, v153, v155, .int .i64 b140.At]]⟩ :: ⟨v155, 1, b140.Sent.map (AV.int .i64)⟩ :: ⟨v153, 1, b140.Credit.map (AV.int .i64)⟩ :: ⟨v150, 1, ouw nm_SInt d151 b140.Queues⟩ :: ⟨v148, 1, b140.Quanta.map (AV.int .i64)⟩ :: ⟨v130, 1, b129.Quanta.map (AV.int .i64)⟩ :: ⟨v132, 1, ouw nm_SInt d134 b129.Queues⟩ :: ⟨v135, 1, b129.Credit.map (AV.int .i64)⟩ :: ⟨v137, 1, b129.Sent.map (AV.int .i64)⟩ :: ⟨v63, 1, b114.map (AV.int .i64)⟩ :: ⟨v65, 1, ouw nm_SInt d118 b115⟩ :: ⟨v68, 1, b116.map (AV.int .i64)⟩ :: ⟨v70, 1, b117.map (AV.int .i64)⟩ :: ⟨v30, 1, b22.Quanta.map (AV.int .i64)⟩ :: ⟨v32, 1, ouw nm_SInt d33 b22.Queues⟩ :: ⟨v35, 1, b22.Credit.map (AV.int .i64)⟩ :: ⟨v37, 1, b22.Sent.map (AV.int .i64)⟩ :: ⟨.ptr ip2 wp2 0 0, 5, [.agg [.fz (a0.Quanta.map (AV.int .i64)), .fz (a0.Queues.map (fzl (AV.int .i64))), .fz (a0.Credit.map (AV.int .i64)), .fz (a0.Sent.map (AV.int .i64)), .int .i64 a0.At]]⟩ :: ⟨.ptr ip38 wp38 0 0, 5, [.agg [v30, v32, v35, v37, .int .i64 b22.At]]⟩ :: ⟨.ptr ip71 wp71 0 0, 5, [.agg [v63, v65, v68, v70, .int .i64 b55.At]]⟩ :: ((inn np_SInt (AV.int .i64) 1 d151 b140.Queues) ++ ((inn np_SInt (AV.int .i64) 1 d134 b129.Queues) ++ ((inn np_SInt (AV.int .i64) 1 d118 b115) ++ ((inn np_SInt (AV.int .i64) 1 d33 b22.Queues) ++ F))))) := hS
                    refine w_callS (rsh := [[.sc]]) (ys := [.agg [.fz (b140.Quanta.map (AV.int .i64)), .fz (b140.Queues.map (fzl (AV.int .i64))), .fz (b140.Credit.map (AV.int .i64)), .fz (b140.Sent.map (AV.int .i64)), .int .i64 b140.At], .agg [.fz (b22.Quanta.map (AV.int .i64)), .fz (b22.Queues.map (fzl (AV.int .i64))), .fz (b22.Credit.map (AV.int .i64)), .fz (b22.Sent.map (AV.int .i64)), .int .i64 b22.At]]) h rfl (pv_c (sn_agg (sm_c (sn_ow hS 4 rfl qv148 (fun _ => rfl)) (sm_c (sn_owN (enc := (fzl (AV.int .i64))) hS 3 rfl qv150 qd151 (fun _ h => (List.mem_cons_of_mem _ (List.mem_cons_of_mem _ (List.mem_cons_of_mem _ (List.mem_cons_of_mem _ (List.mem_cons_of_mem _ (List.mem_cons_of_mem _ (List.mem_cons_of_mem _ (List.mem_cons_of_mem _ (List.mem_cons_of_mem _ (List.mem_cons_of_mem _ (List.mem_cons_of_mem _ (List.mem_cons_of_mem _ (List.mem_cons_of_mem _ (List.mem_cons_of_mem _ (List.mem_cons_of_mem _ (List.mem_cons_of_mem _ (List.mem_cons_of_mem _ (List.mem_cons_of_mem _ (List.mem_cons_of_mem _ (List.mem_cons_of_mem _ (List.mem_append_left _ h)))))))))))))))))))))) (fun _ _ ha hk => sn_it hk ha (fun _ => rfl))) (sm_c (sn_ow hS 2 rfl qv153 (fun _ => rfl)) (sm_c (sn_ow hS 1 rfl qv155 (fun _ => rfl)) (sm_c rfl (sm_n _))))))) (pv_c (sn_agg (sm_c (sn_ow hS 13 rfl qv30 (fun _ => rfl)) (sm_c (sn_owN (enc := (fzl (AV.int .i64))) hS 14 rfl qv32 qd33 (fun _ h => (List.mem_cons_of_mem _ (List.mem_cons_of_mem _ (List.mem_cons_of_mem _ (List.mem_cons_of_mem _ (List.mem_cons_of_mem _ (List.mem_cons_of_mem _ (List.mem_cons_of_mem _ (List.mem_cons_of_mem _ (List.mem_cons_of_mem _ (List.mem_cons_of_mem _ (List.mem_cons_of_mem _ (List.mem_cons_of_mem _ (List.mem_cons_of_mem _ (List.mem_cons_of_mem _ (List.mem_cons_of_mem _ (List.mem_cons_of_mem _ (List.mem_cons_of_mem _ (List.mem_cons_of_mem _ (List.mem_cons_of_mem _ (List.mem_cons_of_mem _ (List.mem_append_right _ (List.mem_append_right _ (List.mem_append_right _ (List.mem_append_left _ h))))))))))))))))))))))))) (fun _ _ ha hk => sn_it hk ha (fun _ => rfl))) (sm_c (sn_ow hS 15 rfl qv35 (fun _ => rfl)) (sm_c (sn_ow hS 16 rfl qv37 (fun _ => rfl)) (sm_c rfl (sm_n _))))))) pv_n)) fun b165 hb165 h => ⟨.bool b165, laws_eqTurns_w hb165 (Own.nil _) fun H hS => TV_ok rfl (TV_p rfl (TV_n rfl)), ⟨rfl, rfl, fun _ => rfl⟩, ?_⟩
                    try simp only [W]
                    refine w_grdT h (fun hc h => ?_) (fun hc h => ?_)
                    · try simp only [W, hc]
                      refine seq_n hK164 ?_
                      refine w_kill ?_
                      have hS : Own _ (⟨v63, 1, b114.map (AV.int .i64)⟩ :: ⟨v65, 1, ouw nm_SInt d118 b115⟩ :: ⟨v68, 1, b116.map (AV.int .i64)⟩ :: ⟨v70, 1, b117.map (AV.int .i64)⟩ :: ⟨.ptr ip71 wp71 0 0, 5, [.agg [v63, v65, v68, v70, .int .i64 b55.At]]⟩ :: ((inn np_SInt (AV.int .i64) 1 d118 b115) ++ (F))) := Own.catI_ (bl := [[⟨.ptr ip156 wp156 0 0, 5, [.agg [v148, v150, v153, v155, .int .i64 b140.At]]⟩], [⟨v155, 1, b140.Sent.map (AV.int .i64)⟩], [⟨v153, 1, b140.Credit.map (AV.int .i64)⟩], [⟨v150, 1, ouw nm_SInt d151 b140.Queues⟩], [⟨v148, 1, b140.Quanta.map (AV.int .i64)⟩], [⟨v130, 1, b129.Quanta.map (AV.int .i64)⟩], [⟨v132, 1, ouw nm_SInt d134 b129.Queues⟩], [⟨v135, 1, b129.Credit.map (AV.int .i64)⟩], [⟨v137, 1, b129.Sent.map (AV.int .i64)⟩], [⟨v63, 1, b114.map (AV.int .i64)⟩], [⟨v65, 1, ouw nm_SInt d118 b115⟩], [⟨v68, 1, b116.map (AV.int .i64)⟩], [⟨v70, 1, b117.map (AV.int .i64)⟩], [⟨v30, 1, b22.Quanta.map (AV.int .i64)⟩], [⟨v32, 1, ouw nm_SInt d33 b22.Queues⟩], [⟨v35, 1, b22.Credit.map (AV.int .i64)⟩], [⟨v37, 1, b22.Sent.map (AV.int .i64)⟩], [⟨.ptr ip2 wp2 0 0, 5, [.agg [.fz (a0.Quanta.map (AV.int .i64)), .fz (a0.Queues.map (fzl (AV.int .i64))), .fz (a0.Credit.map (AV.int .i64)), .fz (a0.Sent.map (AV.int .i64)), .int .i64 a0.At]]⟩], [⟨.ptr ip38 wp38 0 0, 5, [.agg [v30, v32, v35, v37, .int .i64 b22.At]]⟩], [⟨.ptr ip71 wp71 0 0, 5, [.agg [v63, v65, v68, v70, .int .i64 b55.At]]⟩], (inn np_SInt (AV.int .i64) 1 d151 b140.Queues), (inn np_SInt (AV.int .i64) 1 d134 b129.Queues), (inn np_SInt (AV.int .i64) 1 d118 b115), (inn np_SInt (AV.int .i64) 1 d33 b22.Queues)]) (F := F) hS 24 rfl [9, 10, 11, 12, 19, 22] (by decide)
                      exact cut_n hK163 ⟨_, (Option.some.inj h).symm, rfl, hS⟩
                    · try simp only [W, EE, hc]
                      rw [b_bneq _ _ _ _ (h := rfl) rfl, resV_s]
                      try simp only [W, reduceIte, Bool.false_eq_true]
                      refine seq_n hK164 ?_
                      refine w_kill ?_
                      have hS : Own _ (⟨v63, 1, b114.map (AV.int .i64)⟩ :: ⟨v65, 1, ouw nm_SInt d118 b115⟩ :: ⟨v68, 1, b116.map (AV.int .i64)⟩ :: ⟨v70, 1, b117.map (AV.int .i64)⟩ :: ⟨.ptr ip71 wp71 0 0, 5, [.agg [v63, v65, v68, v70, .int .i64 b55.At]]⟩ :: ((inn np_SInt (AV.int .i64) 1 d118 b115) ++ (F))) := Own.catI_ (bl := [[⟨.ptr ip156 wp156 0 0, 5, [.agg [v148, v150, v153, v155, .int .i64 b140.At]]⟩], [⟨v155, 1, b140.Sent.map (AV.int .i64)⟩], [⟨v153, 1, b140.Credit.map (AV.int .i64)⟩], [⟨v150, 1, ouw nm_SInt d151 b140.Queues⟩], [⟨v148, 1, b140.Quanta.map (AV.int .i64)⟩], [⟨v130, 1, b129.Quanta.map (AV.int .i64)⟩], [⟨v132, 1, ouw nm_SInt d134 b129.Queues⟩], [⟨v135, 1, b129.Credit.map (AV.int .i64)⟩], [⟨v137, 1, b129.Sent.map (AV.int .i64)⟩], [⟨v63, 1, b114.map (AV.int .i64)⟩], [⟨v65, 1, ouw nm_SInt d118 b115⟩], [⟨v68, 1, b116.map (AV.int .i64)⟩], [⟨v70, 1, b117.map (AV.int .i64)⟩], [⟨v30, 1, b22.Quanta.map (AV.int .i64)⟩], [⟨v32, 1, ouw nm_SInt d33 b22.Queues⟩], [⟨v35, 1, b22.Credit.map (AV.int .i64)⟩], [⟨v37, 1, b22.Sent.map (AV.int .i64)⟩], [⟨.ptr ip2 wp2 0 0, 5, [.agg [.fz (a0.Quanta.map (AV.int .i64)), .fz (a0.Queues.map (fzl (AV.int .i64))), .fz (a0.Credit.map (AV.int .i64)), .fz (a0.Sent.map (AV.int .i64)), .int .i64 a0.At]]⟩], [⟨.ptr ip38 wp38 0 0, 5, [.agg [v30, v32, v35, v37, .int .i64 b22.At]]⟩], [⟨.ptr ip71 wp71 0 0, 5, [.agg [v63, v65, v68, v70, .int .i64 b55.At]]⟩], (inn np_SInt (AV.int .i64) 1 d151 b140.Queues), (inn np_SInt (AV.int .i64) 1 d134 b129.Queues), (inn np_SInt (AV.int .i64) 1 d118 b115), (inn np_SInt (AV.int .i64) 1 d33 b22.Queues)]) (F := F) hS 24 rfl [9, 10, 11, 12, 19, 22] (by decide)
                      exact cut_n hK163 ⟨_, (Option.some.inj h).symm, rfl, hS⟩
                  · obtain ⟨x160, ey, rfl, hS⟩ := hq; obtain rfl := ey.symm
                    replace h := g162
                    try dsimp only at h
                    refine seq_n hK159 ?_
                    refine w_if ?_
                    simp only [W]
                    refine w_cnd h (fun hc h => ?_) (fun hc h => ?_)
                    · refine w_seq fun K166 hK166 => ?_
                      refine w_reg gC ?_
                      try simp only [W, Nat.reduceAdd]
                      refine seq_n hK166 ?_
                      refine w_ret ?_
                      refine seq_r hK158 ?_
                      refine fin_r1 hK0 rfl ?_
                      try obtain rfl := Option.some.inj h
                      have hS : Own _ (F) := Own.catI_ (bl := [[⟨v63, 1, b114.map (AV.int .i64)⟩], [⟨v65, 1, ouw nm_SInt d118 b115⟩], [⟨v68, 1, b116.map (AV.int .i64)⟩], [⟨v70, 1, b117.map (AV.int .i64)⟩], [⟨.ptr ip71 wp71 0 0, 5, [.agg [v63, v65, v68, v70, .int .i64 b55.At]]⟩], (inn np_SInt (AV.int .i64) 1 d118 b115)]) (F := F) hS 6 rfl [] (by decide)
                      exact hP _ hS
                    · refine w_skip ?_
                      refine seq_n hK158 ?_
                      refine w_seq fun K167 hK167 => ?_
                      refine w_reg gC ?_
                      try simp only [W, Nat.reduceAdd]
                      refine seq_n hK167 ?_
                      refine w_seq fun K168 hK168 => ?_
                      refine w_reg gC ?_
                      try simp only [W, EE, reduceIte, Nat.reduceAdd, Nat.reduceLeDiff, hS.var 4 rfl]
                      have hS : Own _ (⟨v63, 1, b114.map (AV.int .i64)⟩ :: ⟨v65, 1, ouw nm_SInt d118 b115⟩ :: ⟨v68, 1, b116.map (AV.int .i64)⟩ :: ⟨v70, 1, b117.map (AV.int .i64)⟩ :: ⟨.ptr ip71 wp71 0 0, 5, [.agg [v63, v65, v68, v70, .int .i64 b55.At]]⟩ :: ((inn np_SInt (AV.int .i64) 1 d118 b115) ++ F)) := hS
                      refine w_callS (rsh := [[.sc]]) (ys := [.agg [.fz (b114.map (AV.int .i64)), .fz (b115.map (fzl (AV.int .i64))), .fz (b116.map (AV.int .i64)), .fz (b117.map (AV.int .i64)), .int .i64 b55.At], .int .i64 1]) h rfl (pv_c (sn_agg (sm_c (sn_ow hS 0 rfl qv63 (fun _ => rfl)) (sm_c (sn_owN (enc := (fzl (AV.int .i64))) hS 1 rfl qv65 qd118 (fun _ h => (List.mem_cons_of_mem _ (List.mem_cons_of_mem _ (List.mem_cons_of_mem _ (List.mem_cons_of_mem _ (List.mem_cons_of_mem _ (List.mem_append_left _ h))))))) (fun _ _ ha hk => sn_it hk ha (fun _ => rfl))) (sm_c (sn_ow hS 2 rfl qv68 (fun _ => rfl)) (sm_c (sn_ow hS 3 rfl qv70 (fun _ => rfl)) (sm_c rfl (sm_n _))))))) (pv_c rfl pv_n)) fun b169 hb169 h => ⟨.int .i64 b169, laws_heldTurns_w hb169 (Own.nil _) fun H hS => TV_ok rfl (TV_p rfl (TV_n rfl)), ⟨rfl, rfl, fun _ => rfl⟩, ?_⟩
                      try simp only [W]
                      refine seq_n hK168 ?_
                      refine w_seq fun K170 hK170 => ?_
                      refine w_seq fun K171 hK171 => ?_
                      refine w_reg gC ?_
                      try simp only [W, EE, Nat.reduceAdd]
                      refine seq_n hK171 ?_
                      refine w_if ?_
                      simp only [W]
                      refine w_cnd h (fun hc h => ?_) (fun hc h => ?_)
                      · refine w_seq fun K172 hK172 => ?_
                        refine w_reg gC ?_
                        try simp only [W, Nat.reduceAdd]
                        refine seq_n hK172 ?_
                        refine w_ret ?_
                        refine seq_r hK170 ?_
                        refine fin_r1 hK0 rfl ?_
                        try obtain rfl := Option.some.inj h
                        have hS : Own _ (F) := Own.catI_ (bl := [[⟨v63, 1, b114.map (AV.int .i64)⟩], [⟨v65, 1, ouw nm_SInt d118 b115⟩], [⟨v68, 1, b116.map (AV.int .i64)⟩], [⟨v70, 1, b117.map (AV.int .i64)⟩], [⟨.ptr ip71 wp71 0 0, 5, [.agg [v63, v65, v68, v70, .int .i64 b55.At]]⟩], (inn np_SInt (AV.int .i64) 1 d118 b115)]) (F := F) hS 6 rfl [] (by decide)
                        exact hP _ hS
                      · refine w_skip ?_
                        refine seq_n hK170 ?_
                        refine w_seq fun K173 hK173 => ?_
                        refine w_seq fun K174 hK174 => ?_
                        refine w_reg gC ?_
                        try simp only [W, EE, Nat.reduceAdd]
                        refine seq_n hK174 ?_
                        refine w_if ?_
                        simp only [W]
                        refine w_cnd h (fun hc h => ?_) (fun hc h => ?_)
                        · refine w_seq fun K175 hK175 => ?_
                          refine w_reg gC ?_
                          try simp only [W, Nat.reduceAdd]
                          refine seq_n hK175 ?_
                          refine w_ret ?_
                          refine seq_r hK173 ?_
                          refine fin_r1 hK0 rfl ?_
                          try obtain rfl := Option.some.inj h
                          have hS : Own _ (F) := Own.catI_ (bl := [[⟨v63, 1, b114.map (AV.int .i64)⟩], [⟨v65, 1, ouw nm_SInt d118 b115⟩], [⟨v68, 1, b116.map (AV.int .i64)⟩], [⟨v70, 1, b117.map (AV.int .i64)⟩], [⟨.ptr ip71 wp71 0 0, 5, [.agg [v63, v65, v68, v70, .int .i64 b55.At]]⟩], (inn np_SInt (AV.int .i64) 1 d118 b115)]) (F := F) hS 6 rfl [] (by decide)
                          exact hP _ hS
                        · refine w_skip ?_
                          refine seq_n hK173 ?_
                          refine w_seq fun K176 hK176 => ?_
                          refine w_reg gC ?_
                          try simp only [W, Nat.reduceAdd]
                          refine seq_n hK176 ?_
                          refine w_ret ?_
                          refine fin_r1 hK0 rfl ?_
                          try obtain rfl := Option.some.inj h
                          have hS : Own _ (F) := Own.catI_ (bl := [[⟨v63, 1, b114.map (AV.int .i64)⟩], [⟨v65, 1, ouw nm_SInt d118 b115⟩], [⟨v68, 1, b116.map (AV.int .i64)⟩], [⟨v70, 1, b117.map (AV.int .i64)⟩], [⟨.ptr ip71 wp71 0 0, 5, [.agg [v63, v65, v68, v70, .int .i64 b55.At]]⟩], (inn np_SInt (AV.int .i64) 1 d118 b115)]) (F := F) hS 6 rfl [] (by decide)
                          exact hP _ hS
end Go.VxW
