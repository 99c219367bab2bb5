import Derived.Test.YtcgnkhdeckgaaaaVlG1
import Derived.Test.YtcgnkhdeckgaaaaProg
import Derived.Test.YtcgnkhdeckgaaaaVaE
import Derived.KernelRfl
open Go Go.VS
set_option maxRecDepth 8000
set_option maxHeartbeats 4000000
namespace Go.VxW
theorem impl_NextTurn_w {a0 : Turns} {r : (Turns × List Int × Bool)} (h : impl_NextTurn a0 = some r) {F : List It} {H : Heap} (hS : Own H (F)) {P : AV → Heap → Prop} (hP : ∀ v51 : AV, isSl v51 → ∀ v53 : AV, isSl v53 → ∀ d55 : List AV, isSls d55 (r.1.Queues).length → ∀ v56 : AV, isSl v56 → ∀ v58 : AV, isSl v58 → ∀ v60 : AV, isSl v60 → ∀ H', Own H' (⟨v51, 1, r.1.Quanta.map (AV.int .i64)⟩ :: ⟨v53, 1, ouw nm_SInt d55 r.1.Queues⟩ :: ⟨v56, 1, r.1.Credit.map (AV.int .i64)⟩ :: ⟨v58, 1, r.1.Sent.map (AV.int .i64)⟩ :: ⟨v60, 1, r.2.1.map (AV.int .i64)⟩ :: ((inn np_SInt (AV.int .i64) 1 d55 r.1.Queues) ++ F)) → P (.tup [.agg [v51, v53, v56, v58, .int .i64 r.1.At], v60, .bool r.2.2]) H') : ACall C 23 [.agg [.fz (a0.Quanta.map (AV.int .i64)), .fz (a0.Queues.map (fzl (AV.int .i64))), .fz (a0.Credit.map (AV.int .i64)), .fz (a0.Sent.map (AV.int .i64)), .int .i64 a0.At]] H P := by
  refine acall_of gC (res := [.cell 2 27, .tmp 3, .tmp 4]) (n := 23) rfl rfl rfl rfl fun K0 hK0 => ?_
  simp only [W, Nat.reduceSub, Nat.reduceAdd, List.replicate]
  unfold impl_NextTurn at h
  refine w_seq fun K1 hK1 => ?_
  refine w_reg gC ?_
  try simp only [W, Nat.reduceAdd]
  refine w_box hS rfl rfl rfl rfl fun ip2 wp2 H hS => ?_
  try simp only [W]
  refine w_alloc hS rfl rfl fun ip4 wp4 H hS => ?_
  try simp only [W]
  refine seq_n hK1 ?_
  refine w_seq fun K6 hK6 => ?_
  refine w_seq fun K7 hK7 => ?_
  refine w_reg gC ?_
  try simp only [W, EE, reduceIte, Nat.reduceAdd, Nat.reduceLeDiff, hS.var 1 rfl]
  refine w_call h fun b8 hb8 h => ?_
  refine impl_GoodTurns_w hb8 hS fun H hS => ?_
  try simp only [W]
  refine seq_n hK7 ?_
  refine w_if ?_
  simp only [W]
  refine w_cnd h (fun hc h => ?_) (fun hc h => ?_)
  · refine w_seq fun K9 hK9 => ?_
    refine w_reg gC ?_
    try simp only [W, EE, Nat.reduceAdd]
    refine w_bld rfl rfl rfl rfl rfl ?_
    try simp only [W]
    refine w_stv (a := .agg [.nil, .nil, .nil, .nil, .int .i64 0]) (y' := .agg [.nil, .nil, .nil, .nil, .int .i64 0]) 0 hS rfl rfl rfl rfl rfl rfl rfl rfl fun H hS => ?_
    try simp only [W]
    refine seq_n hK9 ?_
    refine w_ret ?_
    refine seq_r hK6 ?_
    have hS := hS.nil_ 1
    have hS := hS.nil_ 1
    obtain ⟨d12, qd12, hS⟩ := noneN (p := np_SInt) (c := (AV.int .i64)) (z := 1) (m := nm_SInt) hS
    have hS : Own _ (⟨AV.nil, 1, ouw nm_SInt d12 ([] : List (List Int))⟩ :: ⟨AV.nil, 1, ([] : List Int).map (AV.int .i64)⟩ :: ⟨.ptr ip4 wp4 0 0, 5, [.agg [.nil, .nil, .nil, .nil, .int .i64 0]]⟩ :: ⟨.ptr ip2 wp2 0 0, 5, [.agg [.fz (a0.Quanta.map (AV.int .i64)), .fz (a0.Queues.map (fzl (AV.int .i64))), .fz (a0.Credit.map (AV.int .i64)), .fz (a0.Sent.map (AV.int .i64)), .int .i64 a0.At]]⟩ :: ((inn np_SInt (AV.int .i64) 1 d12 ([] : List (List Int))) ++ (F))) := Own.catI_ (bl := [[⟨AV.nil, 1, ouw nm_SInt d12 ([] : List (List Int))⟩], (inn np_SInt (AV.int .i64) 1 d12 ([] : List (List Int))), [⟨AV.nil, 1, ([] : List Int).map (AV.int .i64)⟩], [⟨.ptr ip4 wp4 0 0, 5, [.agg [.nil, .nil, .nil, .nil, .int .i64 0]]⟩], [⟨.ptr ip2 wp2 0 0, 5, [.agg [.fz (a0.Quanta.map (AV.int .i64)), .fz (a0.Queues.map (fzl (AV.int .i64))), .fz (a0.Credit.map (AV.int .i64)), .fz (a0.Sent.map (AV.int .i64)), .int .i64 a0.At]]⟩]]) (F := F) hS 5 rfl [0, 2, 3, 4, 1] (by decide)
    have hS := hS.nil_ 1
    have hS := hS.nil_ 1
    have hS := hS.nil_ 1
    refine fin_r hK0 (res_c rfl rfl (hS.var 5 rfl) rfl (res_tc rfl (res_tc rfl rfl))) ?_
    try obtain rfl := Option.some.inj h
    have hS : Own _ (⟨AV.nil, 1, ([] : List Int).map (AV.int .i64)⟩ :: ⟨AV.nil, 1, ouw nm_SInt d12 ([] : List (List Int))⟩ :: ⟨AV.nil, 1, ([] : List Int).map (AV.int .i64)⟩ :: ⟨AV.nil, 1, ([] : List Int).map (AV.int .i64)⟩ :: ⟨AV.nil, 1, ([] : List Int).map (AV.int .i64)⟩ :: ((inn np_SInt (AV.int .i64) 1 d12 ([] : List (List Int))) ++ (F))) := Own.catI_ (bl := [[⟨AV.nil, 1, ([] : List Int).map (AV.int .i64)⟩], [⟨AV.nil, 1, ([] : List Int).map (AV.int .i64)⟩], [⟨AV.nil, 1, ([] : List Int).map (AV.int .i64)⟩], [⟨AV.nil, 1, ouw nm_SInt d12 ([] : List (List Int))⟩], [⟨AV.nil, 1, ([] : List Int).map (AV.int .i64)⟩], [⟨.ptr ip4 wp4 0 0, 5, [.agg [.nil, .nil, .nil, .nil, .int .i64 0]]⟩], [⟨.ptr ip2 wp2 0 0, 5, [.agg [.fz (a0.Quanta.map (AV.int .i64)), .fz (a0.Queues.map (fzl (AV.int .i64))), .fz (a0.Credit.map (AV.int .i64)), .fz (a0.Sent.map (AV.int .i64)), .int .i64 a0.At]]⟩], (inn np_SInt (AV.int .i64) 1 d12 ([] : List (List Int)))]) (F := F) hS 8 rfl [4, 3, 2, 1, 0, 7] (by decide)
    exact hP _ isSl_nil _ isSl_nil _ qd12 _ isSl_nil _ isSl_nil _ isSl_nil _ hS
  · refine w_skip ?_
    refine seq_n hK6 ?_
    refine w_seq fun K16 hK16 => ?_
    refine w_reg gC ?_
    try simp only [W, EE, reduceIte, Nat.reduceAdd, Nat.reduceLeDiff, hS.var 1 rfl]
    refine w_call h fun b17 hb17 h => ?_
    refine impl_Turns_copied_w hb17 hS fun v18 qv18 v20 qv20 d22 qd22 v23 qv23 v25 qv25 H hS => ?_
    have hS : Own _ (⟨v18, 1, b17.Quanta.map (AV.int .i64)⟩ :: ⟨v20, 1, ouw nm_SInt d22 b17.Queues⟩ :: ⟨v23, 1, b17.Credit.map (AV.int .i64)⟩ :: ⟨v25, 1, b17.Sent.map (AV.int .i64)⟩ :: ⟨.ptr ip4 wp4 0 0, 5, [.agg [.nil, .nil, .nil, .nil, .int .i64 0]]⟩ :: ⟨.ptr ip2 wp2 0 0, 5, [.agg [.fz (a0.Quanta.map (AV.int .i64)), .fz (a0.Queues.map (fzl (AV.int .i64))), .fz (a0.Credit.map (AV.int .i64)), .fz (a0.Sent.map (AV.int .i64)), .int .i64 a0.At]]⟩ :: ((inn np_SInt (AV.int .i64) 1 d22 b17.Queues) ++ (F))) := Own.catI_ (bl := [[⟨v18, 1, b17.Quanta.map (AV.int .i64)⟩], [⟨v20, 1, ouw nm_SInt d22 b17.Queues⟩], [⟨v23, 1, b17.Credit.map (AV.int .i64)⟩], [⟨v25, 1, b17.Sent.map (AV.int .i64)⟩], (inn np_SInt (AV.int .i64) 1 d22 b17.Queues), [⟨.ptr ip4 wp4 0 0, 5, [.agg [.nil, .nil, .nil, .nil, .int .i64 0]]⟩], [⟨.ptr ip2 wp2 0 0, 5, [.agg [.fz (a0.Quanta.map (AV.int .i64)), .fz (a0.Queues.map (fzl (AV.int .i64))), .fz (a0.Credit.map (AV.int .i64)), .fz (a0.Sent.map (AV.int .i64)), .int .i64 a0.At]]⟩]]) (F := F) hS 7 rfl [0, 1, 2, 3, 5, 6, 4] (by decide)
    try simp only [W]
    refine w_alloc hS rfl rfl fun ip27 wp27 H hS => ?_
    try simp only [W]
    refine w_stv (a := .agg [v18, v20, v23, v25, .int .i64 b17.At]) (y' := .agg [v18, v20, v23, v25, .int .i64 b17.At]) 0 hS rfl rfl rfl rfl rfl (by simp only [storA, List.all_cons, List.all_nil, qv18.stor, qv20.stor, qv23.stor, qv25.stor]; rfl) rfl rfl fun H hS => ?_
    try simp only [W]
    refine seq_n hK16 ?_
    refine w_seq fun K29 hK29 => ?_
    refine w_reg gC ?_
    try simp only [W, Nat.reduceAdd]
    have hS : Own _ (⟨.ptr ip27 wp27 0 0, 5, [.agg [v18, v20, v23, v25, .int .i64 b17.At]]⟩ :: ⟨v18, 1, b17.Quanta.map (AV.int .i64)⟩ :: ⟨v20, 1, ouw nm_SInt d22 b17.Queues⟩ :: ⟨v23, 1, b17.Credit.map (AV.int .i64)⟩ :: ⟨v25, 1, b17.Sent.map (AV.int .i64)⟩ :: ((inn np_SInt (AV.int .i64) 1 d22 b17.Queues) ++ (⟨.ptr ip4 wp4 0 0, 5, [.agg [.nil, .nil, .nil, .nil, .int .i64 0]]⟩ :: ⟨.ptr ip2 wp2 0 0, 5, [.agg [.fz (a0.Quanta.map (AV.int .i64)), .fz (a0.Queues.map (fzl (AV.int .i64))), .fz (a0.Credit.map (AV.int .i64)), .fz (a0.Sent.map (AV.int .i64)), .int .i64 a0.At]]⟩ :: F))) := Own.catI_ (bl := [[⟨.ptr ip27 wp27 0 0, 5, [.agg [v18, v20, v23, v25, .int .i64 b17.At]]⟩], [⟨v18, 1, b17.Quanta.map (AV.int .i64)⟩], [⟨v20, 1, ouw nm_SInt d22 b17.Queues⟩], [⟨v23, 1, b17.Credit.map (AV.int .i64)⟩], [⟨v25, 1, b17.Sent.map (AV.int .i64)⟩], [⟨.ptr ip4 wp4 0 0, 5, [.agg [.nil, .nil, .nil, .nil, .int .i64 0]]⟩], [⟨.ptr ip2 wp2 0 0, 5, [.agg [.fz (a0.Quanta.map (AV.int .i64)), .fz (a0.Queues.map (fzl (AV.int .i64))), .fz (a0.Credit.map (AV.int .i64)), .fz (a0.Sent.map (AV.int .i64)), .int .i64 a0.At]]⟩], (inn np_SInt (AV.int .i64) 1 d22 b17.Queues)]) (F := F) hS 8 rfl [0, 1, 2, 3, 4, 7, 5, 6] (by decide)
    refine w_call h fun b30 hb30 h => ?_
    obtain ⟨b31, b32, b33⟩ := b30
    try dsimp only at h
    refine impl_Turns_turn_w hb30 hS qv18 qv20 qd22 qv23 qv25 fun v39 qv39 v34 qv34 v35 qv35 d36 qd36 v37 qv37 v38 qv38 H hS => ?_
    have hS : Own _ (⟨v39, 1, b31.map (AV.int .i64)⟩ :: ⟨.ptr ip27 wp27 0 0, 5, [.agg [v34, v35, v37, v38, .int .i64 b33.At]]⟩ :: ⟨v34, 1, b33.Quanta.map (AV.int .i64)⟩ :: ⟨v35, 1, ouw nm_SInt d36 b33.Queues⟩ :: ⟨v37, 1, b33.Credit.map (AV.int .i64)⟩ :: ⟨v38, 1, b33.Sent.map (AV.int .i64)⟩ :: ⟨.ptr ip4 wp4 0 0, 5, [.agg [.nil, .nil, .nil, .nil, .int .i64 0]]⟩ :: ⟨.ptr ip2 wp2 0 0, 5, [.agg [.fz (a0.Quanta.map (AV.int .i64)), .fz (a0.Queues.map (fzl (AV.int .i64))), .fz (a0.Credit.map (AV.int .i64)), .fz (a0.Sent.map (AV.int .i64)), .int .i64 a0.At]]⟩ :: ((inn np_SInt (AV.int .i64) 1 d36 b33.Queues) ++ (F))) := Own.catI_ (bl := [[⟨v39, 1, b31.map (AV.int .i64)⟩], [⟨.ptr ip27 wp27 0 0, 5, [.agg [v34, v35, v37, v38, .int .i64 b33.At]]⟩], [⟨v34, 1, b33.Quanta.map (AV.int .i64)⟩], [⟨v35, 1, ouw nm_SInt d36 b33.Queues⟩], [⟨v37, 1, b33.Credit.map (AV.int .i64)⟩], [⟨v38, 1, b33.Sent.map (AV.int .i64)⟩], (inn np_SInt (AV.int .i64) 1 d36 b33.Queues), [⟨.ptr ip4 wp4 0 0, 5, [.agg [.nil, .nil, .nil, .nil, .int .i64 0]]⟩], [⟨.ptr ip2 wp2 0 0, 5, [.agg [.fz (a0.Quanta.map (AV.int .i64)), .fz (a0.Queues.map (fzl (AV.int .i64))), .fz (a0.Credit.map (AV.int .i64)), .fz (a0.Sent.map (AV.int .i64)), .int .i64 a0.At]]⟩]]) (F := F) hS 9 rfl [0, 1, 2, 3, 4, 5, 7, 8, 6] (by decide)
    try simp only [W]
    refine seq_n hK29 ?_
    refine w_seq fun K41 hK41 => ?_
    refine w_seq fun K42 hK42 => ?_
    refine w_reg gC ?_
    try simp only [W, Nat.reduceAdd]
    refine seq_n hK42 ?_
    refine w_if ?_
    simp only [W]
    refine w_cnd h (fun hc h => ?_) (fun hc h => ?_)
    · refine w_seq fun K43 hK43 => ?_
      refine w_reg gC ?_
      try simp only [W, EE, Nat.reduceAdd]
      refine w_bld rfl rfl rfl rfl rfl ?_
      try simp only [W]
      refine w_stv (a := .agg [.nil, .nil, .nil, .nil, .int .i64 0]) (y' := .agg [.nil, .nil, .nil, .nil, .int .i64 0]) 6 hS rfl rfl rfl rfl rfl rfl rfl rfl fun H hS => ?_
      try simp only [W]
      refine seq_n hK43 ?_
      refine w_ret ?_
      refine seq_r hK41 ?_
      have hS := hS.nil_ 1
      have hS := hS.nil_ 1
      obtain ⟨d46, qd46, hS⟩ := noneN (p := np_SInt) (c := (AV.int .i64)) (z := 1) (m := nm_SInt) hS
      have hS : Own _ (⟨AV.nil, 1, ouw nm_SInt d46 ([] : List (List Int))⟩ :: ⟨AV.nil, 1, ([] : List Int).map (AV.int .i64)⟩ :: ⟨v39, 1, b31.map (AV.int .i64)⟩ :: ⟨.ptr ip27 wp27 0 0, 5, [.agg [v34, v35, v37, v38, .int .i64 b33.At]]⟩ :: ⟨v34, 1, b33.Quanta.map (AV.int .i64)⟩ :: ⟨v35, 1, ouw nm_SInt d36 b33.Queues⟩ :: ⟨v37, 1, b33.Credit.map (AV.int .i64)⟩ :: ⟨v38, 1, b33.Sent.map (AV.int .i64)⟩ :: ⟨.ptr ip4 wp4 0 0, 5, [.agg [.nil, .nil, .nil, .nil, .int .i64 0]]⟩ :: ⟨.ptr ip2 wp2 0 0, 5, [.agg [.fz (a0.Quanta.map (AV.int .i64)), .fz (a0.Queues.map (fzl (AV.int .i64))), .fz (a0.Credit.map (AV.int .i64)), .fz (a0.Sent.map (AV.int .i64)), .int .i64 a0.At]]⟩ :: ((inn np_SInt (AV.int .i64) 1 d46 ([] : List (List Int))) ++ (((inn np_SInt (AV.int .i64) 1 d36 b33.Queues) ++ (F))))) := Own.catI_ (bl := [[⟨AV.nil, 1, ouw nm_SInt d46 ([] : List (List Int))⟩], (inn np_SInt (AV.int .i64) 1 d46 ([] : List (List Int))), [⟨AV.nil, 1, ([] : List Int).map (AV.int .i64)⟩], [⟨v39, 1, b31.map (AV.int .i64)⟩], [⟨.ptr ip27 wp27 0 0, 5, [.agg [v34, v35, v37, v38, .int .i64 b33.At]]⟩], [⟨v34, 1, b33.Quanta.map (AV.int .i64)⟩], [⟨v35, 1, ouw nm_SInt d36 b33.Queues⟩], [⟨v37, 1, b33.Credit.map (AV.int .i64)⟩], [⟨v38, 1, b33.Sent.map (AV.int .i64)⟩], [⟨.ptr ip4 wp4 0 0, 5, [.agg [.nil, .nil, .nil, .nil, .int .i64 0]]⟩], [⟨.ptr ip2 wp2 0 0, 5, [.agg [.fz (a0.Quanta.map (AV.int .i64)), .fz (a0.Queues.map (fzl (AV.int .i64))), .fz (a0.Credit.map (AV.int .i64)), .fz (a0.Sent.map (AV.int .i64)), .int .i64 a0.At]]⟩], (inn np_SInt (AV.int .i64) 1 d36 b33.Queues)]) (F := F) hS 12 rfl [0, 2, 3, 4, 5, 6, 7, 8, 9, 10, 1, 11] (by decide)
      have hS := hS.nil_ 1
      have hS := hS.nil_ 1
      have hS := hS.nil_ 1
      refine fin_r hK0 (res_c rfl rfl (hS.var 11 rfl) rfl (res_tc rfl (res_tc rfl rfl))) ?_
      try obtain rfl := Option.some.inj h
      have hS : Own _ (⟨AV.nil, 1, ([] : List Int).map (AV.int .i64)⟩ :: ⟨AV.nil, 1, ouw nm_SInt d46 ([] : List (List Int))⟩ :: ⟨AV.nil, 1, ([] : List Int).map (AV.int .i64)⟩ :: ⟨AV.nil, 1, ([] : List Int).map (AV.int .i64)⟩ :: ⟨AV.nil, 1, ([] : List Int).map (AV.int .i64)⟩ :: ((inn np_SInt (AV.int .i64) 1 d46 ([] : List (List Int))) ++ (F))) := Own.catI_ (bl := [[⟨AV.nil, 1, ([] : List Int).map (AV.int .i64)⟩], [⟨AV.nil, 1, ([] : List Int).map (AV.int .i64)⟩], [⟨AV.nil, 1, ([] : List Int).map (AV.int .i64)⟩], [⟨AV.nil, 1, ouw nm_SInt d46 ([] : List (List Int))⟩], [⟨AV.nil, 1, ([] : List Int).map (AV.int .i64)⟩], [⟨v39, 1, b31.map (AV.int .i64)⟩], [⟨.ptr ip27 wp27 0 0, 5, [.agg [v34, v35, v37, v38, .int .i64 b33.At]]⟩], [⟨v34, 1, b33.Quanta.map (AV.int .i64)⟩], [⟨v35, 1, ouw nm_SInt d36 b33.Queues⟩], [⟨v37, 1, b33.Credit.map (AV.int .i64)⟩], [⟨v38, 1, b33.Sent.map (AV.int .i64)⟩], [⟨.ptr ip4 wp4 0 0, 5, [.agg [.nil, .nil, .nil, .nil, .int .i64 0]]⟩], [⟨.ptr ip2 wp2 0 0, 5, [.agg [.fz (a0.Quanta.map (AV.int .i64)), .fz (a0.Queues.map (fzl (AV.int .i64))), .fz (a0.Credit.map (AV.int .i64)), .fz (a0.Sent.map (AV.int .i64)), .int .i64 a0.At]]⟩], (inn np_SInt (AV.int .i64) 1 d46 ([] : List (List Int))), (inn np_SInt (AV.int .i64) 1 d36 b33.Queues)]) (F := F) hS 15 rfl [4, 3, 2, 1, 0, 13] (by decide)
      exact hP _ isSl_nil _ isSl_nil _ qd46 _ isSl_nil _ isSl_nil _ isSl_nil _ hS
    · refine w_skip ?_
      refine seq_n hK41 ?_
      refine w_seq fun K50 hK50 => ?_
      refine w_reg gC ?_
      try simp only [W, EE, reduceIte, Nat.reduceAdd, Nat.reduceLeDiff, hS.var 1 rfl]
      refine w_stv (a := .agg [v34, v35, v37, v38, .int .i64 b33.At]) (y' := .agg [v34, v35, v37, v38, .int .i64 b33.At]) 6 hS rfl rfl rfl rfl rfl (by simp only [storA, List.all_cons, List.all_nil, qv34.stor, qv35.stor, qv37.stor, qv38.stor]; rfl) rfl rfl fun H hS => ?_
      try simp only [W]
      refine seq_n hK50 ?_
      refine w_ret ?_
      refine fin_r hK0 (res_c rfl rfl (hS.var 6 rfl) rfl (res_tc rfl (res_tc rfl rfl))) ?_
      try obtain rfl := Option.some.inj h
      have hS : Own _ (⟨v34, 1, b33.Quanta.map (AV.int .i64)⟩ :: ⟨v35, 1, ouw nm_SInt d36 b33.Queues⟩ :: ⟨v37, 1, b33.Credit.map (AV.int .i64)⟩ :: ⟨v38, 1, b33.Sent.map (AV.int .i64)⟩ :: ⟨v39, 1, b31.map (AV.int .i64)⟩ :: ((inn np_SInt (AV.int .i64) 1 d36 b33.Queues) ++ (F))) := Own.catI_ (bl := [[⟨v39, 1, b31.map (AV.int .i64)⟩], [⟨.ptr ip27 wp27 0 0, 5, [.agg [v34, v35, v37, v38, .int .i64 b33.At]]⟩], [⟨v34, 1, b33.Quanta.map (AV.int .i64)⟩], [⟨v35, 1, ouw nm_SInt d36 b33.Queues⟩], [⟨v37, 1, b33.Credit.map (AV.int .i64)⟩], [⟨v38, 1, b33.Sent.map (AV.int .i64)⟩], [⟨.ptr ip4 wp4 0 0, 5, [.agg [v34, v35, v37, v38, .int .i64 b33.At]]⟩], [⟨.ptr ip2 wp2 0 0, 5, [.agg [.fz (a0.Quanta.map (AV.int .i64)), .fz (a0.Queues.map (fzl (AV.int .i64))), .fz (a0.Credit.map (AV.int .i64)), .fz (a0.Sent.map (AV.int .i64)), .int .i64 a0.At]]⟩], (inn np_SInt (AV.int .i64) 1 d36 b33.Queues)]) (F := F) hS 9 rfl [2, 3, 4, 5, 0, 8] (by decide)
      exact hP _ qv34 _ qv35 _ qd36 _ qv37 _ qv38 _ qv39 _ hS
theorem laws_eqIntS_w {a0 : List Int} {a1 : List Int} {r : (Bool)} (h : laws_eqIntS a0 a1 = some r) {F : List It} {H : Heap} (hS : Own H (F)) {P : AV → Heap → Prop} (hP : ∀ H', Own H' (F) → P (.bool r) H') : ACall C 24 [.fz (a0.map (AV.int .i64)), .fz (a1.map (AV.int .i64))] H P := by
  refine acall_of gC (res := [.tmp 4]) (n := 26) rfl rfl rfl rfl fun K0 hK0 => ?_
  simp only [W, Nat.reduceSub, Nat.reduceAdd, List.replicate]
  unfold laws_eqIntS at h
  refine w_seq fun K1 hK1 => ?_
  refine w_reg gC ?_
  try simp only [W, Nat.reduceAdd]
  refine seq_n hK1 ?_
  refine w_seq fun K2 hK2 => ?_
  refine w_seq fun K3 hK3 => ?_
  refine w_reg gC ?_
  try simp only [W, EE, Nat.reduceAdd]
  refine seq_n hK3 ?_
  refine w_if ?_
  simp only [W]
  refine w_cnd h (fun hc h => ?_) (fun hc h => ?_)
  · refine w_seq fun K4 hK4 => ?_
    refine w_reg gC ?_
    try simp only [W, Nat.reduceAdd]
    refine seq_n hK4 ?_
    refine w_ret ?_
    refine seq_r hK2 ?_
    refine fin_r1 hK0 rfl ?_
    try obtain rfl := Option.some.inj h
    exact hP _ hS
  · refine w_skip ?_
    refine seq_n hK2 ?_
    refine w_seq fun K5 hK5 => ?_
    refine w_seq fun K6 hK6 => ?_
    refine w_reg gC ?_
    try simp only [W, Nat.reduceAdd]
    refine seq_n hK6 ?_
    obtain ⟨y8, hw9, g15⟩ := Option.bind_eq_some_iff.1 h
    refine w_join gC (fun s H => y8 = LR.next () ∧ s = [u, u, u, u, u, u, u, u, u, u, u, u, u, u, u, u, u, u, u, u, u, u, u, u, u, u] ∧ Own H (F)) (fun K10 hK10 => ?_) (fun s H hq => ?_)
    · refine w_blk fun K11 hK11 => ?_
      refine w_loop gC hw9 (fun x s H => s = [.fz (a0.map (AV.int .i64)), .fz (a1.map (AV.int .i64)), u, u, u, .int .i64 x, u, u, u, u, u, u, u, u, u, u, u, u, u, u, u, u, u, u, u, u] ∧ Own H (F)) ⟨rfl, hS⟩ (fun x7 y14 s H h hd13 hi K12 hK12 => ?_)
      skip
      try dsimp only at hi
      obtain ⟨rfl, hS⟩ := hi
      simp only [laws_eqIntS_l0] at h
      refine w_seq fun K16 hK16 => ?_
      refine w_seq fun K17 hK17 => ?_
      refine w_reg gC ?_
      try simp only [W, EE, Nat.reduceAdd]
      refine seq_n hK17 ?_
      refine w_if ?_
      simp only [W]
      refine w_cnd h (fun hc h => ?_) (fun hc h => ?_)
      · refine w_skip ?_
        refine seq_n hK16 ?_
        refine w_seq fun K18 hK18 => ?_
        refine w_blk fun K19 hK19 => ?_
        refine w_seq fun K20 hK20 => ?_
        refine w_draw0 gC (by kernel_rfl) ?_
        try simp only [W, EE, Nat.reduceAdd]
        refine w_fz rfl rfl rfl (fun _ => rfl) h fun b21 hb21 h => ?_
        try simp only [W, EE]
        refine w_fz rfl rfl rfl (fun _ => rfl) h fun b22 hb22 h => ?_
        try simp only [W, EE]
        refine seq_n hK20 ?_
        refine w_if ?_
        simp only [W]
        refine w_cnd h (fun hc h => ?_) (fun hc h => ?_)
        · refine w_seq fun K23 hK23 => ?_
          refine w_reg gC ?_
          try simp only [W, Nat.reduceAdd]
          refine seq_n hK23 ?_
          refine w_ret ?_
          refine blk_r hK19 ?_
          refine seq_r hK18 ?_
          try obtain rfl := Option.some.inj h
          obtain rfl := hd13 _ rfl
          have h : (some (LR.done false) : Option (LR Unit (Bool))) = some (LR.done false) := rfl
          refine lp_r hK12 ?_
          refine blk_r hK11 ?_
          try obtain rfl := Option.some.inj h
          obtain rfl := Option.some.inj g15
          have h : (some false : Option (Bool)) = some false := rfl
          refine cut_r hK10 ?_
          refine seq_r hK5 ?_
          refine fin_r1 hK0 rfl ?_
          try obtain rfl := Option.some.inj h
          exact hP _ hS
        · refine w_skip ?_
          refine blk_n0 hK19 ?_
          refine seq_n hK18 ?_
          refine w_reg gC ?_
          try simp only [W, EE, Nat.reduceAdd]
          exact lp_n hK12 h ⟨rfl, hS⟩
      · refine w_exit ?_
        refine seq_x hK16 ?_
        try obtain rfl := Option.some.inj h
        obtain rfl := hd13 _ rfl
        have h : (some (LR.next ()) : Option (LR Unit (Bool))) = some (LR.next ()) := rfl
        refine lp_x hK12 ?_
        refine blk_e hK11 ?_
        exact cut_n hK10 ⟨(Option.some.inj h).symm, rfl, hS⟩
    · obtain ⟨rfl, rfl, hS⟩ := hq
      replace h := g15
      try dsimp only at h
      refine seq_n hK5 ?_
      refine w_seq fun K30 hK30 => ?_
      refine w_reg gC ?_
      try simp only [W, Nat.reduceAdd]
      refine seq_n hK30 ?_
      refine w_ret ?_
      refine fin_r1 hK0 rfl ?_
      try obtain rfl := Option.some.inj h
      exact hP _ hS
theorem laws_eqIntSS_w {a0 : List (List Int)} {a1 : List (List Int)} {r : (Bool)} (h : laws_eqIntSS a0 a1 = some r) {F : List It} {H : Heap} (hS : Own H (F)) {P : AV → Heap → Prop} (hP : ∀ H', Own H' (F) → P (.bool r) H') : ACall C 117 [.fz (a0.map (fzl (AV.int .i64))), .fz (a1.map (fzl (AV.int .i64)))] H P := by
  refine acall_of gC (res := [.tmp 4]) (n := 27) rfl rfl rfl rfl fun K0 hK0 => ?_
  simp only [W, Nat.reduceSub, Nat.reduceAdd, List.replicate]
  unfold laws_eqIntSS at h
  refine w_seq fun K1 hK1 => ?_
  refine w_reg gC ?_
  try simp only [W, Nat.reduceAdd]
  refine seq_n hK1 ?_
  refine w_seq fun K2 hK2 => ?_
  refine w_seq fun K3 hK3 => ?_
  refine w_reg gC ?_
  try simp only [W, EE, Nat.reduceAdd]
  refine seq_n hK3 ?_
  refine w_if ?_
  simp only [W]
  refine w_cnd h (fun hc h => ?_) (fun hc h => ?_)
  · refine w_seq fun K4 hK4 => ?_
    refine w_reg gC ?_
    try simp only [W, Nat.reduceAdd]
    refine seq_n hK4 ?_
    refine w_ret ?_
    refine seq_r hK2 ?_
    refine fin_r1 hK0 rfl ?_
    try obtain rfl := Option.some.inj h
    exact hP _ hS
  · refine w_skip ?_
    refine seq_n hK2 ?_
    refine w_seq fun K5 hK5 => ?_
    refine w_seq fun K6 hK6 => ?_
    refine w_reg gC ?_
    try simp only [W, Nat.reduceAdd]
    refine seq_n hK6 ?_
    obtain ⟨y8, hw9, g15⟩ := Option.bind_eq_some_iff.1 h
    refine w_join gC (fun s H => y8 = LR.next () ∧ s = [u, u, u, u, u, u, u, u, u, u, u, u, u, u, u, u, u, u, u, u, u, u, u, u, u, u, u] ∧ Own H (F)) (fun K10 hK10 => ?_) (fun s H hq => ?_)
    · refine w_blk fun K11 hK11 => ?_
      refine w_loop gC hw9 (fun x s H => s = [.fz (a0.map (fzl (AV.int .i64))), .fz (a1.map (fzl (AV.int .i64))), u, u, u, .int .i64 x, u, u, u, u, u, u, u, u, u, u, u, u, u, u, u, u, u, u, u, u, u] ∧ Own H (F)) ⟨rfl, hS⟩ (fun x7 y14 s H h hd13 hi K12 hK12 => ?_)
      skip
      try dsimp only at hi
      obtain ⟨rfl, hS⟩ := hi
      simp only [laws_eqIntSS_l0] at h
      refine w_seq fun K16 hK16 => ?_
      refine w_seq fun K17 hK17 => ?_
      refine w_reg gC ?_
      try simp only [W, EE, Nat.reduceAdd]
      refine seq_n hK17 ?_
      refine w_if ?_
      simp only [W]
      refine w_cnd h (fun hc h => ?_) (fun hc h => ?_)
      · refine w_skip ?_
        refine seq_n hK16 ?_
        refine w_seq fun K18 hK18 => ?_
        refine w_blk fun K19 hK19 => ?_
        refine w_seq fun K20 hK20 => ?_
        refine w_draw0 gC (by kernel_rfl) ?_
        try simp only [W, EE, Nat.reduceAdd]
        refine w_fz rfl rfl rfl (fun _ => rfl) h fun b21 hb21 h => ?_
        try simp only [W, EE, EN]
        refine w_fz rfl rfl rfl (fun _ => rfl) h fun b22 hb22 h => ?_
        try simp only [W, EE, EN]
        refine w_callS (rsh := [[.sc]]) (ys := [.fz (b21.map (AV.int .i64)), .fz (b22.map (AV.int .i64))]) h rfl (by rfl) fun b23 hb23 h => ⟨.bool b23, laws_eqIntS_w hb23 (Own.nil _) fun H hS => TV_ok rfl (TV_p rfl (TV_n rfl)), ⟨rfl, rfl, fun _ => rfl⟩, ?_⟩
        try simp only [W]
        refine seq_n hK20 ?_
        refine w_if ?_
        simp only [W]
        refine w_cnd h (fun hc h => ?_) (fun hc h => ?_)
        · refine w_seq fun K24 hK24 => ?_
          refine w_reg gC ?_
          try simp only [W, Nat.reduceAdd]
          refine seq_n hK24 ?_
          refine w_ret ?_
          refine blk_r hK19 ?_
          refine seq_r hK18 ?_
          try obtain rfl := Option.some.inj h
          obtain rfl := hd13 _ rfl
          have h : (some (LR.done false) : Option (LR Unit (Bool))) = some (LR.done false) := rfl
          refine lp_r hK12 ?_
          refine blk_r hK11 ?_
          try obtain rfl := Option.some.inj h
          obtain rfl := Option.some.inj g15
          have h : (some false : Option (Bool)) = some false := rfl
          refine cut_r hK10 ?_
          refine seq_r hK5 ?_
          refine fin_r1 hK0 rfl ?_
          try obtain rfl := Option.some.inj h
          exact hP _ hS
        · refine w_skip ?_
          refine blk_n0 hK19 ?_
          refine seq_n hK18 ?_
          refine w_reg gC ?_
          try simp only [W, EE, Nat.reduceAdd]
          exact lp_n hK12 h ⟨rfl, hS⟩
      · refine w_exit ?_
        refine seq_x hK16 ?_
        try obtain rfl := Option.some.inj h
        obtain rfl := hd13 _ rfl
        have h : (some (LR.next ()) : Option (LR Unit (Bool))) = some (LR.next ()) := rfl
        refine lp_x hK12 ?_
        refine blk_e hK11 ?_
        exact cut_n hK10 ⟨(Option.some.inj h).symm, rfl, hS⟩
    · obtain ⟨rfl, rfl, hS⟩ := hq
      replace h := g15
      try dsimp only at h
      refine seq_n hK5 ?_
      refine w_seq fun K31 hK31 => ?_
      refine w_reg gC ?_
      try simp only [W, Nat.reduceAdd]
      refine seq_n hK31 ?_
      refine w_ret ?_
      refine fin_r1 hK0 rfl ?_
      try obtain rfl := Option.some.inj h
      exact hP _ hS
theorem laws_eqTurns_w {a0 : Turns} {a1 : Turns} {r : (Bool)} (h : laws_eqTurns a0 a1 = some r) {F : List It} {H : Heap} (hS : Own H (F)) {P : AV → Heap → Prop} (hP : ∀ H', Own H' (F) → P (.bool r) H') : ACall C 19 [.agg [.fz (a0.Quanta.map (AV.int .i64)), .fz (a0.Queues.map (fzl (AV.int .i64))), .fz (a0.Credit.map (AV.int .i64)), .fz (a0.Sent.map (AV.int .i64)), .int .i64 a0.At], .agg [.fz (a1.Quanta.map (AV.int .i64)), .fz (a1.Queues.map (fzl (AV.int .i64))), .fz (a1.Credit.map (AV.int .i64)), .fz (a1.Sent.map (AV.int .i64)), .int .i64 a1.At]] H P := by
  refine acall_of gC (res := [.tmp 4]) (n := 34) rfl rfl rfl rfl fun K0 hK0 => ?_
  simp only [W, Nat.reduceSub, Nat.reduceAdd, List.replicate]
  unfold laws_eqTurns at h
  refine w_seq fun K1 hK1 => ?_
  refine w_reg gC ?_
  try simp only [W, Nat.reduceAdd]
  refine w_box hS rfl rfl rfl rfl fun ip2 wp2 H hS => ?_
  try simp only [W]
  refine w_box hS rfl rfl rfl rfl fun ip4 wp4 H hS => ?_
  try simp only [W]
  refine seq_n hK1 ?_
  refine w_seq fun K6 hK6 => ?_
  refine w_seq fun K7 hK7 => ?_
  refine w_reg gC ?_
  try simp only [W, EE, Nat.reduceAdd, Nat.reduceBEq, hS.var 1 rfl, hS.var 0 rfl]
  refine w_call h fun b8 hb8 h => ?_
  refine laws_eqIntS_w hb8 hS fun H hS => ?_
  try simp only [W]
  refine seq_n hK7 ?_
  refine w_if ?_
  simp only [W]
  refine w_cnd h (fun hc h => ?_) (fun hc h => ?_)
  · refine w_seq fun K9 hK9 => ?_
    refine w_reg gC ?_
    try simp only [W, Nat.reduceAdd]
    refine seq_n hK9 ?_
    refine w_ret ?_
    refine seq_r hK6 ?_
    refine fin_r1 hK0 rfl ?_
    try obtain rfl := Option.some.inj h
    exact hP _ (hS.sel 2 [] (by decide))
  · refine w_skip ?_
    refine seq_n hK6 ?_
    refine w_seq fun K10 hK10 => ?_
    refine w_seq fun K11 hK11 => ?_
    refine w_reg gC ?_
    try simp only [W, EE, Nat.reduceAdd, Nat.reduceBEq, hS.var 1 rfl, hS.var 0 rfl]
    refine w_call h fun b12 hb12 h => ?_
    refine laws_eqIntSS_w hb12 hS fun H hS => ?_
    try simp only [W]
    refine seq_n hK11 ?_
    refine w_if ?_
    simp only [W]
    refine w_cnd h (fun hc h => ?_) (fun hc h => ?_)
    · refine w_seq fun K13 hK13 => ?_
      refine w_reg gC ?_
      try simp only [W, Nat.reduceAdd]
      refine seq_n hK13 ?_
      refine w_ret ?_
      refine seq_r hK10 ?_
      refine fin_r1 hK0 rfl ?_
      try obtain rfl := Option.some.inj h
      exact hP _ (hS.sel 2 [] (by decide))
    · refine w_skip ?_
      refine seq_n hK10 ?_
      refine w_seq fun K14 hK14 => ?_
      refine w_seq fun K15 hK15 => ?_
      refine w_reg gC ?_
      try simp only [W, EE, Nat.reduceAdd, Nat.reduceBEq, hS.var 1 rfl, hS.var 0 rfl]
      refine w_call h fun b16 hb16 h => ?_
      refine laws_eqIntS_w hb16 hS fun H hS => ?_
      try simp only [W]
      refine seq_n hK15 ?_
      refine w_if ?_
      simp only [W]
      refine w_cnd h (fun hc h => ?_) (fun hc h => ?_)
      · refine w_seq fun K17 hK17 => ?_
        refine w_reg gC ?_
        try simp only [W, Nat.reduceAdd]
        refine seq_n hK17 ?_
        refine w_ret ?_
        refine seq_r hK14 ?_
        refine fin_r1 hK0 rfl ?_
        try obtain rfl := Option.some.inj h
        exact hP _ (hS.sel 2 [] (by decide))
      · refine w_skip ?_
        refine seq_n hK14 ?_
        refine w_seq fun K18 hK18 => ?_
        refine w_seq fun K19 hK19 => ?_
        refine w_reg gC ?_
        try simp only [W, EE, Nat.reduceAdd, Nat.reduceBEq, hS.var 1 rfl, hS.var 0 rfl]
        refine w_call h fun b20 hb20 h => ?_
        refine laws_eqIntS_w hb20 hS fun H hS => ?_
        try simp only [W]
        refine seq_n hK19 ?_
        refine w_if ?_
        simp only [W]
        refine w_cnd h (fun hc h => ?_) (fun hc h => ?_)
        · refine w_seq fun K21 hK21 => ?_
          refine w_reg gC ?_
          try simp only [W, Nat.reduceAdd]
          refine seq_n hK21 ?_
          refine w_ret ?_
          refine seq_r hK18 ?_
          refine fin_r1 hK0 rfl ?_
          try obtain rfl := Option.some.inj h
          exact hP _ (hS.sel 2 [] (by decide))
        · refine w_skip ?_
          refine seq_n hK18 ?_
          refine w_seq fun K22 hK22 => ?_
          refine w_seq fun K23 hK23 => ?_
          refine w_reg gC ?_
          try simp only [W, EE, Nat.reduceAdd, Nat.reduceBEq, hS.var 1 rfl, hS.var 0 rfl]
          refine seq_n hK23 ?_
          refine w_if ?_
          simp only [W]
          refine w_cnd h (fun hc h => ?_) (fun hc h => ?_)
          · refine w_seq fun K24 hK24 => ?_
            refine w_reg gC ?_
            try simp only [W, Nat.reduceAdd]
            refine seq_n hK24 ?_
            refine w_ret ?_
            refine seq_r hK22 ?_
            refine fin_r1 hK0 rfl ?_
            try obtain rfl := Option.some.inj h
            exact hP _ (hS.sel 2 [] (by decide))
          · refine w_skip ?_
            refine seq_n hK22 ?_
            refine w_seq fun K25 hK25 => ?_
            refine w_reg gC ?_
            try simp only [W, Nat.reduceAdd]
            refine seq_n hK25 ?_
            refine w_ret ?_
            refine fin_r1 hK0 rfl ?_
            try obtain rfl := Option.some.inj h
            exact hP _ (hS.sel 2 [] (by decide))
theorem laws_markIntS_w {a0 : List Int} {a1 : Int} {m0 : AV} {r : (Int × List Int)} (h : laws_markIntS a0 a1 = some r) {F : List It} {H : Heap} (hS : Own H (⟨m0, 1, a0.map (AV.int .i64)⟩ :: F)) (qm0 : isSl m0) {P : AV → Heap → Prop} (hP : ∀ H', Own H' (⟨m0, 1, r.2.map (AV.int .i64)⟩ :: F) → P (.int .i64 r.1) H') : ACall C 25 [m0, .int .i64 a1] H P := by
  refine acall_of gC (res := [.tmp 4]) (n := 19) rfl rfl rfl rfl fun K0 hK0 => ?_
  simp only [W, Nat.reduceSub, Nat.reduceAdd, List.replicate]
  unfold laws_markIntS at h
  refine w_seq fun K1 hK1 => ?_
  refine w_reg gC ?_
  try simp only [W, Nat.reduceAdd]
  refine seq_n hK1 ?_
  refine w_seq fun K2 hK2 => ?_
  refine w_seq fun K3 hK3 => ?_
  refine w_reg gC ?_
  try simp only [W, Nat.reduceAdd]
  refine seq_n hK3 ?_
  obtain ⟨y9, hw10, g16⟩ := Option.bind_eq_some_iff.1 h
  refine w_join gC (fun s H => ∃ x7 : Int, ∃ x8 : List Int, y9 = (x7, x8) ∧ s = [u, .int .i64 x7, u, u, u, u, u, u, u, u, u, u, u, u, u, u, u, u, u] ∧ Own H (⟨m0, 1, x8.map (AV.int .i64)⟩ :: F)) (fun K11 hK11 => ?_) (fun s H hq => ?_)
  · refine w_blk fun K12 hK12 => ?_
    refine w_loop gC hw10 (fun x s H => match x with | (x4, x5, x6) => s = [m0, .int .i64 x5, u, u, u, .int .i64 x6, u, u, u, u, u, u, u, u, u, u, u, u, u] ∧ Own H (⟨m0, 1, x4.map (AV.int .i64)⟩ :: F)) ⟨rfl, hS⟩ (fun x y15 s H h hd14 hi K13 hK13 => ?_)
    obtain ⟨x4, x5, x6⟩ := x
    try dsimp only at hi
    obtain ⟨rfl, hS⟩ := hi
    simp only [laws_markIntS_l0] at h
    refine w_seq fun K17 hK17 => ?_
    refine w_seq fun K18 hK18 => ?_
    refine w_reg gC ?_
    try simp only [W, EE, Nat.reduceAdd]
    refine w_len 0 hS rfl qm0 rfl ?_
    try simp only [W, EE]
    refine seq_n hK18 ?_
    refine w_if ?_
    simp only [W]
    refine w_cnd h (fun hc h => ?_) (fun hc h => ?_)
    · refine w_skip ?_
      refine seq_n hK17 ?_
      refine w_seq fun K19 hK19 => ?_
      refine w_blk fun K20 hK20 => ?_
      refine w_seq fun K21 hK21 => ?_
      refine w_reg gC ?_
      try simp only [W, EE, Nat.reduceAdd]
      refine w_ow 0 hS rfl rfl rfl rfl rfl h (fun b22 in23 wn23 on23 hb22 h en23 => ?_) qm0.ne
      obtain ⟨kn23, hbn23, hen23⟩ := hS.elem 0 rfl en23 hb22
      try simp only [W]
      refine w_ste (a := .int .i64 x5) (y' := x5) 0 hS rfl en23 hb22 rfl rfl rfl rfl rfl rfl rfl fun H hS => ?_
      try simp only [W]
      refine seq_n hK21 ?_
      refine w_reg gC ?_
      try simp only [W, EE, Nat.reduceAdd]
      refine blk_n0 hK20 ?_
      refine seq_n hK19 ?_
      refine w_reg gC ?_
      try simp only [W, EE, Nat.reduceAdd]
      exact lp_n hK13 h ⟨rfl, hS⟩
    · refine w_exit ?_
      refine seq_x hK17 ?_
      try obtain rfl := Option.some.inj h
      obtain rfl := hd14 _ rfl
      have h : (some (x5, x4) : Option (Int × (List Int))) = some (x5, x4) := rfl
      refine lp_x hK13 ?_
      refine blk_e hK12 ?_
      exact cut_n hK11 ⟨_, _, (Option.some.inj h).symm, rfl, hS⟩
  · obtain ⟨x7, x8, rfl, rfl, hS⟩ := hq
    replace h := g16
    try dsimp only at h
    refine seq_n hK2 ?_
    refine w_seq fun K26 hK26 => ?_
    refine w_reg gC ?_
    try simp only [W, Nat.reduceAdd]
    refine seq_n hK26 ?_
    refine w_ret ?_
    refine fin_r1 hK0 rfl ?_
    try obtain rfl := Option.some.inj h
    exact hP _ hS
theorem laws_markIntSS_w {a0 : List (List Int)} {a1 : Int} {m0 : AV} {d100 : List AV} {r : (Int × List (List Int))} (h : laws_markIntSS a0 a1 = some r) {F : List It} {H : Heap} (hS : Own H (⟨m0, 1, ouw nm_SInt d100 a0⟩ :: ((inn np_SInt (AV.int .i64) 1 d100 a0) ++ F))) (qm0 : isSl m0) (qd100 : isSls d100 (a0).length) {P : AV → Heap → Prop} (hP : ∀ nd100 : List AV, isSls nd100 (r.2).length → ∀ H', Own H' (⟨m0, 1, ouw nm_SInt nd100 r.2⟩ :: ((inn np_SInt (AV.int .i64) 1 nd100 r.2) ++ F)) → P (.int .i64 r.1) H') : ACall C 118 [m0, .int .i64 a1] H P := by
  refine acall_of gC (res := [.tmp 4]) (n := 19) rfl rfl rfl rfl fun K0 hK0 => ?_
  simp only [W, Nat.reduceSub, Nat.reduceAdd, List.replicate]
  unfold laws_markIntSS at h
  refine w_seq fun K1 hK1 => ?_
  refine w_reg gC ?_
  try simp only [W, Nat.reduceAdd]
  refine seq_n hK1 ?_
  refine w_seq fun K2 hK2 => ?_
  refine w_seq fun K3 hK3 => ?_
  refine w_reg gC ?_
  try simp only [W, Nat.reduceAdd]
  refine seq_n hK3 ?_
  obtain ⟨y12, hw13, g19⟩ := Option.bind_eq_some_iff.1 h
  refine w_join gC (fun s H => ∃ x9 : Int, ∃ x10 : List (List Int), y12 = (x9, x10) ∧ ∃ d11 : List AV, isSls d11 (x10).length ∧ s = [u, .int .i64 x9, u, u, u, u, u, u, u, u, u, u, u, u, u, u, u, u, u] ∧ Own H (⟨m0, 1, ouw nm_SInt d11 x10⟩ :: ((inn np_SInt (AV.int .i64) 1 d11 x10) ++ F))) (fun K14 hK14 => ?_) (fun s H hq => ?_)
  · refine w_blk fun K15 hK15 => ?_
    refine w_loop gC hw13 (fun x s H => match x with | (x5, x7, x8) => ∃ d6 : List AV, isSls d6 (x5).length ∧ s = [m0, .int .i64 x7, u, u, u, .int .i64 x8, u, u, u, u, u, u, u, u, u, u, u, u, u] ∧ Own H (⟨m0, 1, ouw nm_SInt d6 x5⟩ :: ((inn np_SInt (AV.int .i64) 1 d6 x5) ++ F))) ⟨_, qd100, rfl, hS⟩ (fun x y18 s H h hd17 hi K16 hK16 => ?_)
    obtain ⟨x5, x7, x8⟩ := x
    try dsimp only at hi
    obtain ⟨d6, qd6, rfl, hS⟩ := hi
    simp only [laws_markIntSS_l0] at h
    refine w_seq fun K20 hK20 => ?_
    refine w_seq fun K21 hK21 => ?_
    refine w_reg gC ?_
    try simp only [W, EE, Nat.reduceAdd]
    refine w_lenN 0 hS rfl qm0 qd6 rfl ?_
    try simp only [W, EE]
    refine seq_n hK21 ?_
    refine w_if ?_
    simp only [W]
    refine w_cnd h (fun hc h => ?_) (fun hc h => ?_)
    · refine w_skip ?_
      refine seq_n hK20 ?_
      refine w_seq fun K22 hK22 => ?_
      refine w_blk fun K23 hK23 => ?_
      refine w_reg gC ?_
      try simp only [W, EE, Nat.reduceAdd]
      obtain ⟨b25, hb25, h⟩ := Option.bind_eq_some_iff.1 h
      have hS : Own _ (⟨m0, 1, ouw nm_SInt d6 x5⟩ :: ((inn np_SInt (AV.int .i64) 1 d6 x5) ++ (F))) := hS
      obtain ⟨v26, qv26, hS⟩ := openN (p := np_SInt) (c := (AV.int .i64)) (m := nm_SInt) (b := b25) hS qd6 hb25
      have hS : Own _ (⟨v26, 1, b25.map (AV.int .i64)⟩ :: ⟨m0, 1, (ouw nm_SInt d6 x5).set x8.toNat (v26)⟩ :: ((inx np_SInt (AV.int .i64) 1 d6 x5 x8.toNat) ++ (F))) := hS
      refine w_owE (x := v26) 1 hS rfl rfl rfl rfl rfl (idx_some hb25).1 (holeG qd6 hb25) qm0 (fun in24 wn24 on24 en24 hkn24 => ?_)
      obtain ⟨kn24, hbn24, hen24⟩ := hkn24
      try simp only [W, EE, hbn24, hen24, qv26.rd]
      refine w_call h fun b28 hb28 h => ?_
      obtain ⟨b29, b30⟩ := b28
      try dsimp only at h
      refine laws_markIntS_w hb28 hS qv26 fun H hS => ?_
      try simp only [W]
      refine blk_n0 hK23 ?_
      refine seq_n hK22 ?_
      refine w_reg gC ?_
      try simp only [W, EE, Nat.reduceAdd]
      have hS : Own _ (⟨v26, 1, b30.map (AV.int .i64)⟩ :: ⟨m0, 1, (ouw nm_SInt d6 x5).set x8.toNat (v26)⟩ :: ((inx np_SInt (AV.int .i64) 1 d6 x5 x8.toNat) ++ (F))) := hS
      obtain ⟨d31, qd31, hS⟩ := closeN (p := np_SInt) (c := (AV.int .i64)) (m := nm_SInt) (b := b25) (y := b30) hS qd6 qv26 hb25
      have hS : Own _ (⟨m0, 1, ouw nm_SInt d31 (x5.set x8.toNat b30)⟩ :: ((inn np_SInt (AV.int .i64) 1 d31 (x5.set x8.toNat b30)) ++ (F))) := hS
      exact lp_n hK16 h ⟨_, qd31, rfl, hS⟩
    · refine w_exit ?_
      refine seq_x hK20 ?_
      try obtain rfl := Option.some.inj h
      obtain rfl := hd17 _ rfl
      have h : (some (x7, x5) : Option (Int × (List (List Int)))) = some (x7, x5) := rfl
      refine lp_x hK16 ?_
      refine blk_e hK15 ?_
      exact cut_n hK14 ⟨_, _, (Option.some.inj h).symm, _, qd6, rfl, hS⟩
  · obtain ⟨x9, x10, rfl, d11, qd11, rfl, hS⟩ := hq
    replace h := g19
    try dsimp only at h
    refine seq_n hK2 ?_
    refine w_seq fun K34 hK34 => ?_
    refine w_reg gC ?_
    try simp only [W, Nat.reduceAdd]
    refine seq_n hK34 ?_
    refine w_ret ?_
    refine fin_r1 hK0 rfl ?_
    try obtain rfl := Option.some.inj h
    exact hP _ qd11 _ hS
theorem laws_markTurns_w {a0 : Turns} {a1 : Int} {m0 : AV} {m1 : AV} {d101 : List AV} {m2 : AV} {m3 : AV} {r : (Int × List Int × List (List Int) × List Int × List Int)} (h : laws_markTurns a0 a1 = some r) {F : List It} {H : Heap} (hS : Own H (⟨m0, 1, a0.Quanta.map (AV.int .i64)⟩ :: ⟨m1, 1, ouw nm_SInt d101 a0.Queues⟩ :: ⟨m2, 1, a0.Credit.map (AV.int .i64)⟩ :: ⟨m3, 1, a0.Sent.map (AV.int .i64)⟩ :: ((inn np_SInt (AV.int .i64) 1 d101 a0.Queues) ++ F))) (qm0 : isSl m0) (qm1 : isSl m1) (qd101 : isSls d101 (a0.Queues).length) (qm2 : isSl m2) (qm3 : isSl m3) {P : AV → Heap → Prop} (hP : ∀ nd101 : List AV, isSls nd101 (r.2.2.1).length → ∀ H', Own H' (⟨m0, 1, r.2.1.map (AV.int .i64)⟩ :: ⟨m1, 1, ouw nm_SInt nd101 r.2.2.1⟩ :: ⟨m2, 1, r.2.2.2.1.map (AV.int .i64)⟩ :: ⟨m3, 1, r.2.2.2.2.map (AV.int .i64)⟩ :: ((inn np_SInt (AV.int .i64) 1 nd101 r.2.2.1) ++ F)) → P (.int .i64 r.1) H') : ACall C 20 [.agg [m0, m1, m2, m3, .int .i64 a0.At], .int .i64 a1] H P := by
  refine acall_of gC (res := [.tmp 4]) (n := 22) rfl rfl rfl rfl fun K0 hK0 => ?_
  simp only [W, Nat.reduceSub, Nat.reduceAdd, List.replicate]
  unfold laws_markTurns at h
  refine w_seq fun K1 hK1 => ?_
  refine w_reg gC ?_
  try simp only [W, Nat.reduceAdd]
  refine w_box hS rfl rfl rfl (by simp only [W, storA, List.all_cons, List.all_nil, qm0.stor, qm1.stor, qm2.stor, qm3.stor]; rfl) fun ip2 wp2 H hS => ?_
  try simp only [W]
  refine seq_n hK1 ?_
  refine w_seq fun K4 hK4 => ?_
  refine w_reg gC ?_
  try simp only [W, EE, Nat.reduceAdd, Nat.reduceBEq, hS.var 0 rfl]
  refine w_call h fun b5 hb5 h => ?_
  obtain ⟨b6, b7⟩ := b5
  try dsimp only at h
  refine laws_markIntS_w hb5 (hS.sel 5 [1, 0, 2, 3, 4] (by decide)) qm0 fun H hS => ?_
  try simp only [W]
  refine seq_n hK4 ?_
  refine w_seq fun K8 hK8 => ?_
  refine w_reg gC ?_
  try simp only [W, EE, Nat.reduceAdd, Nat.reduceBEq, hS.var 1 rfl]
  have hS : Own _ (⟨m1, 1, ouw nm_SInt d101 a0.Queues⟩ :: ((inn np_SInt (AV.int .i64) 1 d101 a0.Queues) ++ (⟨m0, 1, b7.map (AV.int .i64)⟩ :: ⟨.ptr ip2 wp2 0 0, 5, [.agg [m0, m1, m2, m3, .int .i64 a0.At]]⟩ :: ⟨m2, 1, a0.Credit.map (AV.int .i64)⟩ :: ⟨m3, 1, a0.Sent.map (AV.int .i64)⟩ :: F))) := Own.catI_ (bl := [[⟨m0, 1, b7.map (AV.int .i64)⟩], [⟨.ptr ip2 wp2 0 0, 5, [.agg [m0, m1, m2, m3, .int .i64 a0.At]]⟩], [⟨m1, 1, ouw nm_SInt d101 a0.Queues⟩], [⟨m2, 1, a0.Credit.map (AV.int .i64)⟩], [⟨m3, 1, a0.Sent.map (AV.int .i64)⟩], (inn np_SInt (AV.int .i64) 1 d101 a0.Queues)]) (F := F) hS 6 rfl [2, 5, 0, 1, 3, 4] (by decide)
  refine w_call h fun b9 hb9 h => ?_
  obtain ⟨b10, b11⟩ := b9
  try dsimp only at h
  refine laws_markIntSS_w hb9 hS qm1 qd101 fun d12 qd12 H hS => ?_
  have hS : Own _ (⟨m1, 1, ouw nm_SInt d12 b11⟩ :: ⟨m0, 1, b7.map (AV.int .i64)⟩ :: ⟨.ptr ip2 wp2 0 0, 5, [.agg [m0, m1, m2, m3, .int .i64 a0.At]]⟩ :: ⟨m2, 1, a0.Credit.map (AV.int .i64)⟩ :: ⟨m3, 1, a0.Sent.map (AV.int .i64)⟩ :: ((inn np_SInt (AV.int .i64) 1 d12 b11) ++ (F))) := Own.catI_ (bl := [[⟨m1, 1, ouw nm_SInt d12 b11⟩], (inn np_SInt (AV.int .i64) 1 d12 b11), [⟨m0, 1, b7.map (AV.int .i64)⟩], [⟨.ptr ip2 wp2 0 0, 5, [.agg [m0, m1, m2, m3, .int .i64 a0.At]]⟩], [⟨m2, 1, a0.Credit.map (AV.int .i64)⟩], [⟨m3, 1, a0.Sent.map (AV.int .i64)⟩]]) (F := F) hS 6 rfl [0, 2, 3, 4, 5, 1] (by decide)
  try simp only [W]
  refine seq_n hK8 ?_
  refine w_seq fun K13 hK13 => ?_
  refine w_reg gC ?_
  try simp only [W, EE, Nat.reduceAdd, Nat.reduceBEq, hS.var 2 rfl]
  refine w_call h fun b14 hb14 h => ?_
  obtain ⟨b15, b16⟩ := b14
  try dsimp only at h
  refine laws_markIntS_w hb14 (hS.sel 5 [3, 0, 1, 2, 4] (by decide)) qm2 fun H hS => ?_
  try simp only [W]
  refine seq_n hK13 ?_
  refine w_seq fun K17 hK17 => ?_
  refine w_reg gC ?_
  try simp only [W, EE, Nat.reduceAdd, Nat.reduceBEq, hS.var 3 rfl]
  refine w_call h fun b18 hb18 h => ?_
  obtain ⟨b19, b20⟩ := b18
  try dsimp only at h
  refine laws_markIntS_w hb18 (hS.sel 5 [4, 0, 1, 2, 3] (by decide)) qm3 fun H hS => ?_
  try simp only [W]
  refine seq_n hK17 ?_
  refine w_seq fun K21 hK21 => ?_
  refine w_reg gC ?_
  try simp only [W, Nat.reduceAdd]
  refine seq_n hK21 ?_
  refine w_ret ?_
  refine fin_r1 hK0 rfl ?_
  try obtain rfl := Option.some.inj h
  have hS : Own _ (⟨m0, 1, b7.map (AV.int .i64)⟩ :: ⟨m1, 1, ouw nm_SInt d12 b11⟩ :: ⟨m2, 1, b16.map (AV.int .i64)⟩ :: ⟨m3, 1, b20.map (AV.int .i64)⟩ :: ((inn np_SInt (AV.int .i64) 1 d12 b11) ++ (F))) := Own.catI_ (bl := [[⟨m3, 1, b20.map (AV.int .i64)⟩], [⟨m2, 1, b16.map (AV.int .i64)⟩], [⟨m1, 1, ouw nm_SInt d12 b11⟩], [⟨m0, 1, b7.map (AV.int .i64)⟩], [⟨.ptr ip2 wp2 0 0, 5, [.agg [m0, m1, m2, m3, .int .i64 a0.At]]⟩], (inn np_SInt (AV.int .i64) 1 d12 b11)]) (F := F) hS 6 rfl [3, 2, 1, 0, 5] (by decide)
  exact hP _ qd12 _ hS
theorem laws_heldIntS_w {a0 : List Int} {a1 : Int} {r : (Int)} (h : laws_heldIntS a0 a1 = some r) {F : List It} {H : Heap} (hS : Own H (F)) {P : AV → Heap → Prop} (hP : ∀ H', Own H' (F) → P (.int .i64 r) H') : ACall C 26 [.fz (a0.map (AV.int .i64)), .int .i64 a1] H P := by
  refine acall_of gC (res := [.tmp 4]) (n := 21) rfl rfl rfl rfl fun K0 hK0 => ?_
  simp only [W, Nat.reduceSub, Nat.reduceAdd, List.replicate]
  unfold laws_heldIntS at h
  refine w_seq fun K1 hK1 => ?_
  refine w_reg gC ?_
  try simp only [W, Nat.reduceAdd]
  refine seq_n hK1 ?_
  refine w_seq fun K2 hK2 => ?_
  refine w_seq fun K3 hK3 => ?_
  refine w_reg gC ?_
  try simp only [W, Nat.reduceAdd]
  refine seq_n hK3 ?_
  obtain ⟨y7, hw8, g14⟩ := Option.bind_eq_some_iff.1 h
  refine w_join gC (fun s H => ∃ x6 : Int, y7 = LR.next (x6) ∧ s = [u, .int .i64 x6, u, u, u, u, u, u, u, u, u, u, u, u, u, u, u, u, u, u, u] ∧ Own H (F)) (fun K9 hK9 => ?_) (fun s H hq => ?_)
  · refine w_blk fun K10 hK10 => ?_
    refine w_loop gC hw8 (fun x s H => match x with | (x4, x5) => s = [.fz (a0.map (AV.int .i64)), .int .i64 x4, u, u, u, .int .i64 x5, u, u, u, u, u, u, u, u, u, u, u, u, u, u, u] ∧ Own H (F)) ⟨rfl, hS⟩ (fun x y13 s H h hd12 hi K11 hK11 => ?_)
    obtain ⟨x4, x5⟩ := x
    try dsimp only at hi
    obtain ⟨rfl, hS⟩ := hi
    simp only [laws_heldIntS_l0] at h
    refine w_seq fun K15 hK15 => ?_
    refine w_seq fun K16 hK16 => ?_
    refine w_reg gC ?_
    try simp only [W, EE, Nat.reduceAdd]
    refine seq_n hK16 ?_
    refine w_if ?_
    simp only [W]
    refine w_cnd h (fun hc h => ?_) (fun hc h => ?_)
    · refine w_skip ?_
      refine seq_n hK15 ?_
      refine w_seq fun K17 hK17 => ?_
      refine w_blk fun K18 hK18 => ?_
      refine w_seq fun K19 hK19 => ?_
      refine w_seq fun K20 hK20 => ?_
      refine w_reg gC ?_
      try simp only [W, EE, Nat.reduceAdd]
      refine w_fz rfl rfl rfl (fun _ => rfl) h fun b21 hb21 h => ?_
      try simp only [W, EE]
      refine seq_n hK20 ?_
      refine w_if ?_
      simp only [W]
      refine w_cnd h (fun hc h => ?_) (fun hc h => ?_)
      · refine w_seq fun K22 hK22 => ?_
        refine w_reg gC ?_
        try simp only [W, Nat.reduceAdd]
        refine seq_n hK22 ?_
        refine w_ret ?_
        refine seq_r hK19 ?_
        refine blk_r hK18 ?_
        refine seq_r hK17 ?_
        try obtain rfl := Option.some.inj h
        obtain rfl := hd12 _ rfl
        have h : (some (LR.done (-1)) : Option (LR (Int) (Int))) = some (LR.done (-1)) := rfl
        refine lp_r hK11 ?_
        refine blk_r hK10 ?_
        try obtain rfl := Option.some.inj h
        obtain rfl := Option.some.inj g14
        have h : (some (-1) : Option (Int)) = some (-1) := rfl
        refine cut_r hK9 ?_
        refine seq_r hK2 ?_
        refine fin_r1 hK0 rfl ?_
        try obtain rfl := Option.some.inj h
        exact hP _ hS
      · refine w_skip ?_
        refine seq_n hK19 ?_
        refine w_reg gC ?_
        try simp only [W, EE, Nat.reduceAdd]
        refine blk_n0 hK18 ?_
        refine seq_n hK17 ?_
        refine w_reg gC ?_
        try simp only [W, EE, Nat.reduceAdd]
        exact lp_n hK11 h ⟨rfl, hS⟩
    · refine w_exit ?_
      refine seq_x hK15 ?_
      try obtain rfl := Option.some.inj h
      obtain rfl := hd12 _ rfl
      have h : (some (LR.next (x4)) : Option (LR (Int) (Int))) = some (LR.next (x4)) := rfl
      refine lp_x hK11 ?_
      refine blk_e hK10 ?_
      exact cut_n hK9 ⟨_, (Option.some.inj h).symm, rfl, hS⟩
  · obtain ⟨x6, ey, rfl, hS⟩ := hq; obtain rfl := ey.symm
    replace h := g14
    try dsimp only at h
    refine seq_n hK2 ?_
    refine w_seq fun K29 hK29 => ?_
    refine w_reg gC ?_
    try simp only [W, Nat.reduceAdd]
    refine seq_n hK29 ?_
    refine w_ret ?_
    refine fin_r1 hK0 rfl ?_
    try obtain rfl := Option.some.inj h
    exact hP _ hS
theorem laws_heldIntSS_w {a0 : List (List Int)} {a1 : Int} {r : (Int)} (h : laws_heldIntSS a0 a1 = some r) {F : List It} {H : Heap} (hS : Own H (F)) {P : AV → Heap → Prop} (hP : ∀ H', Own H' (F) → P (.int .i64 r) H') : ACall C 119 [.fz (a0.map (fzl (AV.int .i64))), .int .i64 a1] H P := by
  refine acall_of gC (res := [.tmp 4]) (n := 21) rfl rfl rfl rfl fun K0 hK0 => ?_
  simp only [W, Nat.reduceSub, Nat.reduceAdd, List.replicate]
  unfold laws_heldIntSS at h
  refine w_seq fun K1 hK1 => ?_
  refine w_reg gC ?_
  try simp only [W, Nat.reduceAdd]
  refine seq_n hK1 ?_
  refine w_seq fun K2 hK2 => ?_
  refine w_seq fun K3 hK3 => ?_
  refine w_reg gC ?_
  try simp only [W, Nat.reduceAdd]
  refine seq_n hK3 ?_
  obtain ⟨y7, hw8, g14⟩ := Option.bind_eq_some_iff.1 h
  refine w_join gC (fun s H => ∃ x6 : Int, y7 = LR.next (x6) ∧ s = [u, .int .i64 x6, u, u, u, u, u, u, u, u, u, u, u, u, u, u, u, u, u, u, u] ∧ Own H (F)) (fun K9 hK9 => ?_) (fun s H hq => ?_)
  · refine w_blk fun K10 hK10 => ?_
    refine w_loop gC hw8 (fun x s H => match x with | (x4, x5) => s = [.fz (a0.map (fzl (AV.int .i64))), .int .i64 x4, u, u, u, .int .i64 x5, u, u, u, u, u, u, u, u, u, u, u, u, u, u, u] ∧ Own H (F)) ⟨rfl, hS⟩ (fun x y13 s H h hd12 hi K11 hK11 => ?_)
    obtain ⟨x4, x5⟩ := x
    try dsimp only at hi
    obtain ⟨rfl, hS⟩ := hi
    simp only [laws_heldIntSS_l0] at h
    refine w_seq fun K15 hK15 => ?_
    refine w_seq fun K16 hK16 => ?_
    refine w_reg gC ?_
    try simp only [W, EE, Nat.reduceAdd]
    refine seq_n hK16 ?_
    refine w_if ?_
    simp only [W]
    refine w_cnd h (fun hc h => ?_) (fun hc h => ?_)
    · refine w_skip ?_
      refine seq_n hK15 ?_
      refine w_seq fun K17 hK17 => ?_
      refine w_blk fun K18 hK18 => ?_
      refine w_seq fun K19 hK19 => ?_
      refine w_reg gC ?_
      try simp only [W, EE, Nat.reduceAdd]
      refine w_fz rfl rfl rfl (fun _ => rfl) h fun b20 hb20 h => ?_
      try simp only [W, EE, EN]
      refine w_call h fun b21 hb21 h => ?_
      refine laws_heldIntS_w hb21 hS fun H hS => ?_
      try simp only [W]
      refine seq_n hK19 ?_
      refine w_seq fun K22 hK22 => ?_
      refine w_reg gC ?_
      try simp only [W, EE, Nat.reduceAdd]
      refine seq_n hK22 ?_
      refine w_if ?_
      simp only [W]
      refine w_cnd h (fun hc h => ?_) (fun hc h => ?_)
      · refine w_seq fun K23 hK23 => ?_
        refine w_reg gC ?_
        try simp only [W, Nat.reduceAdd]
        refine seq_n hK23 ?_
        refine w_ret ?_
        refine blk_r hK18 ?_
        refine seq_r hK17 ?_
        try obtain rfl := Option.some.inj h
        obtain rfl := hd12 _ rfl
        have h : (some (LR.done (-1)) : Option (LR (Int) (Int))) = some (LR.done (-1)) := rfl
        refine lp_r hK11 ?_
        refine blk_r hK10 ?_
        try obtain rfl := Option.some.inj h
        obtain rfl := Option.some.inj g14
        have h : (some (-1) : Option (Int)) = some (-1) := rfl
        refine cut_r hK9 ?_
        refine seq_r hK2 ?_
        refine fin_r1 hK0 rfl ?_
        try obtain rfl := Option.some.inj h
        exact hP _ hS
      · refine w_skip ?_
        refine blk_n0 hK18 ?_
        refine seq_n hK17 ?_
        refine w_reg gC ?_
        try simp only [W, EE, Nat.reduceAdd]
        exact lp_n hK11 h ⟨rfl, hS⟩
    · refine w_exit ?_
      refine seq_x hK15 ?_
      try obtain rfl := Option.some.inj h
      obtain rfl := hd12 _ rfl
      have h : (some (LR.next (x4)) : Option (LR (Int) (Int))) = some (LR.next (x4)) := rfl
      refine lp_x hK11 ?_
      refine blk_e hK10 ?_
      exact cut_n hK9 ⟨_, (Option.some.inj h).symm, rfl, hS⟩
  · obtain ⟨x6, ey, rfl, hS⟩ := hq; obtain rfl := ey.symm
    replace h := g14
    try dsimp only at h
    refine seq_n hK2 ?_
    refine w_seq fun K30 hK30 => ?_
    refine w_reg gC ?_
    try simp only [W, Nat.reduceAdd]
    refine seq_n hK30 ?_
    refine w_ret ?_
    refine fin_r1 hK0 rfl ?_
    try obtain rfl := Option.some.inj h
    exact hP _ hS
theorem laws_heldTurns_w {a0 : Turns} {a1 : Int} {r : (Int)} (h : laws_heldTurns a0 a1 = some r) {F : List It} {H : Heap} (hS : Own H (F)) {P : AV → Heap → Prop} (hP : ∀ H', Own H' (F) → P (.int .i64 r) H') : ACall C 21 [.agg [.fz (a0.Quanta.map (AV.int .i64)), .fz (a0.Queues.map (fzl (AV.int .i64))), .fz (a0.Credit.map (AV.int .i64)), .fz (a0.Sent.map (AV.int .i64)), .int .i64 a0.At], .int .i64 a1] H P := by
  refine acall_of gC (res := [.tmp 4]) (n := 30) rfl rfl rfl rfl fun K0 hK0 => ?_
  simp only [W, Nat.reduceSub, Nat.reduceAdd, List.replicate]
  unfold laws_heldTurns at h
  refine w_seq fun K1 hK1 => ?_
  refine w_reg gC ?_
  try simp only [W, Nat.reduceAdd]
  refine w_box hS rfl rfl rfl rfl fun ip2 wp2 H hS => ?_
  try simp only [W]
  refine seq_n hK1 ?_
  refine w_seq fun K4 hK4 => ?_
  refine w_reg gC ?_
  try simp only [W, EE, Nat.reduceAdd, Nat.reduceBEq, hS.var 0 rfl]
  refine w_call h fun b5 hb5 h => ?_
  refine laws_heldIntS_w hb5 hS fun H hS => ?_
  try simp only [W]
  refine seq_n hK4 ?_
  refine w_seq fun K6 hK6 => ?_
  refine w_seq fun K7 hK7 => ?_
  refine w_reg gC ?_
  try simp only [W, EE, Nat.reduceAdd]
  refine seq_n hK7 ?_
  refine w_if ?_
  simp only [W]
  refine w_cnd h (fun hc h => ?_) (fun hc h => ?_)
  · refine w_seq fun K8 hK8 => ?_
    refine w_reg gC ?_
    try simp only [W, Nat.reduceAdd]
    refine seq_n hK8 ?_
    refine w_ret ?_
    refine seq_r hK6 ?_
    refine fin_r1 hK0 rfl ?_
    try obtain rfl := Option.some.inj h
    exact hP _ (hS.sel 1 [] (by decide))
  · refine w_skip ?_
    refine seq_n hK6 ?_
    refine w_seq fun K9 hK9 => ?_
    refine w_reg gC ?_
    try simp only [W, EE, Nat.reduceAdd, Nat.reduceBEq, hS.var 0 rfl]
    refine w_call h fun b10 hb10 h => ?_
    refine laws_heldIntSS_w hb10 hS fun H hS => ?_
    try simp only [W]
    refine seq_n hK9 ?_
    refine w_seq fun K11 hK11 => ?_
    refine w_seq fun K12 hK12 => ?_
    refine w_reg gC ?_
    try simp only [W, EE, Nat.reduceAdd]
    refine seq_n hK12 ?_
    refine w_if ?_
    simp only [W]
    refine w_cnd h (fun hc h => ?_) (fun hc h => ?_)
    · refine w_seq fun K13 hK13 => ?_
      refine w_reg gC ?_
      try simp only [W, Nat.reduceAdd]
      refine seq_n hK13 ?_
      refine w_ret ?_
      refine seq_r hK11 ?_
      refine fin_r1 hK0 rfl ?_
      try obtain rfl := Option.some.inj h
      exact hP _ (hS.sel 1 [] (by decide))
    · refine w_skip ?_
      refine seq_n hK11 ?_
      refine w_seq fun K14 hK14 => ?_
      refine w_reg gC ?_
      try simp only [W, EE, Nat.reduceAdd, Nat.reduceBEq, hS.var 0 rfl]
      refine w_call h fun b15 hb15 h => ?_
      refine laws_heldIntS_w hb15 hS fun H hS => ?_
      try simp only [W]
      refine seq_n hK14 ?_
      refine w_seq fun K16 hK16 => ?_
      refine w_seq fun K17 hK17 => ?_
      refine w_reg gC ?_
      try simp only [W, EE, Nat.reduceAdd]
      refine seq_n hK17 ?_
      refine w_if ?_
      simp only [W]
      refine w_cnd h (fun hc h => ?_) (fun hc h => ?_)
      · refine w_seq fun K18 hK18 => ?_
        refine w_reg gC ?_
        try simp only [W, Nat.reduceAdd]
        refine seq_n hK18 ?_
        refine w_ret ?_
        refine seq_r hK16 ?_
        refine fin_r1 hK0 rfl ?_
        try obtain rfl := Option.some.inj h
        exact hP _ (hS.sel 1 [] (by decide))
      · refine w_skip ?_
        refine seq_n hK16 ?_
        refine w_seq fun K19 hK19 => ?_
        refine w_reg gC ?_
        try simp only [W, EE, Nat.reduceAdd, Nat.reduceBEq, hS.var 0 rfl]
        refine w_call h fun b20 hb20 h => ?_
        refine laws_heldIntS_w hb20 hS fun H hS => ?_
        try simp only [W]
        refine seq_n hK19 ?_
        refine w_seq fun K21 hK21 => ?_
        refine w_seq fun K22 hK22 => ?_
        refine w_reg gC ?_
        try simp only [W, EE, Nat.reduceAdd]
        refine seq_n hK22 ?_
        refine w_if ?_
        simp only [W]
        refine w_cnd h (fun hc h => ?_) (fun hc h => ?_)
        · refine w_seq fun K23 hK23 => ?_
          refine w_reg gC ?_
          try simp only [W, Nat.reduceAdd]
          refine seq_n hK23 ?_
          refine w_ret ?_
          refine seq_r hK21 ?_
          refine fin_r1 hK0 rfl ?_
          try obtain rfl := Option.some.inj h
          exact hP _ (hS.sel 1 [] (by decide))
        · refine w_skip ?_
          refine seq_n hK21 ?_
          refine w_seq fun K24 hK24 => ?_
          refine w_reg gC ?_
          try simp only [W, Nat.reduceAdd]
          refine seq_n hK24 ?_
          refine w_ret ?_
          refine fin_r1 hK0 rfl ?_
          try obtain rfl := Option.some.inj h
          exact hP _ (hS.sel 1 [] (by decide))
theorem laws_FnExactNextTurn_w {a0 : Turns} {r : (Bool)} (h : laws_FnExactNextTurn a0 = some r) {F : List It} {H : Heap} (hS : Own H (F)) {P : AV → Heap → Prop} (hP : ∀ H', Own H' (F) → P (.bool r) H') : ACall C 4 [.agg [.fz (a0.Quanta.map (AV.int .i64)), .fz (a0.Queues.map (fzl (AV.int .i64))), .fz (a0.Credit.map (AV.int .i64)), .fz (a0.Sent.map (AV.int .i64)), .int .i64 a0.At]] H P := by
  refine acall_of gC (res := [.tmp 2]) (n := 133) rfl rfl rfl rfl fun K0 hK0 => ?_
  simp only [W, Nat.reduceSub, Nat.reduceAdd, List.replicate]
  unfold laws_FnExactNextTurn at h
  refine w_seq fun K1 hK1 => ?_
  refine w_reg gC ?_
  try simp only [W, Nat.reduceAdd]
  refine w_box hS rfl rfl rfl rfl fun ip2 wp2 H hS => ?_
  try simp only [W]
  refine seq_n hK1 ?_
  refine w_seq fun K4 hK4 => ?_
  refine w_reg gC ?_
  try simp only [W, Nat.reduceAdd]
  refine seq_n hK4 ?_
  refine w_seq fun K5 hK5 => ?_
  refine w_reg gC ?_
  try simp only [W, EE, reduceIte, Nat.reduceAdd, Nat.reduceLeDiff, hS.var 0 rfl]
  refine w_call h fun b6 hb6 h => ?_
  refine laws_szTurns_w hb6 hS fun H hS => ?_
  try simp only [W]
  refine seq_n hK5 ?_
  refine w_seq fun K7 hK7 => ?_
  refine w_seq fun K8 hK8 => ?_
  refine w_reg gC ?_
  try simp only [W, EE, Nat.reduceAdd]
  refine seq_n hK8 ?_
  refine w_if ?_
  simp only [W]
  refine w_cnd h (fun hc h => ?_) (fun hc h => ?_)
  · refine w_seq fun K9 hK9 => ?_
    refine w_reg gC ?_
    try simp only [W, Nat.reduceAdd]
    refine seq_n hK9 ?_
    refine w_ret ?_
    refine seq_r hK7 ?_
    refine fin_r1 hK0 rfl ?_
    try obtain rfl := Option.some.inj h
    exact hP _ (hS.sel 1 [] (by decide))
  · refine w_skip ?_
    refine seq_n hK7 ?_
    refine w_seq fun K10 hK10 => ?_
    refine w_reg gC ?_
    try simp only [W, EE, reduceIte, Nat.reduceAdd, Nat.reduceLeDiff, Nat.reduceBEq, hS.var 0 rfl, List.contains_cons, Nat.reduceBEq, Bool.or_self]
    refine w_call h fun b11 hb11 h => ?_
    refine laws_toTurns_w hb11 hS fun v12 qv12 v14 qv14 d16 qd16 v17 qv17 v19 qv19 H hS => ?_
    have hS : Own _ (⟨v12, 1, b11.Quanta.map (AV.int .i64)⟩ :: ⟨v14, 1, ouw nm_SInt d16 b11.Queues⟩ :: ⟨v17, 1, b11.Credit.map (AV.int .i64)⟩ :: ⟨v19, 1, b11.Sent.map (AV.int .i64)⟩ :: ⟨.ptr ip2 wp2 0 0, 5, [.agg [.fz (a0.Quanta.map (AV.int .i64)), .fz (a0.Queues.map (fzl (AV.int .i64))), .fz (a0.Credit.map (AV.int .i64)), .fz (a0.Sent.map (AV.int .i64)), .int .i64 a0.At]]⟩ :: ((inn np_SInt (AV.int .i64) 1 d16 b11.Queues) ++ (F))) := Own.catI_ (bl := [[⟨v12, 1, b11.Quanta.map (AV.int .i64)⟩], [⟨v14, 1, ouw nm_SInt d16 b11.Queues⟩], [⟨v17, 1, b11.Credit.map (AV.int .i64)⟩], [⟨v19, 1, b11.Sent.map (AV.int .i64)⟩], (inn np_SInt (AV.int .i64) 1 d16 b11.Queues), [⟨.ptr ip2 wp2 0 0, 5, [.agg [.fz (a0.Quanta.map (AV.int .i64)), .fz (a0.Queues.map (fzl (AV.int .i64))), .fz (a0.Credit.map (AV.int .i64)), .fz (a0.Sent.map (AV.int .i64)), .int .i64 a0.At]]⟩]]) (F := F) hS 6 rfl [0, 1, 2, 3, 5, 4] (by decide)
    try simp only [W]
    have hS : Own _ (⟨v12, 1, b11.Quanta.map (AV.int .i64)⟩ :: ⟨v14, 1, ouw nm_SInt d16 b11.Queues⟩ :: ⟨v17, 1, b11.Credit.map (AV.int .i64)⟩ :: ⟨v19, 1, b11.Sent.map (AV.int .i64)⟩ :: ⟨.ptr ip2 wp2 0 0, 5, [.agg [.fz (a0.Quanta.map (AV.int .i64)), .fz (a0.Queues.map (fzl (AV.int .i64))), .fz (a0.Credit.map (AV.int .i64)), .fz (a0.Sent.map (AV.int .i64)), .int .i64 a0.At]]⟩ :: ((inn np_SInt (AV.int .i64) 1 d16 b11.Queues) ++ F)) := hS
    refine w_callO (rsh := [[.sl [.sc], .sl [.sl [.sc]], .sl [.sc], .sl [.sc], .sc], [.sl [.sc]], [.sc]]) (ys := [.agg [.fz (b11.Quanta.map (AV.int .i64)), .fz (b11.Queues.map (fzl (AV.int .i64))), .fz (b11.Credit.map (AV.int .i64)), .fz (b11.Sent.map (AV.int .i64)), .int .i64 b11.At]]) h rfl (pv_c (sn_agg (sm_c (sn_ow hS 0 rfl qv12 (fun _ => rfl)) (sm_c (sn_owN (enc := (fzl (AV.int .i64))) hS 1 rfl qv14 qd16 (fun _ h => (List.mem_cons_of_mem _ (List.mem_cons_of_mem _ (List.mem_cons_of_mem _ (List.mem_cons_of_mem _ (List.mem_cons_of_mem _ (List.mem_append_left _ h))))))) (fun _ _ ha hk => sn_it hk ha (fun _ => rfl))) (sm_c (sn_ow hS 2 rfl qv17 (fun _ => rfl)) (sm_c (sn_ow hS 3 rfl qv19 (fun _ => rfl)) (sm_c rfl (sm_n _))))))) pv_n) fun b21 hb21 h => ⟨.tup [.agg [.own 1 (b21.1.Quanta.map (AV.int .i64)), .own 1 (b21.1.Queues.map nd_SInt), .own 1 (b21.1.Credit.map (AV.int .i64)), .own 1 (b21.1.Sent.map (AV.int .i64)), .int .i64 b21.1.At], .own 1 (b21.2.1.map (AV.int .i64)), .bool b21.2.2], spec_NextTurn_w hb21 (Own.nil _) fun v25 qv25 v26 qv26 d27 qd27 v28 qv28 v29 qv29 v30 qv30 H hS => TV_ok rfl (TV_a (TC_ow 0 hS rfl qv25 (fun _ _ => by simp [takeE, takeT, plainA]) fun H hS => TC_owN (d := nd_SInt) (Own.catI_ (bl := [[⟨v26, 1, ouw nm_SInt d27 b21.1.Queues⟩], [⟨v28, 1, b21.1.Credit.map (AV.int .i64)⟩], [⟨v29, 1, b21.1.Sent.map (AV.int .i64)⟩], [⟨v30, 1, b21.2.1.map (AV.int .i64)⟩], (inn np_SInt (AV.int .i64) 1 d27 b21.1.Queues)]) (F := []) hS 5 rfl [0, 4, 1, 2, 3] (by decide)) qv26 qd27 nt_SInt fun H hS => TC_ow 0 hS rfl qv28 (fun _ _ => by simp [takeE, takeT, plainA]) fun H hS => TC_ow 0 hS rfl qv29 (fun _ _ => by simp [takeE, takeT, plainA]) fun H hS => TC_sc rfl (TC_nil (TV_o 0 hS rfl qv30 (fun _ _ => by simp [takeE, takeT, plainA]) fun H hS => TV_p rfl (TV_n rfl))))), (nf_t (nf_c (nf_a (nf_c (noFz_o _ (fun _ => rfl) _) (nf_c (noFz_o _ nf_SInt _) (nf_c (noFz_o _ (fun _ => rfl) _) (nf_c (noFz_o _ (fun _ => rfl) _) (nf_c rfl nf_n)))))) (nf_c (noFz_o _ (fun _ => rfl) _) (nf_c rfl nf_n)))), ?_⟩
    obtain ⟨b22, b23, b24⟩ := b21
    try dsimp only at h
    dsimp only
    refine thaw_tup ?_
    refine TH_a ?_
    refine TH_o hS (fun _ _ => rfl) (fun _ => rfl) fun v32 H qv32 hS => ?_
    refine TH_oN (l := b22.Queues) (d := nd_SInt) (m := nm_SInt) (p := np_SInt) (c := (AV.int .i64)) hS nc_SInt nh_SInt fun v34 d35 H qv34 qd35 hS => ?_
    have hS : Own _ (⟨v34, 1, ouw nm_SInt d35 b22.Queues⟩ :: ⟨v32, 1, b22.Quanta.map (AV.int .i64)⟩ :: ⟨v12, 1, b11.Quanta.map (AV.int .i64)⟩ :: ⟨v14, 1, ouw nm_SInt d16 b11.Queues⟩ :: ⟨v17, 1, b11.Credit.map (AV.int .i64)⟩ :: ⟨v19, 1, b11.Sent.map (AV.int .i64)⟩ :: ⟨.ptr ip2 wp2 0 0, 5, [.agg [.fz (a0.Quanta.map (AV.int .i64)), .fz (a0.Queues.map (fzl (AV.int .i64))), .fz (a0.Credit.map (AV.int .i64)), .fz (a0.Sent.map (AV.int .i64)), .int .i64 a0.At]]⟩ :: ((inn np_SInt (AV.int .i64) 1 d35 b22.Queues) ++ (((inn np_SInt (AV.int .i64) 1 d16 b11.Queues) ++ (F))))) := Own.catI_ (bl := [[⟨v34, 1, ouw nm_SInt d35 b22.Queues⟩], (inn np_SInt (AV.int .i64) 1 d35 b22.Queues), [⟨v32, 1, b22.Quanta.map (AV.int .i64)⟩], [⟨v12, 1, b11.Quanta.map (AV.int .i64)⟩], [⟨v14, 1, ouw nm_SInt d16 b11.Queues⟩], [⟨v17, 1, b11.Credit.map (AV.int .i64)⟩], [⟨v19, 1, b11.Sent.map (AV.int .i64)⟩], [⟨.ptr ip2 wp2 0 0, 5, [.agg [.fz (a0.Quanta.map (AV.int .i64)), .fz (a0.Queues.map (fzl (AV.int .i64))), .fz (a0.Credit.map (AV.int .i64)), .fz (a0.Sent.map (AV.int .i64)), .int .i64 a0.At]]⟩], (inn np_SInt (AV.int .i64) 1 d16 b11.Queues)]) (F := F) hS 9 rfl [0, 2, 3, 4, 5, 6, 7, 1, 8] (by decide)
    refine TH_o hS (fun _ _ => rfl) (fun _ => rfl) fun v37 H qv37 hS => ?_
    refine TH_o hS (fun _ _ => rfl) (fun _ => rfl) fun v39 H qv39 hS => ?_
    refine TH_p (fun _ => rfl) ?_
    refine TH_n ?_
    refine TH_o hS (fun _ _ => rfl) (fun _ => rfl) fun v41 H qv41 hS => ?_
    refine TH_p (fun _ => rfl) ?_
    refine TH_n ?_
    try simp only [List.headD_cons]
    try simp only [W]
    refine w_alloc hS rfl rfl fun ip42 wp42 H hS => ?_
    try simp only [W]
    refine w_stv (a := .agg [v32, v34, v37, v39, .int .i64 b22.At]) (y' := .agg [v32, v34, v37, v39, .int .i64 b22.At]) 0 hS rfl rfl rfl rfl rfl (by simp only [storA, List.all_cons, List.all_nil, qv32.stor, qv34.stor, qv37.stor, qv39.stor]; rfl) rfl rfl fun H hS => ?_
    try simp only [W]
    refine seq_n hK10 ?_
    refine w_seq fun K44 hK44 => ?_
    refine w_reg gC ?_
    try simp only [W, EE, reduceIte, Nat.reduceAdd, Nat.reduceLeDiff, hS.var 10 rfl]
    refine w_call h fun b45 hb45 h => ?_
    refine laws_toTurns_w hb45 hS fun v46 qv46 v48 qv48 d50 qd50 v51 qv51 v53 qv53 H hS => ?_
    have hS : Own _ (⟨v46, 1, b45.Quanta.map (AV.int .i64)⟩ :: ⟨v48, 1, ouw nm_SInt d50 b45.Queues⟩ :: ⟨v51, 1, b45.Credit.map (AV.int .i64)⟩ :: ⟨v53, 1, b45.Sent.map (AV.int .i64)⟩ :: ⟨.ptr ip42 wp42 0 0, 5, [.agg [v32, v34, v37, v39, .int .i64 b22.At]]⟩ :: ⟨v41, 1, b23.map (AV.int .i64)⟩ :: ⟨v39, 1, b22.Sent.map (AV.int .i64)⟩ :: ⟨v37, 1, b22.Credit.map (AV.int .i64)⟩ :: ⟨v34, 1, ouw nm_SInt d35 b22.Queues⟩ :: ⟨v32, 1, b22.Quanta.map (AV.int .i64)⟩ :: ⟨v12, 1, b11.Quanta.map (AV.int .i64)⟩ :: ⟨v14, 1, ouw nm_SInt d16 b11.Queues⟩ :: ⟨v17, 1, b11.Credit.map (AV.int .i64)⟩ :: ⟨v19, 1, b11.Sent.map (AV.int .i64)⟩ :: ⟨.ptr ip2 wp2 0 0, 5, [.agg [.fz (a0.Quanta.map (AV.int .i64)), .fz (a0.Queues.map (fzl (AV.int .i64))), .fz (a0.Credit.map (AV.int .i64)), .fz (a0.Sent.map (AV.int .i64)), .int .i64 a0.At]]⟩ :: ((inn np_SInt (AV.int .i64) 1 d50 b45.Queues) ++ (((inn np_SInt (AV.int .i64) 1 d35 b22.Queues) ++ (((inn np_SInt (AV.int .i64) 1 d16 b11.Queues) ++ (F))))))) := Own.catI_ (bl := [[⟨v46, 1, b45.Quanta.map (AV.int .i64)⟩], [⟨v48, 1, ouw nm_SInt d50 b45.Queues⟩], [⟨v51, 1, b45.Credit.map (AV.int .i64)⟩], [⟨v53, 1, b45.Sent.map (AV.int .i64)⟩], (inn np_SInt (AV.int .i64) 1 d50 b45.Queues), [⟨.ptr ip42 wp42 0 0, 5, [.agg [v32, v34, v37, v39, .int .i64 b22.At]]⟩], [⟨v41, 1, b23.map (AV.int .i64)⟩], [⟨v39, 1, b22.Sent.map (AV.int .i64)⟩], [⟨v37, 1, b22.Credit.map (AV.int .i64)⟩], [⟨v34, 1, ouw nm_SInt d35 b22.Queues⟩], [⟨v32, 1, b22.Quanta.map (AV.int .i64)⟩], [⟨v12, 1, b11.Quanta.map (AV.int .i64)⟩], [⟨v14, 1, ouw nm_SInt d16 b11.Queues⟩], [⟨v17, 1, b11.Credit.map (AV.int .i64)⟩], [⟨v19, 1, b11.Sent.map (AV.int .i64)⟩], [⟨.ptr ip2 wp2 0 0, 5, [.agg [.fz (a0.Quanta.map (AV.int .i64)), .fz (a0.Queues.map (fzl (AV.int .i64))), .fz (a0.Credit.map (AV.int .i64)), .fz (a0.Sent.map (AV.int .i64)), .int .i64 a0.At]]⟩], (inn np_SInt (AV.int .i64) 1 d35 b22.Queues), (inn np_SInt (AV.int .i64) 1 d16 b11.Queues)]) (F := F) hS 18 rfl [0, 1, 2, 3, 5, 6, 7, 8, 9, 10, 11, 12, 13, 14, 15, 4, 16, 17] (by decide)
    try simp only [W]
    refine w_alloc hS rfl rfl fun ip55 wp55 H hS => ?_
    try simp only [W]
    refine w_stv (a := .agg [v46, v48, v51, v53, .int .i64 b45.At]) (y' := .agg [v46, v48, v51, v53, .int .i64 b45.At]) 0 hS rfl rfl rfl rfl rfl (by simp only [storA, List.all_cons, List.all_nil, qv46.stor, qv48.stor, qv51.stor, qv53.stor]; rfl) rfl rfl fun H hS => ?_
    try simp only [W]
    refine seq_n hK44 ?_
    refine w_seq fun K57 hK57 => ?_
    refine w_reg gC ?_
    try simp only [W, EE, reduceIte, Nat.reduceAdd, Nat.reduceLeDiff, Nat.reduceBEq, hS.var 0 rfl, List.contains_cons, Nat.reduceBEq, Bool.or_self]
    have hS : Own _ (⟨.ptr ip55 wp55 0 0, 5, [.agg [v46, v48, v51, v53, .int .i64 b45.At]]⟩ :: ⟨v46, 1, b45.Quanta.map (AV.int .i64)⟩ :: ⟨v48, 1, ouw nm_SInt d50 b45.Queues⟩ :: ⟨v51, 1, b45.Credit.map (AV.int .i64)⟩ :: ⟨v53, 1, b45.Sent.map (AV.int .i64)⟩ :: ⟨.ptr ip42 wp42 0 0, 5, [.agg [v32, v34, v37, v39, .int .i64 b22.At]]⟩ :: ⟨v41, 1, b23.map (AV.int .i64)⟩ :: ⟨v39, 1, b22.Sent.map (AV.int .i64)⟩ :: ⟨v37, 1, b22.Credit.map (AV.int .i64)⟩ :: ⟨v34, 1, ouw nm_SInt d35 b22.Queues⟩ :: ⟨v32, 1, b22.Quanta.map (AV.int .i64)⟩ :: ⟨v12, 1, b11.Quanta.map (AV.int .i64)⟩ :: ⟨v14, 1, ouw nm_SInt d16 b11.Queues⟩ :: ⟨v17, 1, b11.Credit.map (AV.int .i64)⟩ :: ⟨v19, 1, b11.Sent.map (AV.int .i64)⟩ :: ⟨.ptr ip2 wp2 0 0, 5, [.agg [.fz (a0.Quanta.map (AV.int .i64)), .fz (a0.Queues.map (fzl (AV.int .i64))), .fz (a0.Credit.map (AV.int .i64)), .fz (a0.Sent.map (AV.int .i64)), .int .i64 a0.At]]⟩ :: ((inn np_SInt (AV.int .i64) 1 d50 b45.Queues) ++ ((inn np_SInt (AV.int .i64) 1 d35 b22.Queues) ++ ((inn np_SInt (AV.int .i64) 1 d16 b11.Queues) ++ F)))) := hS
    refine w_callO (rsh := [[.sl [.sc], .sl [.sl [.sc]], .sl [.sc], .sl [.sc], .sc], [.sl [.sc]], [.sc]]) (ys := [.agg [.fz (b45.Quanta.map (AV.int .i64)), .fz (b45.Queues.map (fzl (AV.int .i64))), .fz (b45.Credit.map (AV.int .i64)), .fz (b45.Sent.map (AV.int .i64)), .int .i64 b45.At]]) h rfl (pv_c (sn_agg (sm_c (sn_ow hS 1 rfl qv46 (fun _ => rfl)) (sm_c (sn_owN (enc := (fzl (AV.int .i64))) hS 2 rfl qv48 qd50 (fun _ h => (List.mem_cons_of_mem _ (List.mem_cons_of_mem _ (List.mem_cons_of_mem _ (List.mem_cons_of_mem _ (List.mem_cons_of_mem _ (List.mem_cons_of_mem _ (List.mem_cons_of_mem _ (List.mem_cons_of_mem _ (List.mem_cons_of_mem _ (List.mem_cons_of_mem _ (List.mem_cons_of_mem _ (List.mem_cons_of_mem _ (List.mem_cons_of_mem _ (List.mem_cons_of_mem _ (List.mem_cons_of_mem _ (List.mem_cons_of_mem _ (List.mem_append_left _ h)))))))))))))))))) (fun _ _ ha hk => sn_it hk ha (fun _ => rfl))) (sm_c (sn_ow hS 3 rfl qv51 (fun _ => rfl)) (sm_c (sn_ow hS 4 rfl qv53 (fun _ => rfl)) (sm_c rfl (sm_n _))))))) pv_n) fun b58 hb58 h => ⟨.tup [.agg [.own 1 (b58.1.Quanta.map (AV.int .i64)), .own 1 (b58.1.Queues.map nd_SInt), .own 1 (b58.1.Credit.map (AV.int .i64)), .own 1 (b58.1.Sent.map (AV.int .i64)), .int .i64 b58.1.At], .own 1 (b58.2.1.map (AV.int .i64)), .bool b58.2.2], impl_NextTurn_w hb58 (Own.nil _) fun v62 qv62 v63 qv63 d64 qd64 v65 qv65 v66 qv66 v67 qv67 H hS => TV_ok rfl (TV_a (TC_ow 0 hS rfl qv62 (fun _ _ => by simp [takeE, takeT, plainA]) fun H hS => TC_owN (d := nd_SInt) (Own.catI_ (bl := [[⟨v63, 1, ouw nm_SInt d64 b58.1.Queues⟩], [⟨v65, 1, b58.1.Credit.map (AV.int .i64)⟩], [⟨v66, 1, b58.1.Sent.map (AV.int .i64)⟩], [⟨v67, 1, b58.2.1.map (AV.int .i64)⟩], (inn np_SInt (AV.int .i64) 1 d64 b58.1.Queues)]) (F := []) hS 5 rfl [0, 4, 1, 2, 3] (by decide)) qv63 qd64 nt_SInt fun H hS => TC_ow 0 hS rfl qv65 (fun _ _ => by simp [takeE, takeT, plainA]) fun H hS => TC_ow 0 hS rfl qv66 (fun _ _ => by simp [takeE, takeT, plainA]) fun H hS => TC_sc rfl (TC_nil (TV_o 0 hS rfl qv67 (fun _ _ => by simp [takeE, takeT, plainA]) fun H hS => TV_p rfl (TV_n rfl))))), (nf_t (nf_c (nf_a (nf_c (noFz_o _ (fun _ => rfl) _) (nf_c (noFz_o _ nf_SInt _) (nf_c (noFz_o _ (fun _ => rfl) _) (nf_c (noFz_o _ (fun _ => rfl) _) (nf_c rfl nf_n)))))) (nf_c (noFz_o _ (fun _ => rfl) _) (nf_c rfl nf_n)))), ?_⟩
    obtain ⟨b59, b60, b61⟩ := b58
    try dsimp only at h
    dsimp only
    refine thaw_tup ?_
    refine TH_a ?_
    refine TH_o hS (fun _ _ => rfl) (fun _ => rfl) fun v69 H qv69 hS => ?_
    refine TH_oN (l := b59.Queues) (d := nd_SInt) (m := nm_SInt) (p := np_SInt) (c := (AV.int .i64)) hS nc_SInt nh_SInt fun v71 d72 H qv71 qd72 hS => ?_
    have hS : Own _ (⟨v71, 1, ouw nm_SInt d72 b59.Queues⟩ :: ⟨v69, 1, b59.Quanta.map (AV.int .i64)⟩ :: ⟨.ptr ip55 wp55 0 0, 5, [.agg [v46, v48, v51, v53, .int .i64 b45.At]]⟩ :: ⟨v46, 1, b45.Quanta.map (AV.int .i64)⟩ :: ⟨v48, 1, ouw nm_SInt d50 b45.Queues⟩ :: ⟨v51, 1, b45.Credit.map (AV.int .i64)⟩ :: ⟨v53, 1, b45.Sent.map (AV.int .i64)⟩ :: ⟨.ptr ip42 wp42 0 0, 5, [.agg [v32, v34, v37, v39, .int .i64 b22.At]]⟩ :: ⟨v41, 1, b23.map (AV.int .i64)⟩ :: ⟨v39, 1, b22.Sent.map (AV.int .i64)⟩ :: ⟨v37, 1, b22.Credit.map (AV.int .i64)⟩ :: ⟨v34, 1, ouw nm_SInt d35 b22.Queues⟩ :: ⟨v32, 1, b22.Quanta.map (AV.int .i64)⟩ :: ⟨v12, 1, b11.Quanta.map (AV.int .i64)⟩ :: ⟨v14, 1, ouw nm_SInt d16 b11.Queues⟩ :: ⟨v17, 1, b11.Credit.map (AV.int .i64)⟩ :: ⟨v19, 1, b11.Sent.map (AV.int .i64)⟩ :: ⟨.ptr ip2 wp2 0 0, 5, [.agg [.fz (a0.Quanta.map (AV.int .i64)), .fz (a0.Queues.map (fzl (AV.int .i64))), .fz (a0.Credit.map (AV.int .i64)), .fz (a0.Sent.map (AV.int .i64)), .int .i64 a0.At]]⟩ :: ((inn np_SInt (AV.int .i64) 1 d72 b59.Queues) ++ (((inn np_SInt (AV.int .i64) 1 d50 b45.Queues) ++ (((inn np_SInt (AV.int .i64) 1 d35 b22.Queues) ++ (((inn np_SInt (AV.int .i64) 1 d16 b11.Queues) ++ (F))))))))) := Own.catI_ (bl := [[⟨v71, 1, ouw nm_SInt d72 b59.Queues⟩], (inn np_SInt (AV.int .i64) 1 d72 b59.Queues), [⟨v69, 1, b59.Quanta.map (AV.int .i64)⟩], [⟨.ptr ip55 wp55 0 0, 5, [.agg [v46, v48, v51, v53, .int .i64 b45.At]]⟩], [⟨v46, 1, b45.Quanta.map (AV.int .i64)⟩], [⟨v48, 1, ouw nm_SInt d50 b45.Queues⟩], [⟨v51, 1, b45.Credit.map (AV.int .i64)⟩], [⟨v53, 1, b45.Sent.map (AV.int .i64)⟩], [⟨.ptr ip42 wp42 0 0, 5, [.agg [v32, v34, v37, v39, .int .i64 b22.At]]⟩], [⟨v41, 1, b23.map (AV.int .i64)⟩], [⟨v39, 1, b22.Sent.map (AV.int .i64)⟩], [⟨v37, 1, b22.Credit.map (AV.int .i64)⟩], [⟨v34, 1, ouw nm_SInt d35 b22.Queues⟩], [⟨v32, 1, b22.Quanta.map (AV.int .i64)⟩], [⟨v12, 1, b11.Quanta.map (AV.int .i64)⟩], [⟨v14, 1, ouw nm_SInt d16 b11.Queues⟩], [⟨v17, 1, b11.Credit.map (AV.int .i64)⟩], [⟨v19, 1, b11.Sent.map (AV.int .i64)⟩], [⟨.ptr ip2 wp2 0 0, 5, [.agg [.fz (a0.Quanta.map (AV.int .i64)), .fz (a0.Queues.map (fzl (AV.int .i64))), .fz (a0.Credit.map (AV.int .i64)), .fz (a0.Sent.map (AV.int .i64)), .int .i64 a0.At]]⟩], (inn np_SInt (AV.int .i64) 1 d50 b45.Queues), (inn np_SInt (AV.int .i64) 1 d35 b22.Queues), (inn np_SInt (AV.int .i64) 1 d16 b11.Queues)]) (F := F) hS 22 rfl [0, 2, 3, 4, 5, 6, 7, 8, 9, 10, 11, 12, 13, 14, 15, 16, 17, 18, 1, 19, 20, 21] (by decide)
    refine TH_o hS (fun _ _ => rfl) (fun _ => rfl) fun v74 H qv74 hS => ?_
    refine TH_o hS (fun _ _ => rfl) (fun _ => rfl) fun v76 H qv76 hS => ?_
    refine TH_p (fun _ => rfl) ?_
    refine TH_n ?_
    refine TH_o hS (fun _ _ => rfl) (fun _ => rfl) fun v78 H qv78 hS => ?_
    refine TH_p (fun _ => rfl) ?_
    refine TH_n ?_
    try simp only [List.headD_cons]
    try simp only [W]
    refine w_alloc hS rfl rfl fun ip79 wp79 H hS => ?_
    try simp only [W]
    refine w_stv (a := .agg [v69, v71, v74, v76, .int .i64 b59.At]) (y' := .agg [v69, v71, v74, v76, .int .i64 b59.At]) 0 hS rfl rfl rfl rfl rfl (by simp only [storA, List.all_cons, List.all_nil, qv69.stor, qv71.stor, qv74.stor, qv76.stor]; rfl) rfl rfl fun H hS => ?_
    try simp only [W]
    refine seq_n hK57 ?_
    refine w_seq fun K81 hK81 => ?_
    refine w_seq fun K82 hK82 => ?_
    obtain ⟨y84, h, g85⟩ := Option.bind_eq_some_iff.1 h
    refine w_join gC (fun s H => ∃ x83 : Bool, y84 = (x83) ∧ s = (u :: .ptr ip2 wp2 0 0 :: u :: u :: .ptr ip42 wp42 0 0 :: v41 :: .bool b24 :: .ptr ip55 wp55 0 0 :: .ptr ip79 wp79 0 0 :: v78 :: .bool b61 :: u :: u :: u :: u :: u :: u :: u :: u :: u :: u :: u :: u :: u :: u :: u :: u :: u :: u :: u :: u :: u :: u :: u :: u :: u :: u :: u :: u :: u :: u :: u :: u :: u :: u :: u :: u :: u :: u :: u :: u :: .bool x83 :: u :: u :: u :: u :: u :: u :: u :: u :: u :: u :: u :: u :: u :: u :: u :: u :: u :: u :: u :: u :: u :: u :: u :: u :: u :: u :: u :: u :: u :: u :: u :: u :: u :: u :: u :: u :: u :: u :: u :: u :: u :: u :: u :: u :: u :: u :: u :: u :: u :: u :: u :: u :: u :: u :: u :: u :: u :: u :: u :: u :: u :: u :: u :: u :: u :: u :: u :: u :: u :: u :: u :: u :: u :: u :: u :: u :: u :: u :: u :: u :: u :: []) ∧ Own H (⟨v41, 1, b23.map (AV.int .i64)⟩ :: ⟨v78, 1, b60.map (AV.int .i64)⟩ :: ⟨v32, 1, b22.Quanta.map (AV.int .i64)⟩ :: ⟨v34, 1, ouw nm_SInt d35 b22.Queues⟩ :: ⟨v37, 1, b22.Credit.map (AV.int .i64)⟩ :: ⟨v39, 1, b22.Sent.map (AV.int .i64)⟩ :: ⟨v46, 1, b45.Quanta.map (AV.int .i64)⟩ :: ⟨v48, 1, ouw nm_SInt d50 b45.Queues⟩ :: ⟨v51, 1, b45.Credit.map (AV.int .i64)⟩ :: ⟨v53, 1, b45.Sent.map (AV.int .i64)⟩ :: ⟨v69, 1, b59.Quanta.map (AV.int .i64)⟩ :: ⟨v71, 1, ouw nm_SInt d72 b59.Queues⟩ :: ⟨v74, 1, b59.Credit.map (AV.int .i64)⟩ :: ⟨v76, 1, b59.Sent.map (AV.int .i64)⟩ :: ⟨.ptr ip2 wp2 0 0, 5, [.agg [.fz (a0.Quanta.map (AV.int .i64)), .fz (a0.Queues.map (fzl (AV.int .i64))), .fz (a0.Credit.map (AV.int .i64)), .fz (a0.Sent.map (AV.int .i64)), .int .i64 a0.At]]⟩ :: ⟨.ptr ip42 wp42 0 0, 5, [.agg [v32, v34, v37, v39, .int .i64 b22.At]]⟩ :: ⟨.ptr ip55 wp55 0 0, 5, [.agg [v46, v48, v51, v53, .int .i64 b45.At]]⟩ :: ⟨.ptr ip79 wp79 0 0, 5, [.agg [v69, v71, v74, v76, .int .i64 b59.At]]⟩ :: ((inn np_SInt (AV.int .i64) 1 d35 b22.Queues) ++ ((inn np_SInt (AV.int .i64) 1 d50 b45.Queues) ++ ((inn np_SInt (AV.int .i64) 1 d72 b59.Queues) ++ F))))) (fun K86 hK86 => ?_) (fun s H hq => ?_)
    · refine w_seq fun K87 hK87 => ?_
      refine w_reg gC ?_
      try simp only [W, EE, reduceIte, Nat.reduceAdd, Nat.reduceLeDiff, hS.var 11 rfl, hS.var 0 rfl]
      have hS : Own _ (⟨.ptr ip79 wp79 0 0, 5, [.agg [v69, v71, v74, v76, .int .i64 b59.At]]⟩ :: ⟨v78, 1, b60.map (AV.int .i64)⟩ :: ⟨v76, 1, b59.Sent.map (AV.int .i64)⟩ :: ⟨v74, 1, b59.Credit.map (AV.int .i64)⟩ :: ⟨v71, 1, ouw nm_SInt d72 b59.Queues⟩ :: ⟨v69, 1, b59.Quanta.map (AV.int .i64)⟩ :: ⟨.ptr ip55 wp55 0 0, 5, [.agg [v46, v48, v51, v53, .int .i64 b45.At]]⟩ :: ⟨v46, 1, b45.Quanta.map (AV.int .i64)⟩ :: ⟨v48, 1, ouw nm_SInt d50 b45.Queues⟩ :: ⟨v51, 1, b45.Credit.map (AV.int .i64)⟩ :: ⟨v53, 1, b45.Sent.map (AV.int .i64)⟩ :: ⟨.ptr ip42 wp42 0 0, 5, [.agg [v32, v34, v37, v39, .int .i64 b22.At]]⟩ :: ⟨v41, 1, b23.map (AV.int .i64)⟩ :: ⟨v39, 1, b22.Sent.map (AV.int .i64)⟩ :: ⟨v37, 1, b22.Credit.map (AV.int .i64)⟩ :: ⟨v34, 1, ouw nm_SInt d35 b22.Queues⟩ :: ⟨v32, 1, b22.Quanta.map (AV.int .i64)⟩ :: ⟨v12, 1, b11.Quanta.map (AV.int .i64)⟩ :: ⟨v14, 1, ouw nm_SInt d16 b11.Queues⟩ :: ⟨v17, 1, b11.Credit.map (AV.int .i64)⟩ :: ⟨v19, 1, b11.Sent.map (AV.int .i64)⟩ :: ⟨.ptr ip2 wp2 0 0, 5, [.agg [.fz (a0.Quanta.map (AV.int .i64)), .fz (a0.Queues.map (fzl (AV.int .i64))), .fz (a0.Credit.map (AV.int .i64)), .fz (a0.Sent.map (AV.int .i64)), .int .i64 a0.At]]⟩ :: ((inn np_SInt (AV.int .i64) 1 d72 b59.Queues) ++ ((inn np_SInt (AV.int .i64) 1 d50 b45.Queues) ++ ((inn np_SInt (AV.int .i64) 1 d35 b22.Queues) ++ ((inn np_SInt (AV.int .i64) 1 d16 b11.Queues) ++ F))))) := hS
      refine w_callS (rsh := [[.sc]]) (ys := [.agg [.fz (b59.Quanta.map (AV.int .i64)), .fz (b59.Queues.map (fzl (AV.int .i64))), .fz (b59.Credit.map (AV.int .i64)), .fz (b59.Sent.map (AV.int .i64)), .int .i64 b59.At], .agg [.fz (b22.Quanta.map (AV.int .i64)), .fz (b22.Queues.map (fzl (AV.int .i64))), .fz (b22.Credit.map (AV.int .i64)), .fz (b22.Sent.map (AV.int .i64)), .int .i64 b22.At]]) h rfl (pv_c (sn_agg (sm_c (sn_ow hS 5 rfl qv69 (fun _ => rfl)) (sm_c (sn_owN (enc := (fzl (AV.int .i64))) hS 4 rfl qv71 qd72 (fun _ h => (List.mem_cons_of_mem _ (List.mem_cons_of_mem _ (List.mem_cons_of_mem _ (List.mem_cons_of_mem _ (List.mem_cons_of_mem _ (List.mem_cons_of_mem _ (List.mem_cons_of_mem _ (List.mem_cons_of_mem _ (List.mem_cons_of_mem _ (List.mem_cons_of_mem _ (List.mem_cons_of_mem _ (List.mem_cons_of_mem _ (List.mem_cons_of_mem _ (List.mem_cons_of_mem _ (List.mem_cons_of_mem _ (List.mem_cons_of_mem _ (List.mem_cons_of_mem _ (List.mem_cons_of_mem _ (List.mem_cons_of_mem _ (List.mem_cons_of_mem _ (List.mem_cons_of_mem _ (List.mem_cons_of_mem _ (List.mem_append_left _ h)))))))))))))))))))))))) (fun _ _ ha hk => sn_it hk ha (fun _ => rfl))) (sm_c (sn_ow hS 3 rfl qv74 (fun _ => rfl)) (sm_c (sn_ow hS 2 rfl qv76 (fun _ => rfl)) (sm_c rfl (sm_n _))))))) (pv_c (sn_agg (sm_c (sn_ow hS 16 rfl qv32 (fun _ => rfl)) (sm_c (sn_owN (enc := (fzl (AV.int .i64))) hS 15 rfl qv34 qd35 (fun _ h => (List.mem_cons_of_mem _ (List.mem_cons_of_mem _ (List.mem_cons_of_mem _ (List.mem_cons_of_mem _ (List.mem_cons_of_mem _ (List.mem_cons_of_mem _ (List.mem_cons_of_mem _ (List.mem_cons_of_mem _ (List.mem_cons_of_mem _ (List.mem_cons_of_mem _ (List.mem_cons_of_mem _ (List.mem_cons_of_mem _ (List.mem_cons_of_mem _ (List.mem_cons_of_mem _ (List.mem_cons_of_mem _ (List.mem_cons_of_mem _ (List.mem_cons_of_mem _ (List.mem_cons_of_mem _ (List.mem_cons_of_mem _ (List.mem_cons_of_mem _ (List.mem_cons_of_mem _ (List.mem_cons_of_mem _ (List.mem_append_right _ (List.mem_append_right _ (List.mem_append_left _ h)))))))))))))))))))))))))) (fun _ _ ha hk => sn_it hk ha (fun _ => rfl))) (sm_c (sn_ow hS 14 rfl qv37 (fun _ => rfl)) (sm_c (sn_ow hS 13 rfl qv39 (fun _ => rfl)) (sm_c rfl (sm_n _))))))) pv_n)) fun b88 hb88 h => ⟨.bool b88, laws_eqTurns_w hb88 (Own.nil _) fun H hS => TV_ok rfl (TV_p rfl (TV_n rfl)), ⟨rfl, rfl, fun _ => rfl⟩, ?_⟩
      try simp only [W]
      refine w_grdT h (fun hc h => ?_) (fun hc h => ?_)
      · try simp only [W, hc]
        refine seq_n hK87 ?_
        refine w_killE (s' := (u :: .ptr ip2 wp2 0 0 :: u :: u :: .ptr ip42 wp42 0 0 :: v41 :: .bool b24 :: .ptr ip55 wp55 0 0 :: .ptr ip79 wp79 0 0 :: v78 :: .bool b61 :: u :: u :: u :: u :: u :: u :: u :: u :: u :: u :: u :: u :: u :: u :: u :: u :: u :: u :: u :: u :: u :: u :: u :: u :: u :: u :: u :: u :: u :: u :: u :: u :: u :: u :: u :: u :: u :: u :: u :: u :: .bool true :: u :: u :: u :: u :: u :: u :: u :: u :: u :: u :: u :: u :: u :: u :: u :: u :: u :: u :: u :: u :: u :: u :: u :: u :: u :: u :: u :: u :: u :: u :: u :: u :: u :: u :: u :: u :: u :: u :: u :: u :: u :: u :: u :: u :: u :: u :: u :: u :: u :: u :: u :: u :: u :: u :: u :: u :: u :: u :: u :: u :: u :: u :: u :: u :: u :: u :: u :: u :: u :: u :: u :: u :: u :: u :: u :: u :: u :: u :: u :: u :: u :: [])) rfl ?_
        have hS : Own _ (⟨v41, 1, b23.map (AV.int .i64)⟩ :: ⟨v78, 1, b60.map (AV.int .i64)⟩ :: ⟨v32, 1, b22.Quanta.map (AV.int .i64)⟩ :: ⟨v34, 1, ouw nm_SInt d35 b22.Queues⟩ :: ⟨v37, 1, b22.Credit.map (AV.int .i64)⟩ :: ⟨v39, 1, b22.Sent.map (AV.int .i64)⟩ :: ⟨v46, 1, b45.Quanta.map (AV.int .i64)⟩ :: ⟨v48, 1, ouw nm_SInt d50 b45.Queues⟩ :: ⟨v51, 1, b45.Credit.map (AV.int .i64)⟩ :: ⟨v53, 1, b45.Sent.map (AV.int .i64)⟩ :: ⟨v69, 1, b59.Quanta.map (AV.int .i64)⟩ :: ⟨v71, 1, ouw nm_SInt d72 b59.Queues⟩ :: ⟨v74, 1, b59.Credit.map (AV.int .i64)⟩ :: ⟨v76, 1, b59.Sent.map (AV.int .i64)⟩ :: ⟨.ptr ip2 wp2 0 0, 5, [.agg [.fz (a0.Quanta.map (AV.int .i64)), .fz (a0.Queues.map (fzl (AV.int .i64))), .fz (a0.Credit.map (AV.int .i64)), .fz (a0.Sent.map (AV.int .i64)), .int .i64 a0.At]]⟩ :: ⟨.ptr ip42 wp42 0 0, 5, [.agg [v32, v34, v37, v39, .int .i64 b22.At]]⟩ :: ⟨.ptr ip55 wp55 0 0, 5, [.agg [v46, v48, v51, v53, .int .i64 b45.At]]⟩ :: ⟨.ptr ip79 wp79 0 0, 5, [.agg [v69, v71, v74, v76, .int .i64 b59.At]]⟩ :: ((inn np_SInt (AV.int .i64) 1 d35 b22.Queues) ++ (((inn np_SInt (AV.int .i64) 1 d50 b45.Queues) ++ (((inn np_SInt (AV.int .i64) 1 d72 b59.Queues) ++ (F))))))) := Own.catI_ (bl := [[⟨.ptr ip79 wp79 0 0, 5, [.agg [v69, v71, v74, v76, .int .i64 b59.At]]⟩], [⟨v78, 1, b60.map (AV.int .i64)⟩], [⟨v76, 1, b59.Sent.map (AV.int .i64)⟩], [⟨v74, 1, b59.Credit.map (AV.int .i64)⟩], [⟨v71, 1, ouw nm_SInt d72 b59.Queues⟩], [⟨v69, 1, b59.Quanta.map (AV.int .i64)⟩], [⟨.ptr ip55 wp55 0 0, 5, [.agg [v46, v48, v51, v53, .int .i64 b45.At]]⟩], [⟨v46, 1, b45.Quanta.map (AV.int .i64)⟩], [⟨v48, 1, ouw nm_SInt d50 b45.Queues⟩], [⟨v51, 1, b45.Credit.map (AV.int .i64)⟩], [⟨v53, 1, b45.Sent.map (AV.int .i64)⟩], [⟨.ptr ip42 wp42 0 0, 5, [.agg [v32, v34, v37, v39, .int .i64 b22.At]]⟩], [⟨v41, 1, b23.map (AV.int .i64)⟩], [⟨v39, 1, b22.Sent.map (AV.int .i64)⟩], [⟨v37, 1, b22.Credit.map (AV.int .i64)⟩], [⟨v34, 1, ouw nm_SInt d35 b22.Queues⟩], [⟨v32, 1, b22.Quanta.map (AV.int .i64)⟩], [⟨v12, 1, b11.Quanta.map (AV.int .i64)⟩], [⟨v14, 1, ouw nm_SInt d16 b11.Queues⟩], [⟨v17, 1, b11.Credit.map (AV.int .i64)⟩], [⟨v19, 1, b11.Sent.map (AV.int .i64)⟩], [⟨.ptr ip2 wp2 0 0, 5, [.agg [.fz (a0.Quanta.map (AV.int .i64)), .fz (a0.Queues.map (fzl (AV.int .i64))), .fz (a0.Credit.map (AV.int .i64)), .fz (a0.Sent.map (AV.int .i64)), .int .i64 a0.At]]⟩], (inn np_SInt (AV.int .i64) 1 d72 b59.Queues), (inn np_SInt (AV.int .i64) 1 d50 b45.Queues), (inn np_SInt (AV.int .i64) 1 d35 b22.Queues), (inn np_SInt (AV.int .i64) 1 d16 b11.Queues)]) (F := F) hS 26 rfl [12, 1, 16, 15, 14, 13, 7, 8, 9, 10, 5, 4, 3, 2, 21, 11, 6, 0, 24, 23, 22] (by decide)
        exact cut_n hK86 ⟨_, (Option.some.inj h).symm, rfl, hS⟩
      · try simp only [W, hc]
        have hS : Own _ (⟨.ptr ip79 wp79 0 0, 5, [.agg [v69, v71, v74, v76, .int .i64 b59.At]]⟩ :: ⟨v78, 1, b60.map (AV.int .i64)⟩ :: ⟨v76, 1, b59.Sent.map (AV.int .i64)⟩ :: ⟨v74, 1, b59.Credit.map (AV.int .i64)⟩ :: ⟨v71, 1, ouw nm_SInt d72 b59.Queues⟩ :: ⟨v69, 1, b59.Quanta.map (AV.int .i64)⟩ :: ⟨.ptr ip55 wp55 0 0, 5, [.agg [v46, v48, v51, v53, .int .i64 b45.At]]⟩ :: ⟨v46, 1, b45.Quanta.map (AV.int .i64)⟩ :: ⟨v48, 1, ouw nm_SInt d50 b45.Queues⟩ :: ⟨v51, 1, b45.Credit.map (AV.int .i64)⟩ :: ⟨v53, 1, b45.Sent.map (AV.int .i64)⟩ :: ⟨.ptr ip42 wp42 0 0, 5, [.agg [v32, v34, v37, v39, .int .i64 b22.At]]⟩ :: ⟨v41, 1, b23.map (AV.int .i64)⟩ :: ⟨v39, 1, b22.Sent.map (AV.int .i64)⟩ :: ⟨v37, 1, b22.Credit.map (AV.int .i64)⟩ :: ⟨v34, 1, ouw nm_SInt d35 b22.Queues⟩ :: ⟨v32, 1, b22.Quanta.map (AV.int .i64)⟩ :: ⟨v12, 1, b11.Quanta.map (AV.int .i64)⟩ :: ⟨v14, 1, ouw nm_SInt d16 b11.Queues⟩ :: ⟨v17, 1, b11.Credit.map (AV.int .i64)⟩ :: ⟨v19, 1, b11.Sent.map (AV.int .i64)⟩ :: ⟨.ptr ip2 wp2 0 0, 5, [.agg [.fz (a0.Quanta.map (AV.int .i64)), .fz (a0.Queues.map (fzl (AV.int .i64))), .fz (a0.Credit.map (AV.int .i64)), .fz (a0.Sent.map (AV.int .i64)), .int .i64 a0.At]]⟩ :: ((inn np_SInt (AV.int .i64) 1 d72 b59.Queues) ++ ((inn np_SInt (AV.int .i64) 1 d50 b45.Queues) ++ ((inn np_SInt (AV.int .i64) 1 d35 b22.Queues) ++ ((inn np_SInt (AV.int .i64) 1 d16 b11.Queues) ++ F))))) := hS
        refine w_callS (rsh := [[.sc]]) (ys := [.fz (b60.map (AV.int .i64)), .fz (b23.map (AV.int .i64))]) h rfl (pv_c (sn_ow hS 1 rfl qv78 (fun _ => rfl)) (pv_c (sn_ow hS 12 rfl qv41 (fun _ => rfl)) pv_n)) fun b89 hb89 h => ⟨.bool b89, laws_eqIntS_w hb89 (Own.nil _) fun H hS => TV_ok rfl (TV_p rfl (TV_n rfl)), ⟨rfl, rfl, fun _ => rfl⟩, ?_⟩
        try simp only [W, reduceIte, Bool.false_eq_true]
        refine w_grdT h (fun hc h => ?_) (fun hc h => ?_)
        · try simp only [W, hc]
          refine seq_n hK87 ?_
          refine w_killE (s' := (u :: .ptr ip2 wp2 0 0 :: u :: u :: .ptr ip42 wp42 0 0 :: v41 :: .bool b24 :: .ptr ip55 wp55 0 0 :: .ptr ip79 wp79 0 0 :: v78 :: .bool b61 :: u :: u :: u :: u :: u :: u :: u :: u :: u :: u :: u :: u :: u :: u :: u :: u :: u :: u :: u :: u :: u :: u :: u :: u :: u :: u :: u :: u :: u :: u :: u :: u :: u :: u :: u :: u :: u :: u :: u :: u :: .bool true :: u :: u :: u :: u :: u :: u :: u :: u :: u :: u :: u :: u :: u :: u :: u :: u :: u :: u :: u :: u :: u :: u :: u :: u :: u :: u :: u :: u :: u :: u :: u :: u :: u :: u :: u :: u :: u :: u :: u :: u :: u :: u :: u :: u :: u :: u :: u :: u :: u :: u :: u :: u :: u :: u :: u :: u :: u :: u :: u :: u :: u :: u :: u :: u :: u :: u :: u :: u :: u :: u :: u :: u :: u :: u :: u :: u :: u :: u :: u :: u :: u :: [])) rfl ?_
          have hS : Own _ (⟨v41, 1, b23.map (AV.int .i64)⟩ :: ⟨v78, 1, b60.map (AV.int .i64)⟩ :: ⟨v32, 1, b22.Quanta.map (AV.int .i64)⟩ :: ⟨v34, 1, ouw nm_SInt d35 b22.Queues⟩ :: ⟨v37, 1, b22.Credit.map (AV.int .i64)⟩ :: ⟨v39, 1, b22.Sent.map (AV.int .i64)⟩ :: ⟨v46, 1, b45.Quanta.map (AV.int .i64)⟩ :: ⟨v48, 1, ouw nm_SInt d50 b45.Queues⟩ :: ⟨v51, 1, b45.Credit.map (AV.int .i64)⟩ :: ⟨v53, 1, b45.Sent.map (AV.int .i64)⟩ :: ⟨v69, 1, b59.Quanta.map (AV.int .i64)⟩ :: ⟨v71, 1, ouw nm_SInt d72 b59.Queues⟩ :: ⟨v74, 1, b59.Credit.map (AV.int .i64)⟩ :: ⟨v76, 1, b59.Sent.map (AV.int .i64)⟩ :: ⟨.ptr ip2 wp2 0 0, 5, [.agg [.fz (a0.Quanta.map (AV.int .i64)), .fz (a0.Queues.map (fzl (AV.int .i64))), .fz (a0.Credit.map (AV.int .i64)), .fz (a0.Sent.map (AV.int .i64)), .int .i64 a0.At]]⟩ :: ⟨.ptr ip42 wp42 0 0, 5, [.agg [v32, v34, v37, v39, .int .i64 b22.At]]⟩ :: ⟨.ptr ip55 wp55 0 0, 5, [.agg [v46, v48, v51, v53, .int .i64 b45.At]]⟩ :: ⟨.ptr ip79 wp79 0 0, 5, [.agg [v69, v71, v74, v76, .int .i64 b59.At]]⟩ :: ((inn np_SInt (AV.int .i64) 1 d35 b22.Queues) ++ (((inn np_SInt (AV.int .i64) 1 d50 b45.Queues) ++ (((inn np_SInt (AV.int .i64) 1 d72 b59.Queues) ++ (F))))))) := Own.catI_ (bl := [[⟨.ptr ip79 wp79 0 0, 5, [.agg [v69, v71, v74, v76, .int .i64 b59.At]]⟩], [⟨v78, 1, b60.map (AV.int .i64)⟩], [⟨v76, 1, b59.Sent.map (AV.int .i64)⟩], [⟨v74, 1, b59.Credit.map (AV.int .i64)⟩], [⟨v71, 1, ouw nm_SInt d72 b59.Queues⟩], [⟨v69, 1, b59.Quanta.map (AV.int .i64)⟩], [⟨.ptr ip55 wp55 0 0, 5, [.agg [v46, v48, v51, v53, .int .i64 b45.At]]⟩], [⟨v46, 1, b45.Quanta.map (AV.int .i64)⟩], [⟨v48, 1, ouw nm_SInt d50 b45.Queues⟩], [⟨v51, 1, b45.Credit.map (AV.int .i64)⟩], [⟨v53, 1, b45.Sent.map (AV.int .i64)⟩], [⟨.ptr ip42 wp42 0 0, 5, [.agg [v32, v34, v37, v39, .int .i64 b22.At]]⟩], [⟨v41, 1, b23.map (AV.int .i64)⟩], [⟨v39, 1, b22.Sent.map (AV.int .i64)⟩], [⟨v37, 1, b22.Credit.map (AV.int .i64)⟩], [⟨v34, 1, ouw nm_SInt d35 b22.Queues⟩], [⟨v32, 1, b22.Quanta.map (AV.int .i64)⟩], [⟨v12, 1, b11.Quanta.map (AV.int .i64)⟩], [⟨v14, 1, ouw nm_SInt d16 b11.Queues⟩], [⟨v17, 1, b11.Credit.map (AV.int .i64)⟩], [⟨v19, 1, b11.Sent.map (AV.int .i64)⟩], [⟨.ptr ip2 wp2 0 0, 5, [.agg [.fz (a0.Quanta.map (AV.int .i64)), .fz (a0.Queues.map (fzl (AV.int .i64))), .fz (a0.Credit.map (AV.int .i64)), .fz (a0.Sent.map (AV.int .i64)), .int .i64 a0.At]]⟩], (inn np_SInt (AV.int .i64) 1 d72 b59.Queues), (inn np_SInt (AV.int .i64) 1 d50 b45.Queues), (inn np_SInt (AV.int .i64) 1 d35 b22.Queues), (inn np_SInt (AV.int .i64) 1 d16 b11.Queues)]) (F := F) hS 26 rfl [12, 1, 16, 15, 14, 13, 7, 8, 9, 10, 5, 4, 3, 2, 21, 11, 6, 0, 24, 23, 22] (by decide)
          exact cut_n hK86 ⟨_, (Option.some.inj h).symm, rfl, hS⟩
        · try simp only [W, EE, hc]
          rw [b_bneq _ _ _ _ (h := rfl) rfl, resV_s]
          try simp only [W, reduceIte, Bool.false_eq_true]
          refine seq_n hK87 ?_
          refine w_killE (s' := (u :: .ptr ip2 wp2 0 0 :: u :: u :: .ptr ip42 wp42 0 0 :: v41 :: .bool b24 :: .ptr ip55 wp55 0 0 :: .ptr ip79 wp79 0 0 :: v78 :: .bool b61 :: u :: u :: u :: u :: u :: u :: u :: u :: u :: u :: u :: u :: u :: u :: u :: u :: u :: u :: u :: u :: u :: u :: u :: u :: u :: u :: u :: u :: u :: u :: u :: u :: u :: u :: u :: u :: u :: u :: u :: u :: .bool (!(b61 == b24)) :: u :: u :: u :: u :: u :: u :: u :: u :: u :: u :: u :: u :: u :: u :: u :: u :: u :: u :: u :: u :: u :: u :: u :: u :: u :: u :: u :: u :: u :: u :: u :: u :: u :: u :: u :: u :: u :: u :: u :: u :: u :: u :: u :: u :: u :: u :: u :: u :: u :: u :: u :: u :: u :: u :: u :: u :: u :: u :: u :: u :: u :: u :: u :: u :: u :: u :: u :: u :: u :: u :: u :: u :: u :: u :: u :: u :: u :: u :: u :: u :: u :: [])) rfl ?_
          have hS : Own _ (⟨v41, 1, b23.map (AV.int .i64)⟩ :: ⟨v78, 1, b60.map (AV.int .i64)⟩ :: ⟨v32, 1, b22.Quanta.map (AV.int .i64)⟩ :: ⟨v34, 1, ouw nm_SInt d35 b22.Queues⟩ :: ⟨v37, 1, b22.Credit.map (AV.int .i64)⟩ :: ⟨v39, 1, b22.Sent.map (AV.int .i64)⟩ :: ⟨v46, 1, b45.Quanta.map (AV.int .i64)⟩ :: ⟨v48, 1, ouw nm_SInt d50 b45.Queues⟩ :: ⟨v51, 1, b45.Credit.map (AV.int .i64)⟩ :: ⟨v53, 1, b45.Sent.map (AV.int .i64)⟩ :: ⟨v69, 1, b59.Quanta.map (AV.int .i64)⟩ :: ⟨v71, 1, ouw nm_SInt d72 b59.Queues⟩ :: ⟨v74, 1, b59.Credit.map (AV.int .i64)⟩ :: ⟨v76, 1, b59.Sent.map (AV.int .i64)⟩ :: ⟨.ptr ip2 wp2 0 0, 5, [.agg [.fz (a0.Quanta.map (AV.int .i64)), .fz (a0.Queues.map (fzl (AV.int .i64))), .fz (a0.Credit.map (AV.int .i64)), .fz (a0.Sent.map (AV.int .i64)), .int .i64 a0.At]]⟩ :: ⟨.ptr ip42 wp42 0 0, 5, [.agg [v32, v34, v37, v39, .int .i64 b22.At]]⟩ :: ⟨.ptr ip55 wp55 0 0, 5, [.agg [v46, v48, v51, v53, .int .i64 b45.At]]⟩ :: ⟨.ptr ip79 wp79 0 0, 5, [.agg [v69, v71, v74, v76, .int .i64 b59.At]]⟩ :: ((inn np_SInt (AV.int .i64) 1 d35 b22.Queues) ++ (((inn np_SInt (AV.int .i64) 1 d50 b45.Queues) ++ (((inn np_SInt (AV.int .i64) 1 d72 b59.Queues) ++ (F))))))) := Own.catI_ (bl := [[⟨.ptr ip79 wp79 0 0, 5, [.agg [v69, v71, v74, v76, .int .i64 b59.At]]⟩], [⟨v78, 1, b60.map (AV.int .i64)⟩], [⟨v76, 1, b59.Sent.map (AV.int .i64)⟩], [⟨v74, 1, b59.Credit.map (AV.int .i64)⟩], [⟨v71, 1, ouw nm_SInt d72 b59.Queues⟩], [⟨v69, 1, b59.Quanta.map (AV.int .i64)⟩], [⟨.ptr ip55 wp55 0 0, 5, [.agg [v46, v48, v51, v53, .int .i64 b45.At]]⟩], [⟨v46, 1, b45.Quanta.map (AV.int .i64)⟩], [⟨v48, 1, ouw nm_SInt d50 b45.Queues⟩], [⟨v51, 1, b45.Credit.map (AV.int .i64)⟩], [⟨v53, 1, b45.Sent.map (AV.int .i64)⟩], [⟨.ptr ip42 wp42 0 0, 5, [.agg [v32, v34, v37, v39, .int .i64 b22.At]]⟩], [⟨v41, 1, b23.map (AV.int .i64)⟩], [⟨v39, 1, b22.Sent.map (AV.int .i64)⟩], [⟨v37, 1, b22.Credit.map (AV.int .i64)⟩], [⟨v34, 1, ouw nm_SInt d35 b22.Queues⟩], [⟨v32, 1, b22.Quanta.map (AV.int .i64)⟩], [⟨v12, 1, b11.Quanta.map (AV.int .i64)⟩], [⟨v14, 1, ouw nm_SInt d16 b11.Queues⟩], [⟨v17, 1, b11.Credit.map (AV.int .i64)⟩], [⟨v19, 1, b11.Sent.map (AV.int .i64)⟩], [⟨.ptr ip2 wp2 0 0, 5, [.agg [.fz (a0.Quanta.map (AV.int .i64)), .fz (a0.Queues.map (fzl (AV.int .i64))), .fz (a0.Credit.map (AV.int .i64)), .fz (a0.Sent.map (AV.int .i64)), .int .i64 a0.At]]⟩], (inn np_SInt (AV.int .i64) 1 d72 b59.Queues), (inn np_SInt (AV.int .i64) 1 d50 b45.Queues), (inn np_SInt (AV.int .i64) 1 d35 b22.Queues), (inn np_SInt (AV.int .i64) 1 d16 b11.Queues)]) (F := F) hS 26 rfl [12, 1, 16, 15, 14, 13, 7, 8, 9, 10, 5, 4, 3, 2, 21, 11, 6, 0, 24, 23, 22] (by decide)
          exact cut_n hK86 ⟨_, (Option.some.inj h).symm, rfl, hS⟩
    · obtain ⟨x83, ey, rfl, hS⟩ := hq; obtain rfl := ey.symm
      replace h := g85
      try dsimp only at h
      refine seq_n hK82 ?_
      refine w_if ?_
      simp only [W]
      refine w_cnd h (fun hc h => ?_) (fun hc h => ?_)
      · refine w_seq fun K90 hK90 => ?_
        refine w_reg gC ?_
        try simp only [W, Nat.reduceAdd]
        refine seq_n hK90 ?_
        refine w_ret ?_
        refine seq_r hK81 ?_
        refine fin_r1 hK0 rfl ?_
        try obtain rfl := Option.some.inj h
        have hS : Own _ (F) := Own.catI_ (bl := [[⟨v41, 1, b23.map (AV.int .i64)⟩], [⟨v78, 1, b60.map (AV.int .i64)⟩], [⟨v32, 1, b22.Quanta.map (AV.int .i64)⟩], [⟨v34, 1, ouw nm_SInt d35 b22.Queues⟩], [⟨v37, 1, b22.Credit.map (AV.int .i64)⟩], [⟨v39, 1, b22.Sent.map (AV.int .i64)⟩], [⟨v46, 1, b45.Quanta.map (AV.int .i64)⟩], [⟨v48, 1, ouw nm_SInt d50 b45.Queues⟩], [⟨v51, 1, b45.Credit.map (AV.int .i64)⟩], [⟨v53, 1, b45.Sent.map (AV.int .i64)⟩], [⟨v69, 1, b59.Quanta.map (AV.int .i64)⟩], [⟨v71, 1, ouw nm_SInt d72 b59.Queues⟩], [⟨v74, 1, b59.Credit.map (AV.int .i64)⟩], [⟨v76, 1, b59.Sent.map (AV.int .i64)⟩], [⟨.ptr ip2 wp2 0 0, 5, [.agg [.fz (a0.Quanta.map (AV.int .i64)), .fz (a0.Queues.map (fzl (AV.int .i64))), .fz (a0.Credit.map (AV.int .i64)), .fz (a0.Sent.map (AV.int .i64)), .int .i64 a0.At]]⟩], [⟨.ptr ip42 wp42 0 0, 5, [.agg [v32, v34, v37, v39, .int .i64 b22.At]]⟩], [⟨.ptr ip55 wp55 0 0, 5, [.agg [v46, v48, v51, v53, .int .i64 b45.At]]⟩], [⟨.ptr ip79 wp79 0 0, 5, [.agg [v69, v71, v74, v76, .int .i64 b59.At]]⟩], (inn np_SInt (AV.int .i64) 1 d35 b22.Queues), (inn np_SInt (AV.int .i64) 1 d50 b45.Queues), (inn np_SInt (AV.int .i64) 1 d72 b59.Queues)]) (F := F) hS 21 rfl [] (by decide)
        exact hP _ hS
      · refine w_skip ?_
        refine seq_n hK81 ?_
        refine w_seq fun K91 hK91 => ?_
        refine w_seq fun K92 hK92 => ?_
        refine w_draw0 gC (by kernel_rfl) ?_
        try simp only [W, EE, reduceIte, Nat.reduceAdd, Nat.reduceLeDiff, hS.var 14 rfl, hS.var 16 rfl]
        refine w_callF (rsh := [[.sl [.sc], .sl [.sl [.sc]], .sl [.sc], .sl [.sc], .sc]]) (ys := [.agg [.fz (a0.Quanta.map (AV.int .i64)), .fz (a0.Queues.map (fzl (AV.int .i64))), .fz (a0.Credit.map (AV.int .i64)), .fz (a0.Sent.map (AV.int .i64)), .int .i64 a0.At]]) h rfl (by rfl) fun b93 hb93 h => ⟨.agg [.own 1 (b93.Quanta.map (AV.int .i64)), .own 1 (b93.Queues.map nd_SInt), .own 1 (b93.Credit.map (AV.int .i64)), .own 1 (b93.Sent.map (AV.int .i64)), .int .i64 b93.At], laws_toTurns_w hb93 (Own.nil _) fun v94 qv94 v95 qv95 d96 qd96 v97 qv97 v98 qv98 H hS => TV_ok rfl (TV_a (TC_ow 0 hS rfl qv94 (fun _ _ => by simp [takeE, takeT, plainA]) fun H hS => TC_owN (d := nd_SInt) (Own.catI_ (bl := [[⟨v95, 1, ouw nm_SInt d96 b93.Queues⟩], [⟨v97, 1, b93.Credit.map (AV.int .i64)⟩], [⟨v98, 1, b93.Sent.map (AV.int .i64)⟩], (inn np_SInt (AV.int .i64) 1 d96 b93.Queues)]) (F := []) hS 4 rfl [0, 3, 1, 2] (by decide)) qv95 qd96 nt_SInt fun H hS => TC_ow 0 hS rfl qv97 (fun _ _ => by simp [takeE, takeT, plainA]) fun H hS => TC_ow 0 hS rfl qv98 (fun _ _ => by simp [takeE, takeT, plainA]) fun H hS => TC_sc rfl (TC_nil (TV_n rfl)))), ?_⟩
        simp only [W, frzL_map (c := (AV.int .i64)) (fun _ => rfl), frzL_mapN nz_SInt]
        try simp only [W, EE, EN, reduceIte, Nat.reduceAdd, Nat.reduceLeDiff, Nat.reduceBEq, Nat.reduceMul, Bool.false_eq_true]
        have hS : Own _ (⟨v41, 1, b23.map (AV.int .i64)⟩ :: ⟨v78, 1, b60.map (AV.int .i64)⟩ :: ⟨v32, 1, b22.Quanta.map (AV.int .i64)⟩ :: ⟨v34, 1, ouw nm_SInt d35 b22.Queues⟩ :: ⟨v37, 1, b22.Credit.map (AV.int .i64)⟩ :: ⟨v39, 1, b22.Sent.map (AV.int .i64)⟩ :: ⟨v46, 1, b45.Quanta.map (AV.int .i64)⟩ :: ⟨v48, 1, ouw nm_SInt d50 b45.Queues⟩ :: ⟨v51, 1, b45.Credit.map (AV.int .i64)⟩ :: ⟨v53, 1, b45.Sent.map (AV.int .i64)⟩ :: ⟨v69, 1, b59.Quanta.map (AV.int .i64)⟩ :: ⟨v71, 1, ouw nm_SInt d72 b59.Queues⟩ :: ⟨v74, 1, b59.Credit.map (AV.int .i64)⟩ :: ⟨v76, 1, b59.Sent.map (AV.int .i64)⟩ :: ⟨.ptr ip2 wp2 0 0, 5, [.agg [.fz (a0.Quanta.map (AV.int .i64)), .fz (a0.Queues.map (fzl (AV.int .i64))), .fz (a0.Credit.map (AV.int .i64)), .fz (a0.Sent.map (AV.int .i64)), .int .i64 a0.At]]⟩ :: ⟨.ptr ip42 wp42 0 0, 5, [.agg [v32, v34, v37, v39, .int .i64 b22.At]]⟩ :: ⟨.ptr ip55 wp55 0 0, 5, [.agg [v46, v48, v51, v53, .int .i64 b45.At]]⟩ :: ⟨.ptr ip79 wp79 0 0, 5, [.agg [v69, v71, v74, v76, .int .i64 b59.At]]⟩ :: ((inn np_SInt (AV.int .i64) 1 d35 b22.Queues) ++ ((inn np_SInt (AV.int .i64) 1 d50 b45.Queues) ++ ((inn np_SInt (AV.int .i64) 1 d72 b59.Queues) ++ F)))) := hS
        refine w_callS (rsh := [[.sc]]) (ys := [.agg [.fz (b45.Quanta.map (AV.int .i64)), .fz (b45.Queues.map (fzl (AV.int .i64))), .fz (b45.Credit.map (AV.int .i64)), .fz (b45.Sent.map (AV.int .i64)), .int .i64 b45.At], .agg [.fz (b93.Quanta.map (AV.int .i64)), .fz (b93.Queues.map (fzl (AV.int .i64))), .fz (b93.Credit.map (AV.int .i64)), .fz (b93.Sent.map (AV.int .i64)), .int .i64 b93.At]]) h rfl (pv_c (sn_agg (sm_c (sn_ow hS 6 rfl qv46 (fun _ => rfl)) (sm_c (sn_owN (enc := (fzl (AV.int .i64))) hS 7 rfl qv48 qd50 (fun _ h => (List.mem_cons_of_mem _ (List.mem_cons_of_mem _ (List.mem_cons_of_mem _ (List.mem_cons_of_mem _ (List.mem_cons_of_mem _ (List.mem_cons_of_mem _ (List.mem_cons_of_mem _ (List.mem_cons_of_mem _ (List.mem_cons_of_mem _ (List.mem_cons_of_mem _ (List.mem_cons_of_mem _ (List.mem_cons_of_mem _ (List.mem_cons_of_mem _ (List.mem_cons_of_mem _ (List.mem_cons_of_mem _ (List.mem_cons_of_mem _ (List.mem_cons_of_mem _ (List.mem_cons_of_mem _ (List.mem_append_right _ (List.mem_append_left _ h))))))))))))))))))))) (fun _ _ ha hk => sn_it hk ha (fun _ => rfl))) (sm_c (sn_ow hS 8 rfl qv51 (fun _ => rfl)) (sm_c (sn_ow hS 9 rfl qv53 (fun _ => rfl)) (sm_c rfl (sm_n _))))))) (pv_c rfl pv_n)) fun b99 hb99 h => ⟨.bool b99, laws_eqTurns_w hb99 (Own.nil _) fun H hS => TV_ok rfl (TV_p rfl (TV_n rfl)), ⟨rfl, rfl, fun _ => rfl⟩, ?_⟩
        try simp only [W]
        refine seq_n hK92 ?_
        refine w_if ?_
        simp only [W]
        refine w_cnd h (fun hc h => ?_) (fun hc h => ?_)
        · refine w_seq fun K100 hK100 => ?_
          refine w_reg gC ?_
          try simp only [W, Nat.reduceAdd]
          refine seq_n hK100 ?_
          refine w_ret ?_
          refine seq_r hK91 ?_
          refine fin_r1 hK0 rfl ?_
          try obtain rfl := Option.some.inj h
          have hS : Own _ (F) := Own.catI_ (bl := [[⟨v41, 1, b23.map (AV.int .i64)⟩], [⟨v78, 1, b60.map (AV.int .i64)⟩], [⟨v32, 1, b22.Quanta.map (AV.int .i64)⟩], [⟨v34, 1, ouw nm_SInt d35 b22.Queues⟩], [⟨v37, 1, b22.Credit.map (AV.int .i64)⟩], [⟨v39, 1, b22.Sent.map (AV.int .i64)⟩], [⟨v46, 1, b45.Quanta.map (AV.int .i64)⟩], [⟨v48, 1, ouw nm_SInt d50 b45.Queues⟩], [⟨v51, 1, b45.Credit.map (AV.int .i64)⟩], [⟨v53, 1, b45.Sent.map (AV.int .i64)⟩], [⟨v69, 1, b59.Quanta.map (AV.int .i64)⟩], [⟨v71, 1, ouw nm_SInt d72 b59.Queues⟩], [⟨v74, 1, b59.Credit.map (AV.int .i64)⟩], [⟨v76, 1, b59.Sent.map (AV.int .i64)⟩], [⟨.ptr ip2 wp2 0 0, 5, [.agg [.fz (a0.Quanta.map (AV.int .i64)), .fz (a0.Queues.map (fzl (AV.int .i64))), .fz (a0.Credit.map (AV.int .i64)), .fz (a0.Sent.map (AV.int .i64)), .int .i64 a0.At]]⟩], [⟨.ptr ip42 wp42 0 0, 5, [.agg [v32, v34, v37, v39, .int .i64 b22.At]]⟩], [⟨.ptr ip55 wp55 0 0, 5, [.agg [v46, v48, v51, v53, .int .i64 b45.At]]⟩], [⟨.ptr ip79 wp79 0 0, 5, [.agg [v69, v71, v74, v76, .int .i64 b59.At]]⟩], (inn np_SInt (AV.int .i64) 1 d35 b22.Queues), (inn np_SInt (AV.int .i64) 1 d50 b45.Queues), (inn np_SInt (AV.int .i64) 1 d72 b59.Queues)]) (F := F) hS 21 rfl [] (by decide)
          exact hP _ hS
        · refine w_skip ?_
          refine seq_n hK91 ?_
          refine w_seq fun K101 hK101 => ?_
          refine w_reg gC ?_
          try simp only [W, Nat.reduceAdd]
          refine seq_n hK101 ?_
          refine w_seq fun K102 hK102 => ?_
          refine w_reg gC ?_
          try simp only [W, EE, reduceIte, Nat.reduceAdd, Nat.reduceLeDiff, hS.var 16 rfl]
          have hS : Own _ (⟨v46, 1, b45.Quanta.map (AV.int .i64)⟩ :: ⟨v48, 1, ouw nm_SInt d50 b45.Queues⟩ :: ⟨v51, 1, b45.Credit.map (AV.int .i64)⟩ :: ⟨v53, 1, b45.Sent.map (AV.int .i64)⟩ :: ((inn np_SInt (AV.int .i64) 1 d50 b45.Queues) ++ (⟨v41, 1, b23.map (AV.int .i64)⟩ :: ⟨v78, 1, b60.map (AV.int .i64)⟩ :: ⟨v32, 1, b22.Quanta.map (AV.int .i64)⟩ :: ⟨v34, 1, ouw nm_SInt d35 b22.Queues⟩ :: ⟨v37, 1, b22.Credit.map (AV.int .i64)⟩ :: ⟨v39, 1, b22.Sent.map (AV.int .i64)⟩ :: ⟨v69, 1, b59.Quanta.map (AV.int .i64)⟩ :: ⟨v71, 1, ouw nm_SInt d72 b59.Queues⟩ :: ⟨v74, 1, b59.Credit.map (AV.int .i64)⟩ :: ⟨v76, 1, b59.Sent.map (AV.int .i64)⟩ :: ⟨.ptr ip2 wp2 0 0, 5, [.agg [.fz (a0.Quanta.map (AV.int .i64)), .fz (a0.Queues.map (fzl (AV.int .i64))), .fz (a0.Credit.map (AV.int .i64)), .fz (a0.Sent.map (AV.int .i64)), .int .i64 a0.At]]⟩ :: ⟨.ptr ip42 wp42 0 0, 5, [.agg [v32, v34, v37, v39, .int .i64 b22.At]]⟩ :: ⟨.ptr ip55 wp55 0 0, 5, [.agg [v46, v48, v51, v53, .int .i64 b45.At]]⟩ :: ⟨.ptr ip79 wp79 0 0, 5, [.agg [v69, v71, v74, v76, .int .i64 b59.At]]⟩ :: ((inn np_SInt (AV.int .i64) 1 d35 b22.Queues) ++ (((inn np_SInt (AV.int .i64) 1 d72 b59.Queues) ++ (F))))))) := Own.catI_ (bl := [[⟨v41, 1, b23.map (AV.int .i64)⟩], [⟨v78, 1, b60.map (AV.int .i64)⟩], [⟨v32, 1, b22.Quanta.map (AV.int .i64)⟩], [⟨v34, 1, ouw nm_SInt d35 b22.Queues⟩], [⟨v37, 1, b22.Credit.map (AV.int .i64)⟩], [⟨v39, 1, b22.Sent.map (AV.int .i64)⟩], [⟨v46, 1, b45.Quanta.map (AV.int .i64)⟩], [⟨v48, 1, ouw nm_SInt d50 b45.Queues⟩], [⟨v51, 1, b45.Credit.map (AV.int .i64)⟩], [⟨v53, 1, b45.Sent.map (AV.int .i64)⟩], [⟨v69, 1, b59.Quanta.map (AV.int .i64)⟩], [⟨v71, 1, ouw nm_SInt d72 b59.Queues⟩], [⟨v74, 1, b59.Credit.map (AV.int .i64)⟩], [⟨v76, 1, b59.Sent.map (AV.int .i64)⟩], [⟨.ptr ip2 wp2 0 0, 5, [.agg [.fz (a0.Quanta.map (AV.int .i64)), .fz (a0.Queues.map (fzl (AV.int .i64))), .fz (a0.Credit.map (AV.int .i64)), .fz (a0.Sent.map (AV.int .i64)), .int .i64 a0.At]]⟩], [⟨.ptr ip42 wp42 0 0, 5, [.agg [v32, v34, v37, v39, .int .i64 b22.At]]⟩], [⟨.ptr ip55 wp55 0 0, 5, [.agg [v46, v48, v51, v53, .int .i64 b45.At]]⟩], [⟨.ptr ip79 wp79 0 0, 5, [.agg [v69, v71, v74, v76, .int .i64 b59.At]]⟩], (inn np_SInt (AV.int .i64) 1 d35 b22.Queues), (inn np_SInt (AV.int .i64) 1 d50 b45.Queues), (inn np_SInt (AV.int .i64) 1 d72 b59.Queues)]) (F := F) hS 21 rfl [6, 7, 8, 9, 19, 0, 1, 2, 3, 4, 5, 10, 11, 12, 13, 14, 15, 16, 17, 18, 20] (by decide)
          refine w_call h fun b103 hb103 h => ?_
          obtain ⟨b104, b105, b106, b107, b108⟩ := b103
          try dsimp only at h
          refine laws_markTurns_w hb103 hS qv46 qv48 qd50 qv51 qv53 fun d109 qd109 H hS => ?_
          have hS : Own _ (⟨v46, 1, b105.map (AV.int .i64)⟩ :: ⟨v48, 1, ouw nm_SInt d109 b106⟩ :: ⟨v51, 1, b107.map (AV.int .i64)⟩ :: ⟨v53, 1, b108.map (AV.int .i64)⟩ :: ⟨v41, 1, b23.map (AV.int .i64)⟩ :: ⟨v78, 1, b60.map (AV.int .i64)⟩ :: ⟨v32, 1, b22.Quanta.map (AV.int .i64)⟩ :: ⟨v34, 1, ouw nm_SInt d35 b22.Queues⟩ :: ⟨v37, 1, b22.Credit.map (AV.int .i64)⟩ :: ⟨v39, 1, b22.Sent.map (AV.int .i64)⟩ :: ⟨v69, 1, b59.Quanta.map (AV.int .i64)⟩ :: ⟨v71, 1, ouw nm_SInt d72 b59.Queues⟩ :: ⟨v74, 1, b59.Credit.map (AV.int .i64)⟩ :: ⟨v76, 1, b59.Sent.map (AV.int .i64)⟩ :: ⟨.ptr ip2 wp2 0 0, 5, [.agg [.fz (a0.Quanta.map (AV.int .i64)), .fz (a0.Queues.map (fzl (AV.int .i64))), .fz (a0.Credit.map (AV.int .i64)), .fz (a0.Sent.map (AV.int .i64)), .int .i64 a0.At]]⟩ :: ⟨.ptr ip42 wp42 0 0, 5, [.agg [v32, v34, v37, v39, .int .i64 b22.At]]⟩ :: ⟨.ptr ip55 wp55 0 0, 5, [.agg [v46, v48, v51, v53, .int .i64 b45.At]]⟩ :: ⟨.ptr ip79 wp79 0 0, 5, [.agg [v69, v71, v74, v76, .int .i64 b59.At]]⟩ :: ((inn np_SInt (AV.int .i64) 1 d109 b106) ++ (((inn np_SInt (AV.int .i64) 1 d35 b22.Queues) ++ (((inn np_SInt (AV.int .i64) 1 d72 b59.Queues) ++ (F))))))) := Own.catI_ (bl := [[⟨v46, 1, b105.map (AV.int .i64)⟩], [⟨v48, 1, ouw nm_SInt d109 b106⟩], [⟨v51, 1, b107.map (AV.int .i64)⟩], [⟨v53, 1, b108.map (AV.int .i64)⟩], (inn np_SInt (AV.int .i64) 1 d109 b106), [⟨v41, 1, b23.map (AV.int .i64)⟩], [⟨v78, 1, b60.map (AV.int .i64)⟩], [⟨v32, 1, b22.Quanta.map (AV.int .i64)⟩], [⟨v34, 1, ouw nm_SInt d35 b22.Queues⟩], [⟨v37, 1, b22.Credit.map (AV.int .i64)⟩], [⟨v39, 1, b22.Sent.map (AV.int .i64)⟩], [⟨v69, 1, b59.Quanta.map (AV.int .i64)⟩], [⟨v71, 1, ouw nm_SInt d72 b59.Queues⟩], [⟨v74, 1, b59.Credit.map (AV.int .i64)⟩], [⟨v76, 1, b59.Sent.map (AV.int .i64)⟩], [⟨.ptr ip2 wp2 0 0, 5, [.agg [.fz (a0.Quanta.map (AV.int .i64)), .fz (a0.Queues.map (fzl (AV.int .i64))), .fz (a0.Credit.map (AV.int .i64)), .fz (a0.Sent.map (AV.int .i64)), .int .i64 a0.At]]⟩], [⟨.ptr ip42 wp42 0 0, 5, [.agg [v32, v34, v37, v39, .int .i64 b22.At]]⟩], [⟨.ptr ip55 wp55 0 0, 5, [.agg [v46, v48, v51, v53, .int .i64 b45.At]]⟩], [⟨.ptr ip79 wp79 0 0, 5, [.agg [v69, v71, v74, v76, .int .i64 b59.At]]⟩], (inn np_SInt (AV.int .i64) 1 d35 b22.Queues), (inn np_SInt (AV.int .i64) 1 d72 b59.Queues)]) (F := F) hS 21 rfl [0, 1, 2, 3, 5, 6, 7, 8, 9, 10, 11, 12, 13, 14, 15, 16, 17, 18, 4, 19, 20] (by decide)
          try simp only [W]
          refine seq_n hK102 ?_
          refine w_seq fun K110 hK110 => ?_
          refine w_seq fun K111 hK111 => ?_
          obtain ⟨y113, h, g114⟩ := Option.bind_eq_some_iff.1 h
          refine w_join gC (fun s H => ∃ x112 : Bool, y113 = (x112) ∧ s = (u :: .ptr ip2 wp2 0 0 :: u :: u :: .ptr ip42 wp42 0 0 :: v41 :: .bool b24 :: u :: .ptr ip79 wp79 0 0 :: v78 :: u :: u :: u :: u :: u :: u :: u :: u :: u :: u :: u :: u :: u :: u :: u :: u :: u :: u :: u :: u :: u :: u :: u :: u :: u :: u :: u :: u :: u :: u :: u :: u :: u :: u :: u :: u :: u :: u :: u :: u :: u :: u :: u :: u :: u :: u :: u :: u :: u :: u :: u :: u :: u :: u :: u :: u :: u :: u :: u :: u :: u :: u :: u :: u :: u :: u :: u :: u :: .bool x112 :: u :: u :: u :: u :: u :: u :: u :: u :: u :: u :: u :: u :: u :: u :: u :: u :: u :: u :: u :: u :: u :: u :: u :: u :: u :: u :: u :: u :: u :: u :: u :: u :: u :: u :: u :: u :: u :: u :: u :: u :: u :: u :: u :: u :: u :: u :: u :: u :: u :: u :: u :: u :: u :: u :: []) ∧ Own H (⟨v41, 1, b23.map (AV.int .i64)⟩ :: ⟨v78, 1, b60.map (AV.int .i64)⟩ :: ⟨v32, 1, b22.Quanta.map (AV.int .i64)⟩ :: ⟨v34, 1, ouw nm_SInt d35 b22.Queues⟩ :: ⟨v37, 1, b22.Credit.map (AV.int .i64)⟩ :: ⟨v39, 1, b22.Sent.map (AV.int .i64)⟩ :: ⟨v69, 1, b59.Quanta.map (AV.int .i64)⟩ :: ⟨v71, 1, ouw nm_SInt d72 b59.Queues⟩ :: ⟨v74, 1, b59.Credit.map (AV.int .i64)⟩ :: ⟨v76, 1, b59.Sent.map (AV.int .i64)⟩ :: ⟨.ptr ip2 wp2 0 0, 5, [.agg [.fz (a0.Quanta.map (AV.int .i64)), .fz (a0.Queues.map (fzl (AV.int .i64))), .fz (a0.Credit.map (AV.int .i64)), .fz (a0.Sent.map (AV.int .i64)), .int .i64 a0.At]]⟩ :: ⟨.ptr ip42 wp42 0 0, 5, [.agg [v32, v34, v37, v39, .int .i64 b22.At]]⟩ :: ⟨.ptr ip79 wp79 0 0, 5, [.agg [v69, v71, v74, v76, .int .i64 b59.At]]⟩ :: ((inn np_SInt (AV.int .i64) 1 d35 b22.Queues) ++ ((inn np_SInt (AV.int .i64) 1 d72 b59.Queues) ++ F)))) (fun K115 hK115 => ?_) (fun s H hq => ?_)
          · refine w_seq fun K116 hK116 => ?_
            refine w_reg gC ?_
            try simp only [W, EE, Nat.reduceAdd]
            refine w_grdT h (fun hc h => ?_) (fun hc h => ?_)
            · try simp only [W, hc]
              refine seq_n hK116 ?_
              refine w_killE (s' := (u :: .ptr ip2 wp2 0 0 :: u :: u :: .ptr ip42 wp42 0 0 :: v41 :: .bool b24 :: u :: .ptr ip79 wp79 0 0 :: v78 :: u :: u :: u :: u :: u :: u :: u :: u :: u :: u :: u :: u :: u :: u :: u :: u :: u :: u :: u :: u :: u :: u :: u :: u :: u :: u :: u :: u :: u :: u :: u :: u :: u :: u :: u :: u :: u :: u :: u :: u :: u :: u :: u :: u :: u :: u :: u :: u :: u :: u :: u :: u :: u :: u :: u :: u :: u :: u :: u :: u :: u :: u :: u :: u :: u :: u :: u :: u :: .bool true :: u :: u :: u :: u :: u :: u :: u :: u :: u :: u :: u :: u :: u :: u :: u :: u :: u :: u :: u :: u :: u :: u :: u :: u :: u :: u :: u :: u :: u :: u :: u :: u :: u :: u :: u :: u :: u :: u :: u :: u :: u :: u :: u :: u :: u :: u :: u :: u :: u :: u :: u :: u :: u :: u :: [])) rfl ?_
              have hS : Own _ (⟨v41, 1, b23.map (AV.int .i64)⟩ :: ⟨v78, 1, b60.map (AV.int .i64)⟩ :: ⟨v32, 1, b22.Quanta.map (AV.int .i64)⟩ :: ⟨v34, 1, ouw nm_SInt d35 b22.Queues⟩ :: ⟨v37, 1, b22.Credit.map (AV.int .i64)⟩ :: ⟨v39, 1, b22.Sent.map (AV.int .i64)⟩ :: ⟨v69, 1, b59.Quanta.map (AV.int .i64)⟩ :: ⟨v71, 1, ouw nm_SInt d72 b59.Queues⟩ :: ⟨v74, 1, b59.Credit.map (AV.int .i64)⟩ :: ⟨v76, 1, b59.Sent.map (AV.int .i64)⟩ :: ⟨.ptr ip2 wp2 0 0, 5, [.agg [.fz (a0.Quanta.map (AV.int .i64)), .fz (a0.Queues.map (fzl (AV.int .i64))), .fz (a0.Credit.map (AV.int .i64)), .fz (a0.Sent.map (AV.int .i64)), .int .i64 a0.At]]⟩ :: ⟨.ptr ip42 wp42 0 0, 5, [.agg [v32, v34, v37, v39, .int .i64 b22.At]]⟩ :: ⟨.ptr ip79 wp79 0 0, 5, [.agg [v69, v71, v74, v76, .int .i64 b59.At]]⟩ :: ((inn np_SInt (AV.int .i64) 1 d35 b22.Queues) ++ (((inn np_SInt (AV.int .i64) 1 d72 b59.Queues) ++ (F))))) := Own.catI_ (bl := [[⟨v46, 1, b105.map (AV.int .i64)⟩], [⟨v48, 1, ouw nm_SInt d109 b106⟩], [⟨v51, 1, b107.map (AV.int .i64)⟩], [⟨v53, 1, b108.map (AV.int .i64)⟩], [⟨v41, 1, b23.map (AV.int .i64)⟩], [⟨v78, 1, b60.map (AV.int .i64)⟩], [⟨v32, 1, b22.Quanta.map (AV.int .i64)⟩], [⟨v34, 1, ouw nm_SInt d35 b22.Queues⟩], [⟨v37, 1, b22.Credit.map (AV.int .i64)⟩], [⟨v39, 1, b22.Sent.map (AV.int .i64)⟩], [⟨v69, 1, b59.Quanta.map (AV.int .i64)⟩], [⟨v71, 1, ouw nm_SInt d72 b59.Queues⟩], [⟨v74, 1, b59.Credit.map (AV.int .i64)⟩], [⟨v76, 1, b59.Sent.map (AV.int .i64)⟩], [⟨.ptr ip2 wp2 0 0, 5, [.agg [.fz (a0.Quanta.map (AV.int .i64)), .fz (a0.Queues.map (fzl (AV.int .i64))), .fz (a0.Credit.map (AV.int .i64)), .fz (a0.Sent.map (AV.int .i64)), .int .i64 a0.At]]⟩], [⟨.ptr ip42 wp42 0 0, 5, [.agg [v32, v34, v37, v39, .int .i64 b22.At]]⟩], [⟨.ptr ip55 wp55 0 0, 5, [.agg [v46, v48, v51, v53, .int .i64 b45.At]]⟩], [⟨.ptr ip79 wp79 0 0, 5, [.agg [v69, v71, v74, v76, .int .i64 b59.At]]⟩], (inn np_SInt (AV.int .i64) 1 d109 b106), (inn np_SInt (AV.int .i64) 1 d35 b22.Queues), (inn np_SInt (AV.int .i64) 1 d72 b59.Queues)]) (F := F) hS 21 rfl [4, 5, 6, 7, 8, 9, 10, 11, 12, 13, 14, 15, 17, 19, 20] (by decide)
              exact cut_n hK115 ⟨_, (Option.some.inj h).symm, rfl, hS⟩
            · try simp only [W, EE, reduceIte, Nat.reduceAdd, Nat.reduceLeDiff, hS.var 15 rfl, hS.var 17 rfl, hc]
              have hS : Own _ (⟨v46, 1, b105.map (AV.int .i64)⟩ :: ⟨v48, 1, ouw nm_SInt d109 b106⟩ :: ⟨v51, 1, b107.map (AV.int .i64)⟩ :: ⟨v53, 1, b108.map (AV.int .i64)⟩ :: ⟨v41, 1, b23.map (AV.int .i64)⟩ :: ⟨v78, 1, b60.map (AV.int .i64)⟩ :: ⟨v32, 1, b22.Quanta.map (AV.int .i64)⟩ :: ⟨v34, 1, ouw nm_SInt d35 b22.Queues⟩ :: ⟨v37, 1, b22.Credit.map (AV.int .i64)⟩ :: ⟨v39, 1, b22.Sent.map (AV.int .i64)⟩ :: ⟨v69, 1, b59.Quanta.map (AV.int .i64)⟩ :: ⟨v71, 1, ouw nm_SInt d72 b59.Queues⟩ :: ⟨v74, 1, b59.Credit.map (AV.int .i64)⟩ :: ⟨v76, 1, b59.Sent.map (AV.int .i64)⟩ :: ⟨.ptr ip2 wp2 0 0, 5, [.agg [.fz (a0.Quanta.map (AV.int .i64)), .fz (a0.Queues.map (fzl (AV.int .i64))), .fz (a0.Credit.map (AV.int .i64)), .fz (a0.Sent.map (AV.int .i64)), .int .i64 a0.At]]⟩ :: ⟨.ptr ip42 wp42 0 0, 5, [.agg [v32, v34, v37, v39, .int .i64 b22.At]]⟩ :: ⟨.ptr ip55 wp55 0 0, 5, [.agg [v46, v48, v51, v53, .int .i64 b45.At]]⟩ :: ⟨.ptr ip79 wp79 0 0, 5, [.agg [v69, v71, v74, v76, .int .i64 b59.At]]⟩ :: ((inn np_SInt (AV.int .i64) 1 d109 b106) ++ ((inn np_SInt (AV.int .i64) 1 d35 b22.Queues) ++ ((inn np_SInt (AV.int .i64) 1 d72 b59.Queues) ++ F)))) := hS
              refine w_callS (rsh := [[.sc]]) (ys := [.agg [.fz (b59.Quanta.map (AV.int .i64)), .fz (b59.Queues.map (fzl (AV.int .i64))), .fz (b59.Credit.map (AV.int .i64)), .fz (b59.Sent.map (AV.int .i64)), .int .i64 b59.At], .agg [.fz (b22.Quanta.map (AV.int .i64)), .fz (b22.Queues.map (fzl (AV.int .i64))), .fz (b22.Credit.map (AV.int .i64)), .fz (b22.Sent.map (AV.int .i64)), .int .i64 b22.At]]) h rfl (pv_c (sn_agg (sm_c (sn_ow hS 10 rfl qv69 (fun _ => rfl)) (sm_c (sn_owN (enc := (fzl (AV.int .i64))) hS 11 rfl qv71 qd72 (fun _ h => (List.mem_cons_of_mem _ (List.mem_cons_of_mem _ (List.mem_cons_of_mem _ (List.mem_cons_of_mem _ (List.mem_cons_of_mem _ (List.mem_cons_of_mem _ (List.mem_cons_of_mem _ (List.mem_cons_of_mem _ (List.mem_cons_of_mem _ (List.mem_cons_of_mem _ (List.mem_cons_of_mem _ (List.mem_cons_of_mem _ (List.mem_cons_of_mem _ (List.mem_cons_of_mem _ (List.mem_cons_of_mem _ (List.mem_cons_of_mem _ (List.mem_cons_of_mem _ (List.mem_cons_of_mem _ (List.mem_append_right _ (List.mem_append_right _ (List.mem_append_left _ h)))))))))))))))))))))) (fun _ _ ha hk => sn_it hk ha (fun _ => rfl))) (sm_c (sn_ow hS 12 rfl qv74 (fun _ => rfl)) (sm_c (sn_ow hS 13 rfl qv76 (fun _ => rfl)) (sm_c rfl (sm_n _))))))) (pv_c (sn_agg (sm_c (sn_ow hS 6 rfl qv32 (fun _ => rfl)) (sm_c (sn_owN (enc := (fzl (AV.int .i64))) hS 7 rfl qv34 qd35 (fun _ h => (List.mem_cons_of_mem _ (List.mem_cons_of_mem _ (List.mem_cons_of_mem _ (List.mem_cons_of_mem _ (List.mem_cons_of_mem _ (List.mem_cons_of_mem _ (List.mem_cons_of_mem _ (List.mem_cons_of_mem _ (List.mem_cons_of_mem _ (List.mem_cons_of_mem _ (List.mem_cons_of_mem _ (List.mem_cons_of_mem _ (List.mem_cons_of_mem _ (List.mem_cons_of_mem _ (List.mem_cons_of_mem _ (List.mem_cons_of_mem _ (List.mem_cons_of_mem _ (List.mem_cons_of_mem _ (List.mem_append_right _ (List.mem_append_left _ h))))))))))))))))))))) (fun _ _ ha hk => sn_it hk ha (fun _ => rfl))) (sm_c (sn_ow hS 8 rfl qv37 (fun _ => rfl)) (sm_c (sn_ow hS 9 rfl qv39 (fun _ => rfl)) (sm_c rfl (sm_n _))))))) pv_n)) fun b117 hb117 h => ⟨.bool b117, laws_eqTurns_w hb117 (Own.nil _) fun H hS => TV_ok rfl (TV_p rfl (TV_n rfl)), ⟨rfl, rfl, fun _ => rfl⟩, ?_⟩
              try simp only [W, reduceIte, Bool.false_eq_true]
              refine w_grdT h (fun hc h => ?_) (fun hc h => ?_)
              · try simp only [W, hc]
                refine seq_n hK116 ?_
                refine w_killE (s' := (u :: .ptr ip2 wp2 0 0 :: u :: u :: .ptr ip42 wp42 0 0 :: v41 :: .bool b24 :: u :: .ptr ip79 wp79 0 0 :: v78 :: u :: u :: u :: u :: u :: u :: u :: u :: u :: u :: u :: u :: u :: u :: u :: u :: u :: u :: u :: u :: u :: u :: u :: u :: u :: u :: u :: u :: u :: u :: u :: u :: u :: u :: u :: u :: u :: u :: u :: u :: u :: u :: u :: u :: u :: u :: u :: u :: u :: u :: u :: u :: u :: u :: u :: u :: u :: u :: u :: u :: u :: u :: u :: u :: u :: u :: u :: u :: .bool true :: u :: u :: u :: u :: u :: u :: u :: u :: u :: u :: u :: u :: u :: u :: u :: u :: u :: u :: u :: u :: u :: u :: u :: u :: u :: u :: u :: u :: u :: u :: u :: u :: u :: u :: u :: u :: u :: u :: u :: u :: u :: u :: u :: u :: u :: u :: u :: u :: u :: u :: u :: u :: u :: u :: [])) rfl ?_
                have hS : Own _ (⟨v41, 1, b23.map (AV.int .i64)⟩ :: ⟨v78, 1, b60.map (AV.int .i64)⟩ :: ⟨v32, 1, b22.Quanta.map (AV.int .i64)⟩ :: ⟨v34, 1, ouw nm_SInt d35 b22.Queues⟩ :: ⟨v37, 1, b22.Credit.map (AV.int .i64)⟩ :: ⟨v39, 1, b22.Sent.map (AV.int .i64)⟩ :: ⟨v69, 1, b59.Quanta.map (AV.int .i64)⟩ :: ⟨v71, 1, ouw nm_SInt d72 b59.Queues⟩ :: ⟨v74, 1, b59.Credit.map (AV.int .i64)⟩ :: ⟨v76, 1, b59.Sent.map (AV.int .i64)⟩ :: ⟨.ptr ip2 wp2 0 0, 5, [.agg [.fz (a0.Quanta.map (AV.int .i64)), .fz (a0.Queues.map (fzl (AV.int .i64))), .fz (a0.Credit.map (AV.int .i64)), .fz (a0.Sent.map (AV.int .i64)), .int .i64 a0.At]]⟩ :: ⟨.ptr ip42 wp42 0 0, 5, [.agg [v32, v34, v37, v39, .int .i64 b22.At]]⟩ :: ⟨.ptr ip79 wp79 0 0, 5, [.agg [v69, v71, v74, v76, .int .i64 b59.At]]⟩ :: ((inn np_SInt (AV.int .i64) 1 d35 b22.Queues) ++ (((inn np_SInt (AV.int .i64) 1 d72 b59.Queues) ++ (F))))) := Own.catI_ (bl := [[⟨v46, 1, b105.map (AV.int .i64)⟩], [⟨v48, 1, ouw nm_SInt d109 b106⟩], [⟨v51, 1, b107.map (AV.int .i64)⟩], [⟨v53, 1, b108.map (AV.int .i64)⟩], [⟨v41, 1, b23.map (AV.int .i64)⟩], [⟨v78, 1, b60.map (AV.int .i64)⟩], [⟨v32, 1, b22.Quanta.map (AV.int .i64)⟩], [⟨v34, 1, ouw nm_SInt d35 b22.Queues⟩], [⟨v37, 1, b22.Credit.map (AV.int .i64)⟩], [⟨v39, 1, b22.Sent.map (AV.int .i64)⟩], [⟨v69, 1, b59.Quanta.map (AV.int .i64)⟩], [⟨v71, 1, ouw nm_SInt d72 b59.Queues⟩], [⟨v74, 1, b59.Credit.map (AV.int .i64)⟩], [⟨v76, 1, b59.Sent.map (AV.int .i64)⟩], [⟨.ptr ip2 wp2 0 0, 5, [.agg [.fz (a0.Quanta.map (AV.int .i64)), .fz (a0.Queues.map (fzl (AV.int .i64))), .fz (a0.Credit.map (AV.int .i64)), .fz (a0.Sent.map (AV.int .i64)), .int .i64 a0.At]]⟩], [⟨.ptr ip42 wp42 0 0, 5, [.agg [v32, v34, v37, v39, .int .i64 b22.At]]⟩], [⟨.ptr ip55 wp55 0 0, 5, [.agg [v46, v48, v51, v53, .int .i64 b45.At]]⟩], [⟨.ptr ip79 wp79 0 0, 5, [.agg [v69, v71, v74, v76, .int .i64 b59.At]]⟩], (inn np_SInt (AV.int .i64) 1 d109 b106), (inn np_SInt (AV.int .i64) 1 d35 b22.Queues), (inn np_SInt (AV.int .i64) 1 d72 b59.Queues)]) (F := F) hS 21 rfl [4, 5, 6, 7, 8, 9, 10, 11, 12, 13, 14, 15, 17, 19, 20] (by decide)
                exact cut_n hK115 ⟨_, (Option.some.inj h).symm, rfl, hS⟩
              · try simp only [W, hc]
                have hS : Own _ (⟨v46, 1, b105.map (AV.int .i64)⟩ :: ⟨v48, 1, ouw nm_SInt d109 b106⟩ :: ⟨v51, 1, b107.map (AV.int .i64)⟩ :: ⟨v53, 1, b108.map (AV.int .i64)⟩ :: ⟨v41, 1, b23.map (AV.int .i64)⟩ :: ⟨v78, 1, b60.map (AV.int .i64)⟩ :: ⟨v32, 1, b22.Quanta.map (AV.int .i64)⟩ :: ⟨v34, 1, ouw nm_SInt d35 b22.Queues⟩ :: ⟨v37, 1, b22.Credit.map (AV.int .i64)⟩ :: ⟨v39, 1, b22.Sent.map (AV.int .i64)⟩ :: ⟨v69, 1, b59.Quanta.map (AV.int .i64)⟩ :: ⟨v71, 1, ouw nm_SInt d72 b59.Queues⟩ :: ⟨v74, 1, b59.Credit.map (AV.int .i64)⟩ :: ⟨v76, 1, b59.Sent.map (AV.int .i64)⟩ :: ⟨.ptr ip2 wp2 0 0, 5, [.agg [.fz (a0.Quanta.map (AV.int .i64)), .fz (a0.Queues.map (fzl (AV.int .i64))), .fz (a0.Credit.map (AV.int .i64)), .fz (a0.Sent.map (AV.int .i64)), .int .i64 a0.At]]⟩ :: ⟨.ptr ip42 wp42 0 0, 5, [.agg [v32, v34, v37, v39, .int .i64 b22.At]]⟩ :: ⟨.ptr ip55 wp55 0 0, 5, [.agg [v46, v48, v51, v53, .int .i64 b45.At]]⟩ :: ⟨.ptr ip79 wp79 0 0, 5, [.agg [v69, v71, v74, v76, .int .i64 b59.At]]⟩ :: ((inn np_SInt (AV.int .i64) 1 d109 b106) ++ ((inn np_SInt (AV.int .i64) 1 d35 b22.Queues) ++ ((inn np_SInt (AV.int .i64) 1 d72 b59.Queues) ++ F)))) := hS
                refine w_callS (rsh := [[.sc]]) (ys := [.fz (b60.map (AV.int .i64)), .fz (b23.map (AV.int .i64))]) h rfl (pv_c (sn_ow hS 5 rfl qv78 (fun _ => rfl)) (pv_c (sn_ow hS 4 rfl qv41 (fun _ => rfl)) pv_n)) fun b118 hb118 h => ⟨.bool b118, laws_eqIntS_w hb118 (Own.nil _) fun H hS => TV_ok rfl (TV_p rfl (TV_n rfl)), ⟨rfl, rfl, fun _ => rfl⟩, ?_⟩
                try simp only [W, reduceIte, Bool.false_eq_true]
                refine w_grdT h (fun hc h => ?_) (fun hc h => ?_)
                · try simp only [W, hc]
                  refine seq_n hK116 ?_
                  refine w_killE (s' := (u :: .ptr ip2 wp2 0 0 :: u :: u :: .ptr ip42 wp42 0 0 :: v41 :: .bool b24 :: u :: .ptr ip79 wp79 0 0 :: v78 :: u :: u :: u :: u :: u :: u :: u :: u :: u :: u :: u :: u :: u :: u :: u :: u :: u :: u :: u :: u :: u :: u :: u :: u :: u :: u :: u :: u :: u :: u :: u :: u :: u :: u :: u :: u :: u :: u :: u :: u :: u :: u :: u :: u :: u :: u :: u :: u :: u :: u :: u :: u :: u :: u :: u :: u :: u :: u :: u :: u :: u :: u :: u :: u :: u :: u :: u :: u :: .bool true :: u :: u :: u :: u :: u :: u :: u :: u :: u :: u :: u :: u :: u :: u :: u :: u :: u :: u :: u :: u :: u :: u :: u :: u :: u :: u :: u :: u :: u :: u :: u :: u :: u :: u :: u :: u :: u :: u :: u :: u :: u :: u :: u :: u :: u :: u :: u :: u :: u :: u :: u :: u :: u :: u :: [])) rfl ?_
                  have hS : Own _ (⟨v41, 1, b23.map (AV.int .i64)⟩ :: ⟨v78, 1, b60.map (AV.int .i64)⟩ :: ⟨v32, 1, b22.Quanta.map (AV.int .i64)⟩ :: ⟨v34, 1, ouw nm_SInt d35 b22.Queues⟩ :: ⟨v37, 1, b22.Credit.map (AV.int .i64)⟩ :: ⟨v39, 1, b22.Sent.map (AV.int .i64)⟩ :: ⟨v69, 1, b59.Quanta.map (AV.int .i64)⟩ :: ⟨v71, 1, ouw nm_SInt d72 b59.Queues⟩ :: ⟨v74, 1, b59.Credit.map (AV.int .i64)⟩ :: ⟨v76, 1, b59.Sent.map (AV.int .i64)⟩ :: ⟨.ptr ip2 wp2 0 0, 5, [.agg [.fz (a0.Quanta.map (AV.int .i64)), .fz (a0.Queues.map (fzl (AV.int .i64))), .fz (a0.Credit.map (AV.int .i64)), .fz (a0.Sent.map (AV.int .i64)), .int .i64 a0.At]]⟩ :: ⟨.ptr ip42 wp42 0 0, 5, [.agg [v32, v34, v37, v39, .int .i64 b22.At]]⟩ :: ⟨.ptr ip79 wp79 0 0, 5, [.agg [v69, v71, v74, v76, .int .i64 b59.At]]⟩ :: ((inn np_SInt (AV.int .i64) 1 d35 b22.Queues) ++ (((inn np_SInt (AV.int .i64) 1 d72 b59.Queues) ++ (F))))) := Own.catI_ (bl := [[⟨v46, 1, b105.map (AV.int .i64)⟩], [⟨v48, 1, ouw nm_SInt d109 b106⟩], [⟨v51, 1, b107.map (AV.int .i64)⟩], [⟨v53, 1, b108.map (AV.int .i64)⟩], [⟨v41, 1, b23.map (AV.int .i64)⟩], [⟨v78, 1, b60.map (AV.int .i64)⟩], [⟨v32, 1, b22.Quanta.map (AV.int .i64)⟩], [⟨v34, 1, ouw nm_SInt d35 b22.Queues⟩], [⟨v37, 1, b22.Credit.map (AV.int .i64)⟩], [⟨v39, 1, b22.Sent.map (AV.int .i64)⟩], [⟨v69, 1, b59.Quanta.map (AV.int .i64)⟩], [⟨v71, 1, ouw nm_SInt d72 b59.Queues⟩], [⟨v74, 1, b59.Credit.map (AV.int .i64)⟩], [⟨v76, 1, b59.Sent.map (AV.int .i64)⟩], [⟨.ptr ip2 wp2 0 0, 5, [.agg [.fz (a0.Quanta.map (AV.int .i64)), .fz (a0.Queues.map (fzl (AV.int .i64))), .fz (a0.Credit.map (AV.int .i64)), .fz (a0.Sent.map (AV.int .i64)), .int .i64 a0.At]]⟩], [⟨.ptr ip42 wp42 0 0, 5, [.agg [v32, v34, v37, v39, .int .i64 b22.At]]⟩], [⟨.ptr ip55 wp55 0 0, 5, [.agg [v46, v48, v51, v53, .int .i64 b45.At]]⟩], [⟨.ptr ip79 wp79 0 0, 5, [.agg [v69, v71, v74, v76, .int .i64 b59.At]]⟩], (inn np_SInt (AV.int .i64) 1 d109 b106), (inn np_SInt (AV.int .i64) 1 d35 b22.Queues), (inn np_SInt (AV.int .i64) 1 d72 b59.Queues)]) (F := F) hS 21 rfl [4, 5, 6, 7, 8, 9, 10, 11, 12, 13, 14, 15, 17, 19, 20] (by decide)
                  exact cut_n hK115 ⟨_, (Option.some.inj h).symm, rfl, hS⟩
                · try simp only [W, EE, hc]
                  rw [b_bneq _ _ _ _ (h := rfl) rfl, resV_s]
                  try simp only [W, reduceIte, Bool.false_eq_true]
                  refine seq_n hK116 ?_
                  refine w_killE (s' := (u :: .ptr ip2 wp2 0 0 :: u :: u :: .ptr ip42 wp42 0 0 :: v41 :: .bool b24 :: u :: .ptr ip79 wp79 0 0 :: v78 :: u :: u :: u :: u :: u :: u :: u :: u :: u :: u :: u :: u :: u :: u :: u :: u :: u :: u :: u :: u :: u :: u :: u :: u :: u :: u :: u :: u :: u :: u :: u :: u :: u :: u :: u :: u :: u :: u :: u :: u :: u :: u :: u :: u :: u :: u :: u :: u :: u :: u :: u :: u :: u :: u :: u :: u :: u :: u :: u :: u :: u :: u :: u :: u :: u :: u :: u :: u :: .bool (!(b61 == b24)) :: u :: u :: u :: u :: u :: u :: u :: u :: u :: u :: u :: u :: u :: u :: u :: u :: u :: u :: u :: u :: u :: u :: u :: u :: u :: u :: u :: u :: u :: u :: u :: u :: u :: u :: u :: u :: u :: u :: u :: u :: u :: u :: u :: u :: u :: u :: u :: u :: u :: u :: u :: u :: u :: u :: [])) rfl ?_
                  have hS : Own _ (⟨v41, 1, b23.map (AV.int .i64)⟩ :: ⟨v78, 1, b60.map (AV.int .i64)⟩ :: ⟨v32, 1, b22.Quanta.map (AV.int .i64)⟩ :: ⟨v34, 1, ouw nm_SInt d35 b22.Queues⟩ :: ⟨v37, 1, b22.Credit.map (AV.int .i64)⟩ :: ⟨v39, 1, b22.Sent.map (AV.int .i64)⟩ :: ⟨v69, 1, b59.Quanta.map (AV.int .i64)⟩ :: ⟨v71, 1, ouw nm_SInt d72 b59.Queues⟩ :: ⟨v74, 1, b59.Credit.map (AV.int .i64)⟩ :: ⟨v76, 1, b59.Sent.map (AV.int .i64)⟩ :: ⟨.ptr ip2 wp2 0 0, 5, [.agg [.fz (a0.Quanta.map (AV.int .i64)), .fz (a0.Queues.map (fzl (AV.int .i64))), .fz (a0.Credit.map (AV.int .i64)), .fz (a0.Sent.map (AV.int .i64)), .int .i64 a0.At]]⟩ :: ⟨.ptr ip42 wp42 0 0, 5, [.agg [v32, v34, v37, v39, .int .i64 b22.At]]⟩ :: ⟨.ptr ip79 wp79 0 0, 5, [.agg [v69, v71, v74, v76, .int .i64 b59.At]]⟩ :: ((inn np_SInt (AV.int .i64) 1 d35 b22.Queues) ++ (((inn np_SInt (AV.int .i64) 1 d72 b59.Queues) ++ (F))))) := Own.catI_ (bl := [[⟨v46, 1, b105.map (AV.int .i64)⟩], [⟨v48, 1, ouw nm_SInt d109 b106⟩], [⟨v51, 1, b107.map (AV.int .i64)⟩], [⟨v53, 1, b108.map (AV.int .i64)⟩], [⟨v41, 1, b23.map (AV.int .i64)⟩], [⟨v78, 1, b60.map (AV.int .i64)⟩], [⟨v32, 1, b22.Quanta.map (AV.int .i64)⟩], [⟨v34, 1, ouw nm_SInt d35 b22.Queues⟩], [⟨v37, 1, b22.Credit.map (AV.int .i64)⟩], [⟨v39, 1, b22.Sent.map (AV.int .i64)⟩], [⟨v69, 1, b59.Quanta.map (AV.int .i64)⟩], [⟨v71, 1, ouw nm_SInt d72 b59.Queues⟩], [⟨v74, 1, b59.Credit.map (AV.int .i64)⟩], [⟨v76, 1, b59.Sent.map (AV.int .i64)⟩], [⟨.ptr ip2 wp2 0 0, 5, [.agg [.fz (a0.Quanta.map (AV.int .i64)), .fz (a0.Queues.map (fzl (AV.int .i64))), .fz (a0.Credit.map (AV.int .i64)), .fz (a0.Sent.map (AV.int .i64)), .int .i64 a0.At]]⟩], [⟨.ptr ip42 wp42 0 0, 5, [.agg [v32, v34, v37, v39, .int .i64 b22.At]]⟩], [⟨.ptr ip55 wp55 0 0, 5, [.agg [v46, v48, v51, v53, .int .i64 b45.At]]⟩], [⟨.ptr ip79 wp79 0 0, 5, [.agg [v69, v71, v74, v76, .int .i64 b59.At]]⟩], (inn np_SInt (AV.int .i64) 1 d109 b106), (inn np_SInt (AV.int .i64) 1 d35 b22.Queues), (inn np_SInt (AV.int .i64) 1 d72 b59.Queues)]) (F := F) hS 21 rfl [4, 5, 6, 7, 8, 9, 10, 11, 12, 13, 14, 15, 17, 19, 20] (by decide)
                  exact cut_n hK115 ⟨_, (Option.some.inj h).symm, rfl, hS⟩
          · obtain ⟨x112, ey, rfl, hS⟩ := hq; obtain rfl := ey.symm
            replace h := g114
            try dsimp only at h
            refine seq_n hK111 ?_
            refine w_if ?_
            simp only [W]
            refine w_cnd h (fun hc h => ?_) (fun hc h => ?_)
            · refine w_seq fun K119 hK119 => ?_
              refine w_reg gC ?_
              try simp only [W, Nat.reduceAdd]
              refine seq_n hK119 ?_
              refine w_ret ?_
              refine seq_r hK110 ?_
              refine fin_r1 hK0 rfl ?_
              try obtain rfl := Option.some.inj h
              have hS : Own _ (F) := Own.catI_ (bl := [[⟨v41, 1, b23.map (AV.int .i64)⟩], [⟨v78, 1, b60.map (AV.int .i64)⟩], [⟨v32, 1, b22.Quanta.map (AV.int .i64)⟩], [⟨v34, 1, ouw nm_SInt d35 b22.Queues⟩], [⟨v37, 1, b22.Credit.map (AV.int .i64)⟩], [⟨v39, 1, b22.Sent.map (AV.int .i64)⟩], [⟨v69, 1, b59.Quanta.map (AV.int .i64)⟩], [⟨v71, 1, ouw nm_SInt d72 b59.Queues⟩], [⟨v74, 1, b59.Credit.map (AV.int .i64)⟩], [⟨v76, 1, b59.Sent.map (AV.int .i64)⟩], [⟨.ptr ip2 wp2 0 0, 5, [.agg [.fz (a0.Quanta.map (AV.int .i64)), .fz (a0.Queues.map (fzl (AV.int .i64))), .fz (a0.Credit.map (AV.int .i64)), .fz (a0.Sent.map (AV.int .i64)), .int .i64 a0.At]]⟩], [⟨.ptr ip42 wp42 0 0, 5, [.agg [v32, v34, v37, v39, .int .i64 b22.At]]⟩], [⟨.ptr ip79 wp79 0 0, 5, [.agg [v69, v71, v74, v76, .int .i64 b59.At]]⟩], (inn np_SInt (AV.int .i64) 1 d35 b22.Queues), (inn np_SInt (AV.int .i64) 1 d72 b59.Queues)]) (F := F) hS 15 rfl [] (by decide)
              exact hP _ hS
            · refine w_skip ?_
              refine seq_n hK110 ?_
              refine w_seq fun K120 hK120 => ?_
              refine w_reg gC ?_
              try simp only [W, Nat.reduceAdd]
              refine seq_n hK120 ?_
              refine w_seq fun K121 hK121 => ?_
              refine w_reg gC ?_
              try simp only [W, EE, reduceIte, Nat.reduceAdd, Nat.reduceLeDiff, hS.var 12 rfl]
              have hS : Own _ (⟨v69, 1, b59.Quanta.map (AV.int .i64)⟩ :: ⟨v71, 1, ouw nm_SInt d72 b59.Queues⟩ :: ⟨v74, 1, b59.Credit.map (AV.int .i64)⟩ :: ⟨v76, 1, b59.Sent.map (AV.int .i64)⟩ :: ((inn np_SInt (AV.int .i64) 1 d72 b59.Queues) ++ (⟨v41, 1, b23.map (AV.int .i64)⟩ :: ⟨v78, 1, b60.map (AV.int .i64)⟩ :: ⟨v32, 1, b22.Quanta.map (AV.int .i64)⟩ :: ⟨v34, 1, ouw nm_SInt d35 b22.Queues⟩ :: ⟨v37, 1, b22.Credit.map (AV.int .i64)⟩ :: ⟨v39, 1, b22.Sent.map (AV.int .i64)⟩ :: ⟨.ptr ip2 wp2 0 0, 5, [.agg [.fz (a0.Quanta.map (AV.int .i64)), .fz (a0.Queues.map (fzl (AV.int .i64))), .fz (a0.Credit.map (AV.int .i64)), .fz (a0.Sent.map (AV.int .i64)), .int .i64 a0.At]]⟩ :: ⟨.ptr ip42 wp42 0 0, 5, [.agg [v32, v34, v37, v39, .int .i64 b22.At]]⟩ :: ⟨.ptr ip79 wp79 0 0, 5, [.agg [v69, v71, v74, v76, .int .i64 b59.At]]⟩ :: ((inn np_SInt (AV.int .i64) 1 d35 b22.Queues) ++ (F))))) := Own.catI_ (bl := [[⟨v41, 1, b23.map (AV.int .i64)⟩], [⟨v78, 1, b60.map (AV.int .i64)⟩], [⟨v32, 1, b22.Quanta.map (AV.int .i64)⟩], [⟨v34, 1, ouw nm_SInt d35 b22.Queues⟩], [⟨v37, 1, b22.Credit.map (AV.int .i64)⟩], [⟨v39, 1, b22.Sent.map (AV.int .i64)⟩], [⟨v69, 1, b59.Quanta.map (AV.int .i64)⟩], [⟨v71, 1, ouw nm_SInt d72 b59.Queues⟩], [⟨v74, 1, b59.Credit.map (AV.int .i64)⟩], [⟨v76, 1, b59.Sent.map (AV.int .i64)⟩], [⟨.ptr ip2 wp2 0 0, 5, [.agg [.fz (a0.Quanta.map (AV.int .i64)), .fz (a0.Queues.map (fzl (AV.int .i64))), .fz (a0.Credit.map (AV.int .i64)), .fz (a0.Sent.map (AV.int .i64)), .int .i64 a0.At]]⟩], [⟨.ptr ip42 wp42 0 0, 5, [.agg [v32, v34, v37, v39, .int .i64 b22.At]]⟩], [⟨.ptr ip79 wp79 0 0, 5, [.agg [v69, v71, v74, v76, .int .i64 b59.At]]⟩], (inn np_SInt (AV.int .i64) 1 d35 b22.Queues), (inn np_SInt (AV.int .i64) 1 d72 b59.Queues)]) (F := F) hS 15 rfl [6, 7, 8, 9, 14, 0, 1, 2, 3, 4, 5, 10, 11, 12, 13] (by decide)
              refine w_call h fun b122 hb122 h => ?_
              obtain ⟨b123, b124, b125, b126, b127⟩ := b122
              try dsimp only at h
              refine laws_markTurns_w hb122 hS qv69 qv71 qd72 qv74 qv76 fun d128 qd128 H hS => ?_
              have hS : Own _ (⟨v69, 1, b124.map (AV.int .i64)⟩ :: ⟨v71, 1, ouw nm_SInt d128 b125⟩ :: ⟨v74, 1, b126.map (AV.int .i64)⟩ :: ⟨v76, 1, b127.map (AV.int .i64)⟩ :: ⟨v41, 1, b23.map (AV.int .i64)⟩ :: ⟨v78, 1, b60.map (AV.int .i64)⟩ :: ⟨v32, 1, b22.Quanta.map (AV.int .i64)⟩ :: ⟨v34, 1, ouw nm_SInt d35 b22.Queues⟩ :: ⟨v37, 1, b22.Credit.map (AV.int .i64)⟩ :: ⟨v39, 1, b22.Sent.map (AV.int .i64)⟩ :: ⟨.ptr ip2 wp2 0 0, 5, [.agg [.fz (a0.Quanta.map (AV.int .i64)), .fz (a0.Queues.map (fzl (AV.int .i64))), .fz (a0.Credit.map (AV.int .i64)), .fz (a0.Sent.map (AV.int .i64)), .int .i64 a0.At]]⟩ :: ⟨.ptr ip42 wp42 0 0, 5, [.agg [v32, v34, v37, v39, .int .i64 b22.At]]⟩ :: ⟨.ptr ip79 wp79 0 0, 5, [.agg [v69, v71, v74, v76, .int .i64 b59.At]]⟩ :: ((inn np_SInt (AV.int .i64) 1 d128 b125) ++ (((inn np_SInt (AV.int .i64) 1 d35 b22.Queues) ++ (F))))) := Own.catI_ (bl := [[⟨v69, 1, b124.map (AV.int .i64)⟩], [⟨v71, 1, ouw nm_SInt d128 b125⟩], [⟨v74, 1, b126.map (AV.int .i64)⟩], [⟨v76, 1, b127.map (AV.int .i64)⟩], (inn np_SInt (AV.int .i64) 1 d128 b125), [⟨v41, 1, b23.map (AV.int .i64)⟩], [⟨v78, 1, b60.map (AV.int .i64)⟩], [⟨v32, 1, b22.Quanta.map (AV.int .i64)⟩], [⟨v34, 1, ouw nm_SInt d35 b22.Queues⟩], [⟨v37, 1, b22.Credit.map (AV.int .i64)⟩], [⟨v39, 1, b22.Sent.map (AV.int .i64)⟩], [⟨.ptr ip2 wp2 0 0, 5, [.agg [.fz (a0.Quanta.map (AV.int .i64)), .fz (a0.Queues.map (fzl (AV.int .i64))), .fz (a0.Credit.map (AV.int .i64)), .fz (a0.Sent.map (AV.int .i64)), .int .i64 a0.At]]⟩], [⟨.ptr ip42 wp42 0 0, 5, [.agg [v32, v34, v37, v39, .int .i64 b22.At]]⟩], [⟨.ptr ip79 wp79 0 0, 5, [.agg [v69, v71, v74, v76, .int .i64 b59.At]]⟩], (inn np_SInt (AV.int .i64) 1 d35 b22.Queues)]) (F := F) hS 15 rfl [0, 1, 2, 3, 5, 6, 7, 8, 9, 10, 11, 12, 13, 4, 14] (by decide)
              try simp only [W]
              refine seq_n hK121 ?_
              refine w_seq fun K129 hK129 => ?_
              refine w_reg gC ?_
              try simp only [W, Nat.reduceAdd]
              refine w_call h fun b130 hb130 h => ?_
              obtain ⟨b131, b132⟩ := b130
              try dsimp only at h
              refine laws_markIntS_w hb130 (hS.sel 13 [5, 0, 1, 2, 3, 4, 6, 7, 8, 9, 10, 11, 12] (by decide)) qv78 fun H hS => ?_
              try simp only [W]
              refine seq_n hK129 ?_
              refine w_seq fun K133 hK133 => ?_
              refine w_reg gC ?_
              try simp only [W, Nat.reduceAdd]
              refine seq_n hK133 ?_
              refine w_seq fun K134 hK134 => ?_
              refine w_reg gC ?_
              try simp only [W, EE, reduceIte, Nat.reduceAdd, Nat.reduceLeDiff, hS.var 12 rfl]
              have hS : Own _ (⟨v78, 1, b132.map (AV.int .i64)⟩ :: ⟨v69, 1, b124.map (AV.int .i64)⟩ :: ⟨v71, 1, ouw nm_SInt d128 b125⟩ :: ⟨v74, 1, b126.map (AV.int .i64)⟩ :: ⟨v76, 1, b127.map (AV.int .i64)⟩ :: ⟨v41, 1, b23.map (AV.int .i64)⟩ :: ⟨v32, 1, b22.Quanta.map (AV.int .i64)⟩ :: ⟨v34, 1, ouw nm_SInt d35 b22.Queues⟩ :: ⟨v37, 1, b22.Credit.map (AV.int .i64)⟩ :: ⟨v39, 1, b22.Sent.map (AV.int .i64)⟩ :: ⟨.ptr ip2 wp2 0 0, 5, [.agg [.fz (a0.Quanta.map (AV.int .i64)), .fz (a0.Queues.map (fzl (AV.int .i64))), .fz (a0.Credit.map (AV.int .i64)), .fz (a0.Sent.map (AV.int .i64)), .int .i64 a0.At]]⟩ :: ⟨.ptr ip42 wp42 0 0, 5, [.agg [v32, v34, v37, v39, .int .i64 b22.At]]⟩ :: ⟨.ptr ip79 wp79 0 0, 5, [.agg [v69, v71, v74, v76, .int .i64 b59.At]]⟩ :: ((inn np_SInt (AV.int .i64) 1 d128 b125) ++ ((inn np_SInt (AV.int .i64) 1 d35 b22.Queues) ++ F))) := hS
              refine w_callS (rsh := [[.sc]]) (ys := [.agg [.fz (b124.map (AV.int .i64)), .fz (b125.map (fzl (AV.int .i64))), .fz (b126.map (AV.int .i64)), .fz (b127.map (AV.int .i64)), .int .i64 b59.At], .int .i64 1]) h rfl (pv_c (sn_agg (sm_c (sn_ow hS 1 rfl qv69 (fun _ => rfl)) (sm_c (sn_owN (enc := (fzl (AV.int .i64))) hS 2 rfl qv71 qd128 (fun _ h => (List.mem_cons_of_mem _ (List.mem_cons_of_mem _ (List.mem_cons_of_mem _ (List.mem_cons_of_mem _ (List.mem_cons_of_mem _ (List.mem_cons_of_mem _ (List.mem_cons_of_mem _ (List.mem_cons_of_mem _ (List.mem_cons_of_mem _ (List.mem_cons_of_mem _ (List.mem_cons_of_mem _ (List.mem_cons_of_mem _ (List.mem_cons_of_mem _ (List.mem_append_left _ h))))))))))))))) (fun _ _ ha hk => sn_it hk ha (fun _ => rfl))) (sm_c (sn_ow hS 3 rfl qv74 (fun _ => rfl)) (sm_c (sn_ow hS 4 rfl qv76 (fun _ => rfl)) (sm_c rfl (sm_n _))))))) (pv_c rfl pv_n)) fun b135 hb135 h => ⟨.int .i64 b135, laws_heldTurns_w hb135 (Own.nil _) fun H hS => TV_ok rfl (TV_p rfl (TV_n rfl)), ⟨rfl, rfl, fun _ => rfl⟩, ?_⟩
              try simp only [W]
              refine seq_n hK134 ?_
              refine w_seq fun K136 hK136 => ?_
              refine w_seq fun K137 hK137 => ?_
              refine w_reg gC ?_
              try simp only [W, EE, Nat.reduceAdd]
              refine seq_n hK137 ?_
              refine w_if ?_
              simp only [W]
              refine w_cnd h (fun hc h => ?_) (fun hc h => ?_)
              · refine w_seq fun K138 hK138 => ?_
                refine w_reg gC ?_
                try simp only [W, Nat.reduceAdd]
                refine seq_n hK138 ?_
                refine w_ret ?_
                refine seq_r hK136 ?_
                refine fin_r1 hK0 rfl ?_
                try obtain rfl := Option.some.inj h
                have hS : Own _ (F) := Own.catI_ (bl := [[⟨v78, 1, b132.map (AV.int .i64)⟩], [⟨v69, 1, b124.map (AV.int .i64)⟩], [⟨v71, 1, ouw nm_SInt d128 b125⟩], [⟨v74, 1, b126.map (AV.int .i64)⟩], [⟨v76, 1, b127.map (AV.int .i64)⟩], [⟨v41, 1, b23.map (AV.int .i64)⟩], [⟨v32, 1, b22.Quanta.map (AV.int .i64)⟩], [⟨v34, 1, ouw nm_SInt d35 b22.Queues⟩], [⟨v37, 1, b22.Credit.map (AV.int .i64)⟩], [⟨v39, 1, b22.Sent.map (AV.int .i64)⟩], [⟨.ptr ip2 wp2 0 0, 5, [.agg [.fz (a0.Quanta.map (AV.int .i64)), .fz (a0.Queues.map (fzl (AV.int .i64))), .fz (a0.Credit.map (AV.int .i64)), .fz (a0.Sent.map (AV.int .i64)), .int .i64 a0.At]]⟩], [⟨.ptr ip42 wp42 0 0, 5, [.agg [v32, v34, v37, v39, .int .i64 b22.At]]⟩], [⟨.ptr ip79 wp79 0 0, 5, [.agg [v69, v71, v74, v76, .int .i64 b59.At]]⟩], (inn np_SInt (AV.int .i64) 1 d128 b125), (inn np_SInt (AV.int .i64) 1 d35 b22.Queues)]) (F := F) hS 15 rfl [] (by decide)
                exact hP _ hS
              · refine w_skip ?_
                refine seq_n hK136 ?_
                refine w_seq fun K139 hK139 => ?_
                refine w_reg gC ?_
                try simp only [W, Nat.reduceAdd]
                have hS : Own _ (⟨v78, 1, b132.map (AV.int .i64)⟩ :: ⟨v69, 1, b124.map (AV.int .i64)⟩ :: ⟨v71, 1, ouw nm_SInt d128 b125⟩ :: ⟨v74, 1, b126.map (AV.int .i64)⟩ :: ⟨v76, 1, b127.map (AV.int .i64)⟩ :: ⟨v41, 1, b23.map (AV.int .i64)⟩ :: ⟨v32, 1, b22.Quanta.map (AV.int .i64)⟩ :: ⟨v34, 1, ouw nm_SInt d35 b22.Queues⟩ :: ⟨v37, 1, b22.Credit.map (AV.int .i64)⟩ :: ⟨v39, 1, b22.Sent.map (AV.int .i64)⟩ :: ⟨.ptr ip2 wp2 0 0, 5, [.agg [.fz (a0.Quanta.map (AV.int .i64)), .fz (a0.Queues.map (fzl (AV.int .i64))), .fz (a0.Credit.map (AV.int .i64)), .fz (a0.Sent.map (AV.int .i64)), .int .i64 a0.At]]⟩ :: ⟨.ptr ip42 wp42 0 0, 5, [.agg [v32, v34, v37, v39, .int .i64 b22.At]]⟩ :: ⟨.ptr ip79 wp79 0 0, 5, [.agg [v69, v71, v74, v76, .int .i64 b59.At]]⟩ :: ((inn np_SInt (AV.int .i64) 1 d128 b125) ++ ((inn np_SInt (AV.int .i64) 1 d35 b22.Queues) ++ F))) := hS
                refine w_callS (rsh := [[.sc]]) (ys := [.fz (b132.map (AV.int .i64)), .int .i64 b135]) h rfl (pv_c (sn_ow hS 0 rfl qv78 (fun _ => rfl)) (pv_c rfl pv_n)) fun b140 hb140 h => ⟨.int .i64 b140, laws_heldIntS_w hb140 (Own.nil _) fun H hS => TV_ok rfl (TV_p rfl (TV_n rfl)), ⟨rfl, rfl, fun _ => rfl⟩, ?_⟩
                try simp only [W]
                refine seq_n hK139 ?_
                refine w_seq fun K141 hK141 => ?_
                refine w_seq fun K142 hK142 => ?_
                refine w_reg gC ?_
                try simp only [W, EE, Nat.reduceAdd]
                refine seq_n hK142 ?_
                refine w_if ?_
                simp only [W]
                refine w_cnd h (fun hc h => ?_) (fun hc h => ?_)
                · refine w_seq fun K143 hK143 => ?_
                  refine w_reg gC ?_
                  try simp only [W, Nat.reduceAdd]
                  refine seq_n hK143 ?_
                  refine w_ret ?_
                  refine seq_r hK141 ?_
                  refine fin_r1 hK0 rfl ?_
                  try obtain rfl := Option.some.inj h
                  have hS : Own _ (F) := Own.catI_ (bl := [[⟨v78, 1, b132.map (AV.int .i64)⟩], [⟨v69, 1, b124.map (AV.int .i64)⟩], [⟨v71, 1, ouw nm_SInt d128 b125⟩], [⟨v74, 1, b126.map (AV.int .i64)⟩], [⟨v76, 1, b127.map (AV.int .i64)⟩], [⟨v41, 1, b23.map (AV.int .i64)⟩], [⟨v32, 1, b22.Quanta.map (AV.int .i64)⟩], [⟨v34, 1, ouw nm_SInt d35 b22.Queues⟩], [⟨v37, 1, b22.Credit.map (AV.int .i64)⟩], [⟨v39, 1, b22.Sent.map (AV.int .i64)⟩], [⟨.ptr ip2 wp2 0 0, 5, [.agg [.fz (a0.Quanta.map (AV.int .i64)), .fz (a0.Queues.map (fzl (AV.int .i64))), .fz (a0.Credit.map (AV.int .i64)), .fz (a0.Sent.map (AV.int .i64)), .int .i64 a0.At]]⟩], [⟨.ptr ip42 wp42 0 0, 5, [.agg [v32, v34, v37, v39, .int .i64 b22.At]]⟩], [⟨.ptr ip79 wp79 0 0, 5, [.agg [v69, v71, v74, v76, .int .i64 b59.At]]⟩], (inn np_SInt (AV.int .i64) 1 d128 b125), (inn np_SInt (AV.int .i64) 1 d35 b22.Queues)]) (F := F) hS 15 rfl [] (by decide)
                  exact hP _ hS
                · refine w_skip ?_
                  refine seq_n hK141 ?_
                  refine w_seq fun K144 hK144 => ?_
                  refine w_seq fun K145 hK145 => ?_
                  refine w_reg gC ?_
                  try simp only [W, EE, Nat.reduceAdd]
                  refine seq_n hK145 ?_
                  refine w_if ?_
                  simp only [W]
                  refine w_cnd h (fun hc h => ?_) (fun hc h => ?_)
                  · refine w_seq fun K146 hK146 => ?_
                    refine w_reg gC ?_
                    try simp only [W, Nat.reduceAdd]
                    refine seq_n hK146 ?_
                    refine w_ret ?_
                    refine seq_r hK144 ?_
                    refine fin_r1 hK0 rfl ?_
                    try obtain rfl := Option.some.inj h
                    have hS : Own _ (F) := Own.catI_ (bl := [[⟨v78, 1, b132.map (AV.int .i64)⟩], [⟨v69, 1, b124.map (AV.int .i64)⟩], [⟨v71, 1, ouw nm_SInt d128 b125⟩], [⟨v74, 1, b126.map (AV.int .i64)⟩], [⟨v76, 1, b127.map (AV.int .i64)⟩], [⟨v41, 1, b23.map (AV.int .i64)⟩], [⟨v32, 1, b22.Quanta.map (AV.int .i64)⟩], [⟨v34, 1, ouw nm_SInt d35 b22.Queues⟩], [⟨v37, 1, b22.Credit.map (AV.int .i64)⟩], [⟨v39, 1, b22.Sent.map (AV.int .i64)⟩], [⟨.ptr ip2 wp2 0 0, 5, [.agg [.fz (a0.Quanta.map (AV.int .i64)), .fz (a0.Queues.map (fzl (AV.int .i64))), .fz (a0.Credit.map (AV.int .i64)), .fz (a0.Sent.map (AV.int .i64)), .int .i64 a0.At]]⟩], [⟨.ptr ip42 wp42 0 0, 5, [.agg [v32, v34, v37, v39, .int .i64 b22.At]]⟩], [⟨.ptr ip79 wp79 0 0, 5, [.agg [v69, v71, v74, v76, .int .i64 b59.At]]⟩], (inn np_SInt (AV.int .i64) 1 d128 b125), (inn np_SInt (AV.int .i64) 1 d35 b22.Queues)]) (F := F) hS 15 rfl [] (by decide)
                    exact hP _ hS
                  · refine w_skip ?_
                    refine seq_n hK144 ?_
                    refine w_seq fun K147 hK147 => ?_
                    refine w_reg gC ?_
                    try simp only [W, EE, reduceIte, Nat.reduceAdd, Nat.reduceLeDiff, Nat.reduceBEq, hS.var 10 rfl, List.contains_cons, Nat.reduceBEq, Bool.or_self]
                    refine w_call h fun b148 hb148 h => ?_
                    refine laws_toTurns_w hb148 hS fun v149 qv149 v151 qv151 d153 qd153 v154 qv154 v156 qv156 H hS => ?_
                    have hS : Own _ (⟨v149, 1, b148.Quanta.map (AV.int .i64)⟩ :: ⟨v151, 1, ouw nm_SInt d153 b148.Queues⟩ :: ⟨v154, 1, b148.Credit.map (AV.int .i64)⟩ :: ⟨v156, 1, b148.Sent.map (AV.int .i64)⟩ :: ⟨v78, 1, b132.map (AV.int .i64)⟩ :: ⟨v69, 1, b124.map (AV.int .i64)⟩ :: ⟨v71, 1, ouw nm_SInt d128 b125⟩ :: ⟨v74, 1, b126.map (AV.int .i64)⟩ :: ⟨v76, 1, b127.map (AV.int .i64)⟩ :: ⟨v41, 1, b23.map (AV.int .i64)⟩ :: ⟨v32, 1, b22.Quanta.map (AV.int .i64)⟩ :: ⟨v34, 1, ouw nm_SInt d35 b22.Queues⟩ :: ⟨v37, 1, b22.Credit.map (AV.int .i64)⟩ :: ⟨v39, 1, b22.Sent.map (AV.int .i64)⟩ :: ⟨.ptr ip2 wp2 0 0, 5, [.agg [.fz (a0.Quanta.map (AV.int .i64)), .fz (a0.Queues.map (fzl (AV.int .i64))), .fz (a0.Credit.map (AV.int .i64)), .fz (a0.Sent.map (AV.int .i64)), .int .i64 a0.At]]⟩ :: ⟨.ptr ip42 wp42 0 0, 5, [.agg [v32, v34, v37, v39, .int .i64 b22.At]]⟩ :: ⟨.ptr ip79 wp79 0 0, 5, [.agg [v69, v71, v74, v76, .int .i64 b59.At]]⟩ :: ((inn np_SInt (AV.int .i64) 1 d153 b148.Queues) ++ (((inn np_SInt (AV.int .i64) 1 d128 b125) ++ (((inn np_SInt (AV.int .i64) 1 d35 b22.Queues) ++ (F))))))) := Own.catI_ (bl := [[⟨v149, 1, b148.Quanta.map (AV.int .i64)⟩], [⟨v151, 1, ouw nm_SInt d153 b148.Queues⟩], [⟨v154, 1, b148.Credit.map (AV.int .i64)⟩], [⟨v156, 1, b148.Sent.map (AV.int .i64)⟩], (inn np_SInt (AV.int .i64) 1 d153 b148.Queues), [⟨v78, 1, b132.map (AV.int .i64)⟩], [⟨v69, 1, b124.map (AV.int .i64)⟩], [⟨v71, 1, ouw nm_SInt d128 b125⟩], [⟨v74, 1, b126.map (AV.int .i64)⟩], [⟨v76, 1, b127.map (AV.int .i64)⟩], [⟨v41, 1, b23.map (AV.int .i64)⟩], [⟨v32, 1, b22.Quanta.map (AV.int .i64)⟩], [⟨v34, 1, ouw nm_SInt d35 b22.Queues⟩], [⟨v37, 1, b22.Credit.map (AV.int .i64)⟩], [⟨v39, 1, b22.Sent.map (AV.int .i64)⟩], [⟨.ptr ip2 wp2 0 0, 5, [.agg [.fz (a0.Quanta.map (AV.int .i64)), .fz (a0.Queues.map (fzl (AV.int .i64))), .fz (a0.Credit.map (AV.int .i64)), .fz (a0.Sent.map (AV.int .i64)), .int .i64 a0.At]]⟩], [⟨.ptr ip42 wp42 0 0, 5, [.agg [v32, v34, v37, v39, .int .i64 b22.At]]⟩], [⟨.ptr ip79 wp79 0 0, 5, [.agg [v69, v71, v74, v76, .int .i64 b59.At]]⟩], (inn np_SInt (AV.int .i64) 1 d128 b125), (inn np_SInt (AV.int .i64) 1 d35 b22.Queues)]) (F := F) hS 20 rfl [0, 1, 2, 3, 5, 6, 7, 8, 9, 10, 11, 12, 13, 14, 15, 16, 17, 4, 18, 19] (by decide)
                    try simp only [W]
                    have hS : Own _ (⟨v149, 1, b148.Quanta.map (AV.int .i64)⟩ :: ⟨v151, 1, ouw nm_SInt d153 b148.Queues⟩ :: ⟨v154, 1, b148.Credit.map (AV.int .i64)⟩ :: ⟨v156, 1, b148.Sent.map (AV.int .i64)⟩ :: ⟨v78, 1, b132.map (AV.int .i64)⟩ :: ⟨v69, 1, b124.map (AV.int .i64)⟩ :: ⟨v71, 1, ouw nm_SInt d128 b125⟩ :: ⟨v74, 1, b126.map (AV.int .i64)⟩ :: ⟨v76, 1, b127.map (AV.int .i64)⟩ :: ⟨v41, 1, b23.map (AV.int .i64)⟩ :: ⟨v32, 1, b22.Quanta.map (AV.int .i64)⟩ :: ⟨v34, 1, ouw nm_SInt d35 b22.Queues⟩ :: ⟨v37, 1, b22.Credit.map (AV.int .i64)⟩ :: ⟨v39, 1, b22.Sent.map (AV.int .i64)⟩ :: ⟨.ptr ip2 wp2 0 0, 5, [.agg [.fz (a0.Quanta.map (AV.int .i64)), .fz (a0.Queues.map (fzl (AV.int .i64))), .fz (a0.Credit.map (AV.int .i64)), .fz (a0.Sent.map (AV.int .i64)), .int .i64 a0.At]]⟩ :: ⟨.ptr ip42 wp42 0 0, 5, [.agg [v32, v34, v37, v39, .int .i64 b22.At]]⟩ :: ⟨.ptr ip79 wp79 0 0, 5, [.agg [v69, v71, v74, v76, .int .i64 b59.At]]⟩ :: ((inn np_SInt (AV.int .i64) 1 d153 b148.Queues) ++ ((inn np_SInt (AV.int .i64) 1 d128 b125) ++ ((inn np_SInt (AV.int .i64) 1 d35 b22.Queues) ++ F)))) := hS
                    refine w_callO (rsh := [[.sl [.sc], .sl [.sl [.sc]], .sl [.sc], .sl [.sc], .sc], [.sl [.sc]], [.sc]]) (ys := [.agg [.fz (b148.Quanta.map (AV.int .i64)), .fz (b148.Queues.map (fzl (AV.int .i64))), .fz (b148.Credit.map (AV.int .i64)), .fz (b148.Sent.map (AV.int .i64)), .int .i64 b148.At]]) h rfl (pv_c (sn_agg (sm_c (sn_ow hS 0 rfl qv149 (fun _ => rfl)) (sm_c (sn_owN (enc := (fzl (AV.int .i64))) hS 1 rfl qv151 qd153 (fun _ h => (List.mem_cons_of_mem _ (List.mem_cons_of_mem _ (List.mem_cons_of_mem _ (List.mem_cons_of_mem _ (List.mem_cons_of_mem _ (List.mem_cons_of_mem _ (List.mem_cons_of_mem _ (List.mem_cons_of_mem _ (List.mem_cons_of_mem _ (List.mem_cons_of_mem _ (List.mem_cons_of_mem _ (List.mem_cons_of_mem _ (List.mem_cons_of_mem _ (List.mem_cons_of_mem _ (List.mem_cons_of_mem _ (List.mem_cons_of_mem _ (List.mem_cons_of_mem _ (List.mem_append_left _ h))))))))))))))))))) (fun _ _ ha hk => sn_it hk ha (fun _ => rfl))) (sm_c (sn_ow hS 2 rfl qv154 (fun _ => rfl)) (sm_c (sn_ow hS 3 rfl qv156 (fun _ => rfl)) (sm_c rfl (sm_n _))))))) pv_n) fun b158 hb158 h => ⟨.tup [.agg [.own 1 (b158.1.Quanta.map (AV.int .i64)), .own 1 (b158.1.Queues.map nd_SInt), .own 1 (b158.1.Credit.map (AV.int .i64)), .own 1 (b158.1.Sent.map (AV.int .i64)), .int .i64 b158.1.At], .own 1 (b158.2.1.map (AV.int .i64)), .bool b158.2.2], impl_NextTurn_w hb158 (Own.nil _) fun v162 qv162 v163 qv163 d164 qd164 v165 qv165 v166 qv166 v167 qv167 H hS => TV_ok rfl (TV_a (TC_ow 0 hS rfl qv162 (fun _ _ => by simp [takeE, takeT, plainA]) fun H hS => TC_owN (d := nd_SInt) (Own.catI_ (bl := [[⟨v163, 1, ouw nm_SInt d164 b158.1.Queues⟩], [⟨v165, 1, b158.1.Credit.map (AV.int .i64)⟩], [⟨v166, 1, b158.1.Sent.map (AV.int .i64)⟩], [⟨v167, 1, b158.2.1.map (AV.int .i64)⟩], (inn np_SInt (AV.int .i64) 1 d164 b158.1.Queues)]) (F := []) hS 5 rfl [0, 4, 1, 2, 3] (by decide)) qv163 qd164 nt_SInt fun H hS => TC_ow 0 hS rfl qv165 (fun _ _ => by simp [takeE, takeT, plainA]) fun H hS => TC_ow 0 hS rfl qv166 (fun _ _ => by simp [takeE, takeT, plainA]) fun H hS => TC_sc rfl (TC_nil (TV_o 0 hS rfl qv167 (fun _ _ => by simp [takeE, takeT, plainA]) fun H hS => TV_p rfl (TV_n rfl))))), (nf_t (nf_c (nf_a (nf_c (noFz_o _ (fun _ => rfl) _) (nf_c (noFz_o _ nf_SInt _) (nf_c (noFz_o _ (fun _ => rfl) _) (nf_c (noFz_o _ (fun _ => rfl) _) (nf_c rfl nf_n)))))) (nf_c (noFz_o _ (fun _ => rfl) _) (nf_c rfl nf_n)))), ?_⟩
                    obtain ⟨b159, b160, b161⟩ := b158
                    try dsimp only at h
                    dsimp only
                    refine thaw_tup ?_
                    refine TH_a ?_
                    refine TH_o hS (fun _ _ => rfl) (fun _ => rfl) fun v169 H qv169 hS => ?_
                    refine TH_oN (l := b159.Queues) (d := nd_SInt) (m := nm_SInt) (p := np_SInt) (c := (AV.int .i64)) hS nc_SInt nh_SInt fun v171 d172 H qv171 qd172 hS => ?_
                    have hS : Own _ (⟨v171, 1, ouw nm_SInt d172 b159.Queues⟩ :: ⟨v169, 1, b159.Quanta.map (AV.int .i64)⟩ :: ⟨v149, 1, b148.Quanta.map (AV.int .i64)⟩ :: ⟨v151, 1, ouw nm_SInt d153 b148.Queues⟩ :: ⟨v154, 1, b148.Credit.map (AV.int .i64)⟩ :: ⟨v156, 1, b148.Sent.map (AV.int .i64)⟩ :: ⟨v78, 1, b132.map (AV.int .i64)⟩ :: ⟨v69, 1, b124.map (AV.int .i64)⟩ :: ⟨v71, 1, ouw nm_SInt d128 b125⟩ :: ⟨v74, 1, b126.map (AV.int .i64)⟩ :: ⟨v76, 1, b127.map (AV.int .i64)⟩ :: ⟨v41, 1, b23.map (AV.int .i64)⟩ :: ⟨v32, 1, b22.Quanta.map (AV.int .i64)⟩ :: ⟨v34, 1, ouw nm_SInt d35 b22.Queues⟩ :: ⟨v37, 1, b22.Credit.map (AV.int .i64)⟩ :: ⟨v39, 1, b22.Sent.map (AV.int .i64)⟩ :: ⟨.ptr ip2 wp2 0 0, 5, [.agg [.fz (a0.Quanta.map (AV.int .i64)), .fz (a0.Queues.map (fzl (AV.int .i64))), .fz (a0.Credit.map (AV.int .i64)), .fz (a0.Sent.map (AV.int .i64)), .int .i64 a0.At]]⟩ :: ⟨.ptr ip42 wp42 0 0, 5, [.agg [v32, v34, v37, v39, .int .i64 b22.At]]⟩ :: ⟨.ptr ip79 wp79 0 0, 5, [.agg [v69, v71, v74, v76, .int .i64 b59.At]]⟩ :: ((inn np_SInt (AV.int .i64) 1 d172 b159.Queues) ++ (((inn np_SInt (AV.int .i64) 1 d153 b148.Queues) ++ (((inn np_SInt (AV.int .i64) 1 d128 b125) ++ (((inn np_SInt (AV.int .i64) 1 d35 b22.Queues) ++ (F))))))))) := Own.catI_ (bl := [[⟨v171, 1, ouw nm_SInt d172 b159.Queues⟩], (inn np_SInt (AV.int .i64) 1 d172 b159.Queues), [⟨v169, 1, b159.Quanta.map (AV.int .i64)⟩], [⟨v149, 1, b148.Quanta.map (AV.int .i64)⟩], [⟨v151, 1, ouw nm_SInt d153 b148.Queues⟩], [⟨v154, 1, b148.Credit.map (AV.int .i64)⟩], [⟨v156, 1, b148.Sent.map (AV.int .i64)⟩], [⟨v78, 1, b132.map (AV.int .i64)⟩], [⟨v69, 1, b124.map (AV.int .i64)⟩], [⟨v71, 1, ouw nm_SInt d128 b125⟩], [⟨v74, 1, b126.map (AV.int .i64)⟩], [⟨v76, 1, b127.map (AV.int .i64)⟩], [⟨v41, 1, b23.map (AV.int .i64)⟩], [⟨v32, 1, b22.Quanta.map (AV.int .i64)⟩], [⟨v34, 1, ouw nm_SInt d35 b22.Queues⟩], [⟨v37, 1, b22.Credit.map (AV.int .i64)⟩], [⟨v39, 1, b22.Sent.map (AV.int .i64)⟩], [⟨.ptr ip2 wp2 0 0, 5, [.agg [.fz (a0.Quanta.map (AV.int .i64)), .fz (a0.Queues.map (fzl (AV.int .i64))), .fz (a0.Credit.map (AV.int .i64)), .fz (a0.Sent.map (AV.int .i64)), .int .i64 a0.At]]⟩], [⟨.ptr ip42 wp42 0 0, 5, [.agg [v32, v34, v37, v39, .int .i64 b22.At]]⟩], [⟨.ptr ip79 wp79 0 0, 5, [.agg [v69, v71, v74, v76, .int .i64 b59.At]]⟩], (inn np_SInt (AV.int .i64) 1 d153 b148.Queues), (inn np_SInt (AV.int .i64) 1 d128 b125), (inn np_SInt (AV.int .i64) 1 d35 b22.Queues)]) (F := F) hS 23 rfl [0, 2, 3, 4, 5, 6, 7, 8, 9, 10, 11, 12, 13, 14, 15, 16, 17, 18, 19, 1, 20, 21, 22] (by decide)
                    refine TH_o hS (fun _ _ => rfl) (fun _ => rfl) fun v174 H qv174 hS => ?_
                    refine TH_o hS (fun _ _ => rfl) (fun _ => rfl) fun v176 H qv176 hS => ?_
                    refine TH_p (fun _ => rfl) ?_
                    refine TH_n ?_
                    refine TH_o hS (fun _ _ => rfl) (fun _ => rfl) fun v178 H qv178 hS => ?_
                    refine TH_p (fun _ => rfl) ?_
                    refine TH_n ?_
                    try simp only [List.headD_cons]
                    try simp only [W]
                    refine w_alloc hS rfl rfl fun ip179 wp179 H hS => ?_
                    try simp only [W]
                    refine w_stv (a := .agg [v169, v171, v174, v176, .int .i64 b159.At]) (y' := .agg [v169, v171, v174, v176, .int .i64 b159.At]) 0 hS rfl rfl rfl rfl rfl (by simp only [storA, List.all_cons, List.all_nil, qv169.stor, qv171.stor, qv174.stor, qv176.stor]; rfl) rfl rfl fun H hS => ?_
                    try simp only [W]
                    refine seq_n hK147 ?_
                    refine w_seq fun K181 hK181 => ?_
                    refine w_seq fun K182 hK182 => ?_
                    obtain ⟨y184, h, g185⟩ := Option.bind_eq_some_iff.1 h
                    refine w_join gC (fun s H => ∃ x183 : Bool, y184 = (x183) ∧ s = (u :: u :: u :: u :: u :: u :: u :: u :: .ptr ip79 wp79 0 0 :: v78 :: u :: u :: .int .i64 b131 :: u :: u :: u :: u :: u :: u :: u :: u :: u :: u :: u :: u :: u :: u :: u :: u :: u :: u :: u :: u :: u :: u :: u :: u :: u :: u :: u :: u :: u :: u :: u :: u :: u :: u :: u :: u :: u :: u :: u :: u :: u :: u :: u :: u :: u :: u :: u :: u :: u :: u :: u :: u :: u :: u :: u :: u :: u :: u :: u :: u :: u :: u :: u :: u :: u :: u :: u :: u :: u :: u :: u :: u :: u :: u :: u :: u :: u :: u :: u :: u :: u :: u :: u :: u :: u :: u :: u :: u :: u :: u :: u :: u :: u :: u :: u :: u :: u :: u :: u :: u :: u :: u :: u :: u :: u :: u :: .bool x183 :: u :: u :: u :: u :: u :: u :: u :: u :: u :: u :: u :: u :: u :: []) ∧ Own H (⟨v78, 1, b132.map (AV.int .i64)⟩ :: ⟨v69, 1, b124.map (AV.int .i64)⟩ :: ⟨v71, 1, ouw nm_SInt d128 b125⟩ :: ⟨v74, 1, b126.map (AV.int .i64)⟩ :: ⟨v76, 1, b127.map (AV.int .i64)⟩ :: ⟨.ptr ip79 wp79 0 0, 5, [.agg [v69, v71, v74, v76, .int .i64 b59.At]]⟩ :: ((inn np_SInt (AV.int .i64) 1 d128 b125) ++ F))) (fun K186 hK186 => ?_) (fun s H hq => ?_)
                    · refine w_seq fun K187 hK187 => ?_
                      refine w_reg gC ?_
                      try simp only [W, EE, reduceIte, Nat.reduceAdd, Nat.reduceLeDiff, hS.var 0 rfl, hS.var 21 rfl]
                      have hS : Own _ (⟨.ptr ip179 wp179 0 0, 5, [.agg [v169, v171, v174, v176, .int .i64 b159.At]]⟩ :: ⟨v178, 1, b160.map (AV.int .i64)⟩ :: ⟨v176, 1, b159.Sent.map (AV.int .i64)⟩ :: ⟨v174, 1, b159.Credit.map (AV.int .i64)⟩ :: ⟨v171, 1, ouw nm_SInt d172 b159.Queues⟩ :: ⟨v169, 1, b159.Quanta.map (AV.int .i64)⟩ :: ⟨v149, 1, b148.Quanta.map (AV.int .i64)⟩ :: ⟨v151, 1, ouw nm_SInt d153 b148.Queues⟩ :: ⟨v154, 1, b148.Credit.map (AV.int .i64)⟩ :: ⟨v156, 1, b148.Sent.map (AV.int .i64)⟩ :: ⟨v78, 1, b132.map (AV.int .i64)⟩ :: ⟨v69, 1, b124.map (AV.int .i64)⟩ :: ⟨v71, 1, ouw nm_SInt d128 b125⟩ :: ⟨v74, 1, b126.map (AV.int .i64)⟩ :: ⟨v76, 1, b127.map (AV.int .i64)⟩ :: ⟨v41, 1, b23.map (AV.int .i64)⟩ :: ⟨v32, 1, b22.Quanta.map (AV.int .i64)⟩ :: ⟨v34, 1, ouw nm_SInt d35 b22.Queues⟩ :: ⟨v37, 1, b22.Credit.map (AV.int .i64)⟩ :: ⟨v39, 1, b22.Sent.map (AV.int .i64)⟩ :: ⟨.ptr ip2 wp2 0 0, 5, [.agg [.fz (a0.Quanta.map (AV.int .i64)), .fz (a0.Queues.map (fzl (AV.int .i64))), .fz (a0.Credit.map (AV.int .i64)), .fz (a0.Sent.map (AV.int .i64)), .int .i64 a0.At]]⟩ :: ⟨.ptr ip42 wp42 0 0, 5, [.agg [v32, v34, v37, v39, .int .i64 b22.At]]⟩ :: ⟨.ptr ip79 wp79 0 0, 5, [.agg [v69, v71, v74, v76, .int .i64 b59.At]]⟩ :: ((inn np_SInt (AV.int .i64) 1 d172 b159.Queues) ++ ((inn np_SInt (AV.int .i64) 1 d153 b148.Queues) ++ ((inn np_SInt (AV.int .i64) 1 d128 b125) ++ ((inn np_SInt (AV.int .i64) 1 d35 b22.Queues) ++ F))))) := hS
                      refine w_callS (rsh := [[.sc]]) (ys := [.agg [.fz (b159.Quanta.map (AV.int .i64)), .fz (b159.Queues.map (fzl (AV.int .i64))), .fz (b159.Credit.map (AV.int .i64)), .fz (b159.Sent.map (AV.int .i64)), .int .i64 b159.At], .agg [.fz (b22.Quanta.map (AV.int .i64)), .fz (b22.Queues.map (fzl (AV.int .i64))), .fz (b22.Credit.map (AV.int .i64)), .fz (b22.Sent.map (AV.int .i64)), .int .i64 b22.At]]) h rfl (pv_c (sn_agg (sm_c (sn_ow hS 5 rfl qv169 (fun _ => rfl)) (sm_c (sn_owN (enc := (fzl (AV.int .i64))) hS 4 rfl qv171 qd172 (fun _ h => (List.mem_cons_of_mem _ (List.mem_cons_of_mem _ (List.mem_cons_of_mem _ (List.mem_cons_of_mem _ (List.mem_cons_of_mem _ (List.mem_cons_of_mem _ (List.mem_cons_of_mem _ (List.mem_cons_of_mem _ (List.mem_cons_of_mem _ (List.mem_cons_of_mem _ (List.mem_cons_of_mem _ (List.mem_cons_of_mem _ (List.mem_cons_of_mem _ (List.mem_cons_of_mem _ (List.mem_cons_of_mem _ (List.mem_cons_of_mem _ (List.mem_cons_of_mem _ (List.mem_cons_of_mem _ (List.mem_cons_of_mem _ (List.mem_cons_of_mem _ (List.mem_cons_of_mem _ (List.mem_cons_of_mem _ (List.mem_cons_of_mem _ (List.mem_append_left _ h))))))))))))))))))))))))) (fun _ _ ha hk => sn_it hk ha (fun _ => rfl))) (sm_c (sn_ow hS 3 rfl qv174 (fun _ => rfl)) (sm_c (sn_ow hS 2 rfl qv176 (fun _ => rfl)) (sm_c rfl (sm_n _))))))) (pv_c (sn_agg (sm_c (sn_ow hS 16 rfl qv32 (fun _ => rfl)) (sm_c (sn_owN (enc := (fzl (AV.int .i64))) hS 17 rfl qv34 qd35 (fun _ h => (List.mem_cons_of_mem _ (List.mem_cons_of_mem _ (List.mem_cons_of_mem _ (List.mem_cons_of_mem _ (List.mem_cons_of_mem _ (List.mem_cons_of_mem _ (List.mem_cons_of_mem _ (List.mem_cons_of_mem _ (List.mem_cons_of_mem _ (List.mem_cons_of_mem _ (List.mem_cons_of_mem _ (List.mem_cons_of_mem _ (List.mem_cons_of_mem _ (List.mem_cons_of_mem _ (List.mem_cons_of_mem _ (List.mem_cons_of_mem _ (List.mem_cons_of_mem _ (List.mem_cons_of_mem _ (List.mem_cons_of_mem _ (List.mem_cons_of_mem _ (List.mem_cons_of_mem _ (List.mem_cons_of_mem _ (List.mem_cons_of_mem _ (List.mem_append_right _ (List.mem_append_right _ (List.mem_append_right _ (List.mem_append_left _ h)))))))))))))))))))))))))))) (fun _ _ ha hk => sn_it hk ha (fun _ => rfl))) (sm_c (sn_ow hS 18 rfl qv37 (fun _ => rfl)) (sm_c (sn_ow hS 19 rfl qv39 (fun _ => rfl)) (sm_c rfl (sm_n _))))))) pv_n)) fun b188 hb188 h => ⟨.bool b188, laws_eqTurns_w hb188 (Own.nil _) fun H hS => TV_ok rfl (TV_p rfl (TV_n rfl)), ⟨rfl, rfl, fun _ => rfl⟩, ?_⟩
                      try simp only [W]
                      refine w_grdT h (fun hc h => ?_) (fun hc h => ?_)
                      · try simp only [W, hc]
                        refine seq_n hK187 ?_
                        refine w_killE (s' := (u :: u :: u :: u :: u :: u :: u :: u :: .ptr ip79 wp79 0 0 :: v78 :: u :: u :: .int .i64 b131 :: u :: u :: u :: u :: u :: u :: u :: u :: u :: u :: u :: u :: u :: u :: u :: u :: u :: u :: u :: u :: u :: u :: u :: u :: u :: u :: u :: u :: u :: u :: u :: u :: u :: u :: u :: u :: u :: u :: u :: u :: u :: u :: u :: u :: u :: u :: u :: u :: u :: u :: u :: u :: u :: u :: u :: u :: u :: u :: u :: u :: u :: u :: u :: u :: u :: u :: u :: u :: u :: u :: u :: u :: u :: u :: u :: u :: u :: u :: u :: u :: u :: u :: u :: u :: u :: u :: u :: u :: u :: u :: u :: u :: u :: u :: u :: u :: u :: u :: u :: u :: u :: u :: u :: u :: u :: u :: .bool true :: u :: u :: u :: u :: u :: u :: u :: u :: u :: u :: u :: u :: u :: [])) rfl ?_
                        have hS : Own _ (⟨v78, 1, b132.map (AV.int .i64)⟩ :: ⟨v69, 1, b124.map (AV.int .i64)⟩ :: ⟨v71, 1, ouw nm_SInt d128 b125⟩ :: ⟨v74, 1, b126.map (AV.int .i64)⟩ :: ⟨v76, 1, b127.map (AV.int .i64)⟩ :: ⟨.ptr ip79 wp79 0 0, 5, [.agg [v69, v71, v74, v76, .int .i64 b59.At]]⟩ :: ((inn np_SInt (AV.int .i64) 1 d128 b125) ++ (F))) := Own.catI_ (bl := [[⟨.ptr ip179 wp179 0 0, 5, [.agg [v169, v171, v174, v176, .int .i64 b159.At]]⟩], [⟨v178, 1, b160.map (AV.int .i64)⟩], [⟨v176, 1, b159.Sent.map (AV.int .i64)⟩], [⟨v174, 1, b159.Credit.map (AV.int .i64)⟩], [⟨v171, 1, ouw nm_SInt d172 b159.Queues⟩], [⟨v169, 1, b159.Quanta.map (AV.int .i64)⟩], [⟨v149, 1, b148.Quanta.map (AV.int .i64)⟩], [⟨v151, 1, ouw nm_SInt d153 b148.Queues⟩], [⟨v154, 1, b148.Credit.map (AV.int .i64)⟩], [⟨v156, 1, b148.Sent.map (AV.int .i64)⟩], [⟨v78, 1, b132.map (AV.int .i64)⟩], [⟨v69, 1, b124.map (AV.int .i64)⟩], [⟨v71, 1, ouw nm_SInt d128 b125⟩], [⟨v74, 1, b126.map (AV.int .i64)⟩], [⟨v76, 1, b127.map (AV.int .i64)⟩], [⟨v41, 1, b23.map (AV.int .i64)⟩], [⟨v32, 1, b22.Quanta.map (AV.int .i64)⟩], [⟨v34, 1, ouw nm_SInt d35 b22.Queues⟩], [⟨v37, 1, b22.Credit.map (AV.int .i64)⟩], [⟨v39, 1, b22.Sent.map (AV.int .i64)⟩], [⟨.ptr ip2 wp2 0 0, 5, [.agg [.fz (a0.Quanta.map (AV.int .i64)), .fz (a0.Queues.map (fzl (AV.int .i64))), .fz (a0.Credit.map (AV.int .i64)), .fz (a0.Sent.map (AV.int .i64)), .int .i64 a0.At]]⟩], [⟨.ptr ip42 wp42 0 0, 5, [.agg [v32, v34, v37, v39, .int .i64 b22.At]]⟩], [⟨.ptr ip79 wp79 0 0, 5, [.agg [v69, v71, v74, v76, .int .i64 b59.At]]⟩], (inn np_SInt (AV.int .i64) 1 d172 b159.Queues), (inn np_SInt (AV.int .i64) 1 d153 b148.Queues), (inn np_SInt (AV.int .i64) 1 d128 b125), (inn np_SInt (AV.int .i64) 1 d35 b22.Queues)]) (F := F) hS 27 rfl [10, 11, 12, 13, 14, 22, 25] (by decide)
                        exact cut_n hK186 ⟨_, (Option.some.inj h).symm, rfl, hS⟩
                      · try simp only [W, hc]
                        have hS : Own _ (⟨.ptr ip179 wp179 0 0, 5, [.agg [v169, v171, v174, v176, .int .i64 b159.At]]⟩ :: ⟨v178, 1, b160.map (AV.int .i64)⟩ :: ⟨v176, 1, b159.Sent.map (AV.int .i64)⟩ :: ⟨v174, 1, b159.Credit.map (AV.int .i64)⟩ :: ⟨v171, 1, ouw nm_SInt d172 b159.Queues⟩ :: ⟨v169, 1, b159.Quanta.map (AV.int .i64)⟩ :: ⟨v149, 1, b148.Quanta.map (AV.int .i64)⟩ :: ⟨v151, 1, ouw nm_SInt d153 b148.Queues⟩ :: ⟨v154, 1, b148.Credit.map (AV.int .i64)⟩ :: ⟨v156, 1, b148.Sent.map (AV.int .i64)⟩ :: ⟨v78, 1, b132.map (AV.int .i64)⟩ :: ⟨v69, 1, b124.map (AV.int .i64)⟩ :: ⟨v71, 1, ouw nm_SInt d128 b125⟩ :: ⟨v74, 1, b126.map (AV.int .i64)⟩ :: ⟨v76, 1, b127.map (AV.int .i64)⟩ :: ⟨v41, 1, b23.map (AV.int .i64)⟩ :: ⟨v32, 1, b22.Quanta.map (AV.int .i64)⟩ :: ⟨v34, 1, ouw nm_SInt d35 b22.Queues⟩ :: ⟨v37, 1, b22.Credit.map (AV.int .i64)⟩ :: ⟨v39, 1, b22.Sent.map (AV.int .i64)⟩ :: ⟨.ptr ip2 wp2 0 0, 5, [.agg [.fz (a0.Quanta.map (AV.int .i64)), .fz (a0.Queues.map (fzl (AV.int .i64))), .fz (a0.Credit.map (AV.int .i64)), .fz (a0.Sent.map (AV.int .i64)), .int .i64 a0.At]]⟩ :: ⟨.ptr ip42 wp42 0 0, 5, [.agg [v32, v34, v37, v39, .int .i64 b22.At]]⟩ :: ⟨.ptr ip79 wp79 0 0, 5, [.agg [v69, v71, v74, v76, .int .i64 b59.At]]⟩ :: ((inn np_SInt (AV.int .i64) 1 d172 b159.Queues) ++ ((inn np_SInt (AV.int .i64) 1 d153 b148.Queues) ++ ((inn np_SInt (AV.int .i64) 1 d128 b125) ++ ((inn np_SInt (AV.int .i64) 1 d35 b22.Queues) ++ F))))) := hS
                        refine w_callS (rsh := [[.sc]]) (ys := [.fz (b160.map (AV.int .i64)), .fz (b23.map (AV.int .i64))]) h rfl (pv_c (sn_ow hS 1 rfl qv178 (fun _ => rfl)) (pv_c (sn_ow hS 15 rfl qv41 (fun _ => rfl)) pv_n)) fun b189 hb189 h => ⟨.bool b189, laws_eqIntS_w hb189 (Own.nil _) fun H hS => TV_ok rfl (TV_p rfl (TV_n rfl)), ⟨rfl, rfl, fun _ => rfl⟩, ?_⟩
                        try simp only [W, reduceIte, Bool.false_eq_true]
                        refine w_grdT h (fun hc h => ?_) (fun hc h => ?_)
                        · try simp only [W, hc]
                          refine seq_n hK187 ?_
                          refine w_killE (s' := (u :: u :: u :: u :: u :: u :: u :: u :: .ptr ip79 wp79 0 0 :: v78 :: u :: u :: .int .i64 b131 :: u :: u :: u :: u :: u :: u :: u :: u :: u :: u :: u :: u :: u :: u :: u :: u :: u :: u :: u :: u :: u :: u :: u :: u :: u :: u :: u :: u :: u :: u :: u :: u :: u :: u :: u :: u :: u :: u :: u :: u :: u :: u :: u :: u :: u :: u :: u :: u :: u :: u :: u :: u :: u :: u :: u :: u :: u :: u :: u :: u :: u :: u :: u :: u :: u :: u :: u :: u :: u :: u :: u :: u :: u :: u :: u :: u :: u :: u :: u :: u :: u :: u :: u :: u :: u :: u :: u :: u :: u :: u :: u :: u :: u :: u :: u :: u :: u :: u :: u :: u :: u :: u :: u :: u :: u :: u :: .bool true :: u :: u :: u :: u :: u :: u :: u :: u :: u :: u :: u :: u :: u :: [])) rfl ?_
                          have hS : Own _ (⟨v78, 1, b132.map (AV.int .i64)⟩ :: ⟨v69, 1, b124.map (AV.int .i64)⟩ :: ⟨v71, 1, ouw nm_SInt d128 b125⟩ :: ⟨v74, 1, b126.map (AV.int .i64)⟩ :: ⟨v76, 1, b127.map (AV.int .i64)⟩ :: ⟨.ptr ip79 wp79 0 0, 5, [.agg [v69, v71, v74, v76, .int .i64 b59.At]]⟩ :: ((inn np_SInt (AV.int .i64) 1 d128 b125) ++ (F))) := Own.catI_ (bl := [[⟨.ptr ip179 wp179 0 0, 5, [.agg [v169, v171, v174, v176, .int .i64 b159.At]]⟩], [⟨v178, 1, b160.map (AV.int .i64)⟩], [⟨v176, 1, b159.Sent.map (AV.int .i64)⟩], [⟨v174, 1, b159.Credit.map (AV.int .i64)⟩], [⟨v171, 1, ouw nm_SInt d172 b159.Queues⟩], [⟨v169, 1, b159.Quanta.map (AV.int .i64)⟩], [⟨v149, 1, b148.Quanta.map (AV.int .i64)⟩], [⟨v151, 1, ouw nm_SInt d153 b148.Queues⟩], [⟨v154, 1, b148.Credit.map (AV.int .i64)⟩], [⟨v156, 1, b148.Sent.map (AV.int .i64)⟩], [⟨v78, 1, b132.map (AV.int .i64)⟩], [⟨v69, 1, b124.map (AV.int .i64)⟩], [⟨v71, 1, ouw nm_SInt d128 b125⟩], [⟨v74, 1, b126.map (AV.int .i64)⟩], [⟨v76, 1, b127.map (AV.int .i64)⟩], [⟨v41, 1, b23.map (AV.int .i64)⟩], [⟨v32, 1, b22.Quanta.map (AV.int .i64)⟩], [⟨v34, 1, ouw nm_SInt d35 b22.Queues⟩], [⟨v37, 1, b22.Credit.map (AV.int .i64)⟩], [⟨v39, 1, b22.Sent.map (AV.int .i64)⟩], [⟨.ptr ip2 wp2 0 0, 5, [.agg [.fz (a0.Quanta.map (AV.int .i64)), .fz (a0.Queues.map (fzl (AV.int .i64))), .fz (a0.Credit.map (AV.int .i64)), .fz (a0.Sent.map (AV.int .i64)), .int .i64 a0.At]]⟩], [⟨.ptr ip42 wp42 0 0, 5, [.agg [v32, v34, v37, v39, .int .i64 b22.At]]⟩], [⟨.ptr ip79 wp79 0 0, 5, [.agg [v69, v71, v74, v76, .int .i64 b59.At]]⟩], (inn np_SInt (AV.int .i64) 1 d172 b159.Queues), (inn np_SInt (AV.int .i64) 1 d153 b148.Queues), (inn np_SInt (AV.int .i64) 1 d128 b125), (inn np_SInt (AV.int .i64) 1 d35 b22.Queues)]) (F := F) hS 27 rfl [10, 11, 12, 13, 14, 22, 25] (by decide)
                          exact cut_n hK186 ⟨_, (Option.some.inj h).symm, rfl, hS⟩
                        · try simp only [W, EE, hc]
                          rw [b_bneq _ _ _ _ (h := rfl) rfl, resV_s]
                          try simp only [W, reduceIte, Bool.false_eq_true]
                          refine seq_n hK187 ?_
                          refine w_killE (s' := (u :: u :: u :: u :: u :: u :: u :: u :: .ptr ip79 wp79 0 0 :: v78 :: u :: u :: .int .i64 b131 :: u :: u :: u :: u :: u :: u :: u :: u :: u :: u :: u :: u :: u :: u :: u :: u :: u :: u :: u :: u :: u :: u :: u :: u :: u :: u :: u :: u :: u :: u :: u :: u :: u :: u :: u :: u :: u :: u :: u :: u :: u :: u :: u :: u :: u :: u :: u :: u :: u :: u :: u :: u :: u :: u :: u :: u :: u :: u :: u :: u :: u :: u :: u :: u :: u :: u :: u :: u :: u :: u :: u :: u :: u :: u :: u :: u :: u :: u :: u :: u :: u :: u :: u :: u :: u :: u :: u :: u :: u :: u :: u :: u :: u :: u :: u :: u :: u :: u :: u :: u :: u :: u :: u :: u :: u :: u :: .bool (!(b161 == b24)) :: u :: u :: u :: u :: u :: u :: u :: u :: u :: u :: u :: u :: u :: [])) rfl ?_
                          have hS : Own _ (⟨v78, 1, b132.map (AV.int .i64)⟩ :: ⟨v69, 1, b124.map (AV.int .i64)⟩ :: ⟨v71, 1, ouw nm_SInt d128 b125⟩ :: ⟨v74, 1, b126.map (AV.int .i64)⟩ :: ⟨v76, 1, b127.map (AV.int .i64)⟩ :: ⟨.ptr ip79 wp79 0 0, 5, [.agg [v69, v71, v74, v76, .int .i64 b59.At]]⟩ :: ((inn np_SInt (AV.int .i64) 1 d128 b125) ++ (F))) := Own.catI_ (bl := [[⟨.ptr ip179 wp179 0 0, 5, [.agg [v169, v171, v174, v176, .int .i64 b159.At]]⟩], [⟨v178, 1, b160.map (AV.int .i64)⟩], [⟨v176, 1, b159.Sent.map (AV.int .i64)⟩], [⟨v174, 1, b159.Credit.map (AV.int .i64)⟩], [⟨v171, 1, ouw nm_SInt d172 b159.Queues⟩], [⟨v169, 1, b159.Quanta.map (AV.int .i64)⟩], [⟨v149, 1, b148.Quanta.map (AV.int .i64)⟩], [⟨v151, 1, ouw nm_SInt d153 b148.Queues⟩], [⟨v154, 1, b148.Credit.map (AV.int .i64)⟩], [⟨v156, 1, b148.Sent.map (AV.int .i64)⟩], [⟨v78, 1, b132.map (AV.int .i64)⟩], [⟨v69, 1, b124.map (AV.int .i64)⟩], [⟨v71, 1, ouw nm_SInt d128 b125⟩], [⟨v74, 1, b126.map (AV.int .i64)⟩], [⟨v76, 1, b127.map (AV.int .i64)⟩], [⟨v41, 1, b23.map (AV.int .i64)⟩], [⟨v32, 1, b22.Quanta.map (AV.int .i64)⟩], [⟨v34, 1, ouw nm_SInt d35 b22.Queues⟩], [⟨v37, 1, b22.Credit.map (AV.int .i64)⟩], [⟨v39, 1, b22.Sent.map (AV.int .i64)⟩], [⟨.ptr ip2 wp2 0 0, 5, [.agg [.fz (a0.Quanta.map (AV.int .i64)), .fz (a0.Queues.map (fzl (AV.int .i64))), .fz (a0.Credit.map (AV.int .i64)), .fz (a0.Sent.map (AV.int .i64)), .int .i64 a0.At]]⟩], [⟨.ptr ip42 wp42 0 0, 5, [.agg [v32, v34, v37, v39, .int .i64 b22.At]]⟩], [⟨.ptr ip79 wp79 0 0, 5, [.agg [v69, v71, v74, v76, .int .i64 b59.At]]⟩], (inn np_SInt (AV.int .i64) 1 d172 b159.Queues), (inn np_SInt (AV.int .i64) 1 d153 b148.Queues), (inn np_SInt (AV.int .i64) 1 d128 b125), (inn np_SInt (AV.int .i64) 1 d35 b22.Queues)]) (F := F) hS 27 rfl [10, 11, 12, 13, 14, 22, 25] (by decide)
                          exact cut_n hK186 ⟨_, (Option.some.inj h).symm, rfl, hS⟩
                    · obtain ⟨x183, ey, rfl, hS⟩ := hq; obtain rfl := ey.symm
                      replace h := g185
                      try dsimp only at h
                      refine seq_n hK182 ?_
                      refine w_if ?_
                      simp only [W]
                      refine w_cnd h (fun hc h => ?_) (fun hc h => ?_)
                      · refine w_seq fun K190 hK190 => ?_
                        refine w_reg gC ?_
                        try simp only [W, Nat.reduceAdd]
                        refine seq_n hK190 ?_
                        refine w_ret ?_
                        refine seq_r hK181 ?_
                        refine fin_r1 hK0 rfl ?_
                        try obtain rfl := Option.some.inj h
                        have hS : Own _ (F) := Own.catI_ (bl := [[⟨v78, 1, b132.map (AV.int .i64)⟩], [⟨v69, 1, b124.map (AV.int .i64)⟩], [⟨v71, 1, ouw nm_SInt d128 b125⟩], [⟨v74, 1, b126.map (AV.int .i64)⟩], [⟨v76, 1, b127.map (AV.int .i64)⟩], [⟨.ptr ip79 wp79 0 0, 5, [.agg [v69, v71, v74, v76, .int .i64 b59.At]]⟩], (inn np_SInt (AV.int .i64) 1 d128 b125)]) (F := F) hS 7 rfl [] (by decide)
                        exact hP _ hS
                      · refine w_skip ?_
                        refine seq_n hK181 ?_
                        refine w_seq fun K191 hK191 => ?_
                        refine w_reg gC ?_
                        try simp only [W, Nat.reduceAdd]
                        refine seq_n hK191 ?_
                        refine w_seq fun K192 hK192 => ?_
                        refine w_reg gC ?_
                        try simp only [W, EE, reduceIte, Nat.reduceAdd, Nat.reduceLeDiff, hS.var 5 rfl]
                        have hS : Own _ (⟨v78, 1, b132.map (AV.int .i64)⟩ :: ⟨v69, 1, b124.map (AV.int .i64)⟩ :: ⟨v71, 1, ouw nm_SInt d128 b125⟩ :: ⟨v74, 1, b126.map (AV.int .i64)⟩ :: ⟨v76, 1, b127.map (AV.int .i64)⟩ :: ⟨.ptr ip79 wp79 0 0, 5, [.agg [v69, v71, v74, v76, .int .i64 b59.At]]⟩ :: ((inn np_SInt (AV.int .i64) 1 d128 b125) ++ F)) := hS
                        refine w_callS (rsh := [[.sc]]) (ys := [.agg [.fz (b124.map (AV.int .i64)), .fz (b125.map (fzl (AV.int .i64))), .fz (b126.map (AV.int .i64)), .fz (b127.map (AV.int .i64)), .int .i64 b59.At], .int .i64 1]) h rfl (pv_c (sn_agg (sm_c (sn_ow hS 1 rfl qv69 (fun _ => rfl)) (sm_c (sn_owN (enc := (fzl (AV.int .i64))) hS 2 rfl qv71 qd128 (fun _ h => (List.mem_cons_of_mem _ (List.mem_cons_of_mem _ (List.mem_cons_of_mem _ (List.mem_cons_of_mem _ (List.mem_cons_of_mem _ (List.mem_cons_of_mem _ (List.mem_append_left _ h)))))))) (fun _ _ ha hk => sn_it hk ha (fun _ => rfl))) (sm_c (sn_ow hS 3 rfl qv74 (fun _ => rfl)) (sm_c (sn_ow hS 4 rfl qv76 (fun _ => rfl)) (sm_c rfl (sm_n _))))))) (pv_c rfl pv_n)) fun b193 hb193 h => ⟨.int .i64 b193, laws_heldTurns_w hb193 (Own.nil _) fun H hS => TV_ok rfl (TV_p rfl (TV_n rfl)), ⟨rfl, rfl, fun _ => rfl⟩, ?_⟩
                        try simp only [W]
                        refine seq_n hK192 ?_
                        refine w_seq fun K194 hK194 => ?_
                        refine w_seq fun K195 hK195 => ?_
                        refine w_reg gC ?_
                        try simp only [W, EE, Nat.reduceAdd]
                        refine seq_n hK195 ?_
                        refine w_if ?_
                        simp only [W]
                        refine w_cnd h (fun hc h => ?_) (fun hc h => ?_)
                        · refine w_seq fun K196 hK196 => ?_
                          refine w_reg gC ?_
                          try simp only [W, Nat.reduceAdd]
                          refine seq_n hK196 ?_
                          refine w_ret ?_
                          refine seq_r hK194 ?_
                          refine fin_r1 hK0 rfl ?_
                          try obtain rfl := Option.some.inj h
                          have hS : Own _ (F) := Own.catI_ (bl := [[⟨v78, 1, b132.map (AV.int .i64)⟩], [⟨v69, 1, b124.map (AV.int .i64)⟩], [⟨v71, 1, ouw nm_SInt d128 b125⟩], [⟨v74, 1, b126.map (AV.int .i64)⟩], [⟨v76, 1, b127.map (AV.int .i64)⟩], [⟨.ptr ip79 wp79 0 0, 5, [.agg [v69, v71, v74, v76, .int .i64 b59.At]]⟩], (inn np_SInt (AV.int .i64) 1 d128 b125)]) (F := F) hS 7 rfl [] (by decide)
                          exact hP _ hS
                        · refine w_skip ?_
                          refine seq_n hK194 ?_
                          refine w_seq fun K197 hK197 => ?_
                          refine w_reg gC ?_
                          try simp only [W, Nat.reduceAdd]
                          have hS : Own _ (⟨v78, 1, b132.map (AV.int .i64)⟩ :: ⟨v69, 1, b124.map (AV.int .i64)⟩ :: ⟨v71, 1, ouw nm_SInt d128 b125⟩ :: ⟨v74, 1, b126.map (AV.int .i64)⟩ :: ⟨v76, 1, b127.map (AV.int .i64)⟩ :: ⟨.ptr ip79 wp79 0 0, 5, [.agg [v69, v71, v74, v76, .int .i64 b59.At]]⟩ :: ((inn np_SInt (AV.int .i64) 1 d128 b125) ++ F)) := hS
                          refine w_callS (rsh := [[.sc]]) (ys := [.fz (b132.map (AV.int .i64)), .int .i64 b193]) h rfl (pv_c (sn_ow hS 0 rfl qv78 (fun _ => rfl)) (pv_c rfl pv_n)) fun b198 hb198 h => ⟨.int .i64 b198, laws_heldIntS_w hb198 (Own.nil _) fun H hS => TV_ok rfl (TV_p rfl (TV_n rfl)), ⟨rfl, rfl, fun _ => rfl⟩, ?_⟩
                          try simp only [W]
                          refine seq_n hK197 ?_
                          refine w_seq fun K199 hK199 => ?_
                          refine w_seq fun K200 hK200 => ?_
                          refine w_reg gC ?_
                          try simp only [W, EE, Nat.reduceAdd]
                          refine seq_n hK200 ?_
                          refine w_if ?_
                          simp only [W]
                          refine w_cnd h (fun hc h => ?_) (fun hc h => ?_)
                          · refine w_seq fun K201 hK201 => ?_
                            refine w_reg gC ?_
                            try simp only [W, Nat.reduceAdd]
                            refine seq_n hK201 ?_
                            refine w_ret ?_
                            refine seq_r hK199 ?_
                            refine fin_r1 hK0 rfl ?_
                            try obtain rfl := Option.some.inj h
                            have hS : Own _ (F) := Own.catI_ (bl := [[⟨v78, 1, b132.map (AV.int .i64)⟩], [⟨v69, 1, b124.map (AV.int .i64)⟩], [⟨v71, 1, ouw nm_SInt d128 b125⟩], [⟨v74, 1, b126.map (AV.int .i64)⟩], [⟨v76, 1, b127.map (AV.int .i64)⟩], [⟨.ptr ip79 wp79 0 0, 5, [.agg [v69, v71, v74, v76, .int .i64 b59.At]]⟩], (inn np_SInt (AV.int .i64) 1 d128 b125)]) (F := F) hS 7 rfl [] (by decide)
                            exact hP _ hS
                          · refine w_skip ?_
                            refine seq_n hK199 ?_
                            refine w_seq fun K202 hK202 => ?_
                            refine w_seq fun K203 hK203 => ?_
                            refine w_reg gC ?_
                            try simp only [W, EE, Nat.reduceAdd]
                            refine seq_n hK203 ?_
                            refine w_if ?_
                            simp only [W]
                            refine w_cnd h (fun hc h => ?_) (fun hc h => ?_)
                            · refine w_seq fun K204 hK204 => ?_
                              refine w_reg gC ?_
                              try simp only [W, Nat.reduceAdd]
                              refine seq_n hK204 ?_
                              refine w_ret ?_
                              refine seq_r hK202 ?_
                              refine fin_r1 hK0 rfl ?_
                              try obtain rfl := Option.some.inj h
                              have hS : Own _ (F) := Own.catI_ (bl := [[⟨v78, 1, b132.map (AV.int .i64)⟩], [⟨v69, 1, b124.map (AV.int .i64)⟩], [⟨v71, 1, ouw nm_SInt d128 b125⟩], [⟨v74, 1, b126.map (AV.int .i64)⟩], [⟨v76, 1, b127.map (AV.int .i64)⟩], [⟨.ptr ip79 wp79 0 0, 5, [.agg [v69, v71, v74, v76, .int .i64 b59.At]]⟩], (inn np_SInt (AV.int .i64) 1 d128 b125)]) (F := F) hS 7 rfl [] (by decide)
                              exact hP _ hS
                            · refine w_skip ?_
                              refine seq_n hK202 ?_
                              refine w_seq fun K205 hK205 => ?_
                              refine w_reg gC ?_
                              try simp only [W, Nat.reduceAdd]
                              refine seq_n hK205 ?_
                              refine w_ret ?_
                              refine fin_r1 hK0 rfl ?_
                              try obtain rfl := Option.some.inj h
                              have hS : Own _ (F) := Own.catI_ (bl := [[⟨v78, 1, b132.map (AV.int .i64)⟩], [⟨v69, 1, b124.map (AV.int .i64)⟩], [⟨v71, 1, ouw nm_SInt d128 b125⟩], [⟨v74, 1, b126.map (AV.int .i64)⟩], [⟨v76, 1, b127.map (AV.int .i64)⟩], [⟨.ptr ip79 wp79 0 0, 5, [.agg [v69, v71, v74, v76, .int .i64 b59.At]]⟩], (inn np_SInt (AV.int .i64) 1 d128 b125)]) (F := F) hS 7 rfl [] (by decide)
                              exact hP _ hS
end Go.VxW
