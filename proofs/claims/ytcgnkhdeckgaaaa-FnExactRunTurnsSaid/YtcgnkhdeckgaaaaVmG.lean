import Derived.Test.YtcgnkhdeckgaaaaVmG1
import Derived.Test.YtcgnkhdeckgaaaaProg
import Derived.Test.YtcgnkhdeckgaaaaVaE
import Derived.KernelRfl
open Go Go.VS
set_option maxRecDepth 8000
set_option maxHeartbeats 4000000
namespace Go.VxW
theorem impl_Turns_turn_w {a0 : Turns} {i0 : Nat} {w0 : Nat} {m100 : AV} {m101 : AV} {d101 : List AV} {m102 : AV} {m103 : AV} {r : (List Int × Bool × Turns)} (h : impl_Turns_turn a0 = some r) {F : List It} {H : Heap} (hS : Own H (⟨.ptr i0 w0 0 0, 5, [.agg [m100, m101, m102, m103, .int .i64 a0.At]]⟩ :: ⟨m100, 1, a0.Quanta.map (AV.int .i64)⟩ :: ⟨m101, 1, ouw nm_SInt d101 a0.Queues⟩ :: ⟨m102, 1, a0.Credit.map (AV.int .i64)⟩ :: ⟨m103, 1, a0.Sent.map (AV.int .i64)⟩ :: ((inn np_SInt (AV.int .i64) 1 d101 a0.Queues) ++ F))) (qm100 : isSl m100) (qm101 : isSl m101) (qd101 : isSls d101 (a0.Queues).length) (qm102 : isSl m102) (qm103 : isSl m103) {P : AV → Heap → Prop} (hP : ∀ v125 : AV, isSl v125 → ∀ nm100 : AV, isSl nm100 → ∀ nm101 : AV, isSl nm101 → ∀ nd101 : List AV, isSls nd101 (r.2.2.Queues).length → ∀ nm102 : AV, isSl nm102 → ∀ nm103 : AV, isSl nm103 → ∀ H', Own H' (⟨v125, 1, r.1.map (AV.int .i64)⟩ :: ⟨.ptr i0 w0 0 0, 5, [.agg [nm100, nm101, nm102, nm103, .int .i64 r.2.2.At]]⟩ :: ⟨nm100, 1, r.2.2.Quanta.map (AV.int .i64)⟩ :: ⟨nm101, 1, ouw nm_SInt nd101 r.2.2.Queues⟩ :: ⟨nm102, 1, r.2.2.Credit.map (AV.int .i64)⟩ :: ⟨nm103, 1, r.2.2.Sent.map (AV.int .i64)⟩ :: ((inn np_SInt (AV.int .i64) 1 nd101 r.2.2.Queues) ++ F)) → P (.tup [v125, .bool r.2.1]) H') : ACall C 121 [.ptr i0 w0 0 0] H P := by
  refine acall_of gC (res := [.tmp 2, .tmp 3]) (n := 147) rfl rfl rfl rfl fun K0 hK0 => ?_
  simp only [W, Nat.reduceSub, Nat.reduceAdd, List.replicate]
  unfold impl_Turns_turn at h
  refine w_seq fun K1 hK1 => ?_
  refine w_reg gC ?_
  try simp only [W, Nat.reduceAdd]
  refine seq_n hK1 ?_
  refine w_seq fun K2 hK2 => ?_
  refine w_reg gC ?_
  try simp only [W, EE, Nat.reduceAdd, Nat.reduceBEq, hS.var 0 rfl]
  refine w_lit0 rfl rfl ?_
  try simp only [W]
  refine seq_n hK2 ?_
  refine w_seq fun K3 hK3 => ?_
  refine w_reg gC ?_
  try simp only [W, EE, Nat.reduceAdd, Nat.reduceBEq, hS.var 0 rfl]
  refine w_len 1 hS rfl qm100 rfl ?_
  try simp only [W, EE]
  refine w_num _ h fun x4 hx4 h => ?_
  try simp only [W, EE, Nat.reduceAdd, Nat.reduceBEq, hS.var 0 rfl]
  refine w_stv (a := .int .i64 x4) (y' := .agg [m100, m101, m102, m103, .int .i64 x4]) 0 hS rfl rfl rfl rfl rfl rfl rfl rfl fun H hS => ?_
  try simp only [W]
  refine seq_n hK3 ?_
  refine w_seq fun K5 hK5 => ?_
  refine w_seq fun K6 hK6 => ?_
  refine w_reg gC ?_
  try simp only [W, EE, Nat.reduceAdd, Nat.reduceBEq, hS.var 0 rfl]
  obtain ⟨b8, hb8, h⟩ := Option.bind_eq_some_iff.1 h
  have hS : Own _ (⟨m101, 1, ouw nm_SInt d101 a0.Queues⟩ :: ((inn np_SInt (AV.int .i64) 1 d101 a0.Queues) ++ (⟨.ptr i0 w0 0 0, 5, [.agg [m100, m101, m102, m103, .int .i64 x4]]⟩ :: ⟨m100, 1, a0.Quanta.map (AV.int .i64)⟩ :: ⟨m102, 1, a0.Credit.map (AV.int .i64)⟩ :: ⟨m103, 1, a0.Sent.map (AV.int .i64)⟩ :: F))) := Own.catI_ (bl := [[⟨.ptr i0 w0 0 0, 5, [.agg [m100, m101, m102, m103, .int .i64 x4]]⟩], [⟨m100, 1, a0.Quanta.map (AV.int .i64)⟩], [⟨m101, 1, ouw nm_SInt d101 a0.Queues⟩], [⟨m102, 1, a0.Credit.map (AV.int .i64)⟩], [⟨m103, 1, a0.Sent.map (AV.int .i64)⟩], (inn np_SInt (AV.int .i64) 1 d101 a0.Queues)]) (F := F) hS 6 rfl [2, 5, 0, 1, 3, 4] (by decide)
  obtain ⟨v9, qv9, hS⟩ := openN (p := np_SInt) (c := (AV.int .i64)) (m := nm_SInt) (b := b8) hS qd101 hb8
  have hS : Own _ (⟨v9, 1, b8.map (AV.int .i64)⟩ :: ⟨.ptr i0 w0 0 0, 5, [.agg [m100, m101, m102, m103, .int .i64 x4]]⟩ :: ⟨m100, 1, a0.Quanta.map (AV.int .i64)⟩ :: ⟨m101, 1, (ouw nm_SInt d101 a0.Queues).set a0.At.toNat (v9)⟩ :: ⟨m102, 1, a0.Credit.map (AV.int .i64)⟩ :: ⟨m103, 1, a0.Sent.map (AV.int .i64)⟩ :: ((inx np_SInt (AV.int .i64) 1 d101 a0.Queues a0.At.toNat) ++ (F))) := Own.catI_ (bl := [[⟨v9, 1, b8.map (AV.int .i64)⟩], [⟨m101, 1, (ouw nm_SInt d101 a0.Queues).set a0.At.toNat (v9)⟩], (inx np_SInt (AV.int .i64) 1 d101 a0.Queues a0.At.toNat), [⟨.ptr i0 w0 0 0, 5, [.agg [m100, m101, m102, m103, .int .i64 x4]]⟩], [⟨m100, 1, a0.Quanta.map (AV.int .i64)⟩], [⟨m102, 1, a0.Credit.map (AV.int .i64)⟩], [⟨m103, 1, a0.Sent.map (AV.int .i64)⟩]]) (F := F) hS 7 rfl [0, 3, 4, 1, 5, 6, 2] (by decide)
  refine w_owE (x := v9) 3 hS rfl rfl rfl rfl rfl (idx_some hb8).1 (holeG qd101 hb8) qm101 (fun in7 wn7 on7 en7 hkn7 => ?_)
  obtain ⟨kn7, hbn7, hen7⟩ := hkn7
  try simp only [W, EE, hbn7, hen7, qv9.rd]
  refine w_len 0 hS rfl qv9 rfl ?_
  try simp only [W, EE]
  refine seq_n hK6 ?_
  obtain ⟨y15, h, g16⟩ := Option.bind_eq_some_iff.1 h
  refine w_join gC (fun s H => ∃ x14 : List Int, y15 = (x14) ∧ ∃ d13 : List AV, isSls d13 (a0.Queues).length ∧ s = (.ptr i0 w0 0 0 :: u :: u :: u :: .int .i64 a0.At :: .e0 :: u :: u :: u :: u :: u :: u :: u :: u :: u :: u :: u :: u :: u :: u :: u :: u :: u :: u :: u :: u :: u :: u :: u :: u :: u :: u :: u :: u :: u :: u :: u :: u :: u :: u :: u :: u :: u :: u :: u :: u :: u :: u :: u :: u :: u :: u :: u :: u :: u :: u :: u :: u :: u :: u :: u :: u :: u :: u :: u :: u :: u :: u :: u :: u :: u :: u :: u :: u :: u :: u :: u :: u :: u :: u :: u :: u :: u :: u :: u :: u :: u :: u :: u :: u :: u :: u :: u :: u :: u :: u :: u :: u :: u :: u :: u :: u :: u :: u :: u :: u :: u :: u :: u :: u :: u :: u :: u :: u :: u :: u :: u :: u :: u :: u :: u :: u :: u :: u :: u :: u :: u :: u :: u :: u :: u :: u :: u :: u :: u :: u :: u :: u :: u :: u :: u :: u :: u :: u :: u :: u :: u :: []) ∧ Own H (⟨m100, 1, a0.Quanta.map (AV.int .i64)⟩ :: ⟨m101, 1, ouw nm_SInt d13 a0.Queues⟩ :: ⟨m102, 1, x14.map (AV.int .i64)⟩ :: ⟨m103, 1, a0.Sent.map (AV.int .i64)⟩ :: ⟨.ptr i0 w0 0 0, 5, [.agg [m100, m101, m102, m103, .int .i64 x4]]⟩ :: ((inn np_SInt (AV.int .i64) 1 d13 a0.Queues) ++ F))) (fun K17 hK17 => ?_) (fun s H hq => ?_)
  · refine w_seq fun K18 hK18 => ?_
    refine w_if ?_
    simp only [W]
    refine w_cnd h (fun hc h => ?_) (fun hc h => ?_)
    · refine w_drawL gC [(16, [])] (by kernel_rfl) rfl (by kernel_rfl) ?_
      try simp only [W, EE, reduceIte, Nat.reduceAdd, Nat.reduceBEq, hS.var 1 rfl, tabAt, qAt, Nat.reduceEqDiff]
      refine w_ow 4 hS rfl rfl rfl rfl rfl h (fun b19 in20 wn20 on20 hb19 h en20 => ?_) qm102.ne
      obtain ⟨kn20, hbn20, hen20⟩ := hS.elem 4 rfl en20 hb19
      try simp only [W, EE, Nat.reduceAdd, Nat.reduceBEq, hS.var 1 rfl, hbn20, hen20]
      refine w_ow 2 hS rfl rfl rfl rfl rfl h (fun b21 in22 wn22 on22 hb21 h en22 => ?_) qm100.ne
      obtain ⟨kn22, hbn22, hen22⟩ := hS.elem 2 rfl en22 hb21
      try simp only [W, EE, hbn22, hen22]
      refine w_ow 4 hS rfl rfl rfl rfl rfl h (fun b23 in24 wn24 on24 hb23 h en24 => ?_) qm102.ne
      obtain ⟨kn24, hbn24, hen24⟩ := hS.elem 4 rfl en24 hb23
      try simp only [W]
      refine w_ste (a := .int .i64 (IntKind.i64.wrap (b19 + b21))) (y' := (IntKind.i64.wrap (b19 + b21))) 4 hS rfl en24 hb23 rfl rfl rfl rfl rfl rfl rfl fun H hS => ?_
      try simp only [W]
      refine seq_n hK18 ?_
      refine w_killE (s' := (.ptr i0 w0 0 0 :: u :: u :: u :: .int .i64 a0.At :: .e0 :: u :: u :: u :: u :: u :: u :: u :: u :: u :: u :: u :: u :: u :: u :: u :: u :: u :: u :: u :: u :: u :: u :: u :: u :: u :: u :: u :: u :: u :: u :: u :: u :: u :: u :: u :: u :: u :: u :: u :: u :: u :: u :: u :: u :: u :: u :: u :: u :: u :: u :: u :: u :: u :: u :: u :: u :: u :: u :: u :: u :: u :: u :: u :: u :: u :: u :: u :: u :: u :: u :: u :: u :: u :: u :: u :: u :: u :: u :: u :: u :: u :: u :: u :: u :: u :: u :: u :: u :: u :: u :: u :: u :: u :: u :: u :: u :: u :: u :: u :: u :: u :: u :: u :: u :: u :: u :: u :: u :: u :: u :: u :: u :: u :: u :: u :: u :: u :: u :: u :: u :: u :: u :: u :: u :: u :: u :: u :: u :: u :: u :: u :: u :: u :: u :: u :: u :: u :: u :: u :: u :: u :: [])) rfl ?_
      have hS : Own _ (⟨v9, 1, b8.map (AV.int .i64)⟩ :: ⟨m101, 1, (ouw nm_SInt d101 a0.Queues).set a0.At.toNat (v9)⟩ :: ((inx np_SInt (AV.int .i64) 1 d101 a0.Queues a0.At.toNat) ++ (⟨.ptr i0 w0 0 0, 5, [.agg [m100, m101, m102, m103, .int .i64 x4]]⟩ :: ⟨m100, 1, a0.Quanta.map (AV.int .i64)⟩ :: ⟨m102, 1, (a0.Credit.set a0.At.toNat (IntKind.i64.wrap (b19 + b21))).map (AV.int .i64)⟩ :: ⟨m103, 1, a0.Sent.map (AV.int .i64)⟩ :: F))) := Own.catI_ (bl := [[⟨v9, 1, b8.map (AV.int .i64)⟩], [⟨.ptr i0 w0 0 0, 5, [.agg [m100, m101, m102, m103, .int .i64 x4]]⟩], [⟨m100, 1, a0.Quanta.map (AV.int .i64)⟩], [⟨m101, 1, (ouw nm_SInt d101 a0.Queues).set a0.At.toNat (v9)⟩], [⟨m102, 1, (a0.Credit.set a0.At.toNat (IntKind.i64.wrap (b19 + b21))).map (AV.int .i64)⟩], [⟨m103, 1, a0.Sent.map (AV.int .i64)⟩], (inx np_SInt (AV.int .i64) 1 d101 a0.Queues a0.At.toNat)]) (F := F) hS 7 rfl [0, 3, 6, 1, 2, 4, 5] (by decide)
      obtain ⟨d25, qd25, hS⟩ := closeN0 (p := np_SInt) (c := (AV.int .i64)) (m := nm_SInt) (b := b8) hS qd101 qv9 hb8
      have hS : Own _ (⟨.ptr i0 w0 0 0, 5, [.agg [m100, m101, m102, m103, .int .i64 x4]]⟩ :: ⟨m100, 1, a0.Quanta.map (AV.int .i64)⟩ :: ⟨m101, 1, ouw nm_SInt d25 a0.Queues⟩ :: ⟨m102, 1, (a0.Credit.set a0.At.toNat (IntKind.i64.wrap (b19 + b21))).map (AV.int .i64)⟩ :: ⟨m103, 1, a0.Sent.map (AV.int .i64)⟩ :: ((inn np_SInt (AV.int .i64) 1 d25 a0.Queues) ++ (F))) := Own.catI_ (bl := [[⟨m101, 1, ouw nm_SInt d25 a0.Queues⟩], (inn np_SInt (AV.int .i64) 1 d25 a0.Queues), [⟨.ptr i0 w0 0 0, 5, [.agg [m100, m101, m102, m103, .int .i64 x4]]⟩], [⟨m100, 1, a0.Quanta.map (AV.int .i64)⟩], [⟨m102, 1, (a0.Credit.set a0.At.toNat (IntKind.i64.wrap (b19 + b21))).map (AV.int .i64)⟩], [⟨m103, 1, a0.Sent.map (AV.int .i64)⟩]]) (F := F) hS 6 rfl [2, 3, 0, 4, 5, 1] (by decide)
      have hS : Own _ (⟨m100, 1, a0.Quanta.map (AV.int .i64)⟩ :: ⟨m101, 1, ouw nm_SInt d25 a0.Queues⟩ :: ⟨m102, 1, (a0.Credit.set a0.At.toNat (IntKind.i64.wrap (b19 + b21))).map (AV.int .i64)⟩ :: ⟨m103, 1, a0.Sent.map (AV.int .i64)⟩ :: ⟨.ptr i0 w0 0 0, 5, [.agg [m100, m101, m102, m103, .int .i64 x4]]⟩ :: ((inn np_SInt (AV.int .i64) 1 d25 a0.Queues) ++ (F))) := Own.catI_ (bl := [[⟨.ptr i0 w0 0 0, 5, [.agg [m100, m101, m102, m103, .int .i64 x4]]⟩], [⟨m100, 1, a0.Quanta.map (AV.int .i64)⟩], [⟨m101, 1, ouw nm_SInt d25 a0.Queues⟩], [⟨m102, 1, (a0.Credit.set a0.At.toNat (IntKind.i64.wrap (b19 + b21))).map (AV.int .i64)⟩], [⟨m103, 1, a0.Sent.map (AV.int .i64)⟩], (inn np_SInt (AV.int .i64) 1 d25 a0.Queues)]) (F := F) hS 6 rfl [1, 2, 3, 4, 0, 5] (by decide)
      exact cut_n hK17 ⟨_, (Option.some.inj h).symm, _, qd25, rfl, hS⟩
    · refine w_skip ?_
      refine seq_n hK18 ?_
      refine w_killE (s' := (.ptr i0 w0 0 0 :: u :: u :: u :: .int .i64 a0.At :: .e0 :: u :: u :: u :: u :: u :: u :: u :: u :: u :: u :: u :: u :: u :: u :: u :: u :: u :: u :: u :: u :: u :: u :: u :: u :: u :: u :: u :: u :: u :: u :: u :: u :: u :: u :: u :: u :: u :: u :: u :: u :: u :: u :: u :: u :: u :: u :: u :: u :: u :: u :: u :: u :: u :: u :: u :: u :: u :: u :: u :: u :: u :: u :: u :: u :: u :: u :: u :: u :: u :: u :: u :: u :: u :: u :: u :: u :: u :: u :: u :: u :: u :: u :: u :: u :: u :: u :: u :: u :: u :: u :: u :: u :: u :: u :: u :: u :: u :: u :: u :: u :: u :: u :: u :: u :: u :: u :: u :: u :: u :: u :: u :: u :: u :: u :: u :: u :: u :: u :: u :: u :: u :: u :: u :: u :: u :: u :: u :: u :: u :: u :: u :: u :: u :: u :: u :: u :: u :: u :: u :: u :: u :: [])) rfl ?_
      have hS : Own _ (⟨v9, 1, b8.map (AV.int .i64)⟩ :: ⟨m101, 1, (ouw nm_SInt d101 a0.Queues).set a0.At.toNat (v9)⟩ :: ((inx np_SInt (AV.int .i64) 1 d101 a0.Queues a0.At.toNat) ++ (⟨.ptr i0 w0 0 0, 5, [.agg [m100, m101, m102, m103, .int .i64 x4]]⟩ :: ⟨m100, 1, a0.Quanta.map (AV.int .i64)⟩ :: ⟨m102, 1, a0.Credit.map (AV.int .i64)⟩ :: ⟨m103, 1, a0.Sent.map (AV.int .i64)⟩ :: F))) := Own.catI_ (bl := [[⟨v9, 1, b8.map (AV.int .i64)⟩], [⟨.ptr i0 w0 0 0, 5, [.agg [m100, m101, m102, m103, .int .i64 x4]]⟩], [⟨m100, 1, a0.Quanta.map (AV.int .i64)⟩], [⟨m101, 1, (ouw nm_SInt d101 a0.Queues).set a0.At.toNat (v9)⟩], [⟨m102, 1, a0.Credit.map (AV.int .i64)⟩], [⟨m103, 1, a0.Sent.map (AV.int .i64)⟩], (inx np_SInt (AV.int .i64) 1 d101 a0.Queues a0.At.toNat)]) (F := F) hS 7 rfl [0, 3, 6, 1, 2, 4, 5] (by decide)
      obtain ⟨d26, qd26, hS⟩ := closeN0 (p := np_SInt) (c := (AV.int .i64)) (m := nm_SInt) (b := b8) hS qd101 qv9 hb8
      have hS : Own _ (⟨.ptr i0 w0 0 0, 5, [.agg [m100, m101, m102, m103, .int .i64 x4]]⟩ :: ⟨m100, 1, a0.Quanta.map (AV.int .i64)⟩ :: ⟨m101, 1, ouw nm_SInt d26 a0.Queues⟩ :: ⟨m102, 1, a0.Credit.map (AV.int .i64)⟩ :: ⟨m103, 1, a0.Sent.map (AV.int .i64)⟩ :: ((inn np_SInt (AV.int .i64) 1 d26 a0.Queues) ++ (F))) := Own.catI_ (bl := [[⟨m101, 1, ouw nm_SInt d26 a0.Queues⟩], (inn np_SInt (AV.int .i64) 1 d26 a0.Queues), [⟨.ptr i0 w0 0 0, 5, [.agg [m100, m101, m102, m103, .int .i64 x4]]⟩], [⟨m100, 1, a0.Quanta.map (AV.int .i64)⟩], [⟨m102, 1, a0.Credit.map (AV.int .i64)⟩], [⟨m103, 1, a0.Sent.map (AV.int .i64)⟩]]) (F := F) hS 6 rfl [2, 3, 0, 4, 5, 1] (by decide)
      have hS : Own _ (⟨m100, 1, a0.Quanta.map (AV.int .i64)⟩ :: ⟨m101, 1, ouw nm_SInt d26 a0.Queues⟩ :: ⟨m102, 1, a0.Credit.map (AV.int .i64)⟩ :: ⟨m103, 1, a0.Sent.map (AV.int .i64)⟩ :: ⟨.ptr i0 w0 0 0, 5, [.agg [m100, m101, m102, m103, .int .i64 x4]]⟩ :: ((inn np_SInt (AV.int .i64) 1 d26 a0.Queues) ++ (F))) := Own.catI_ (bl := [[⟨.ptr i0 w0 0 0, 5, [.agg [m100, m101, m102, m103, .int .i64 x4]]⟩], [⟨m100, 1, a0.Quanta.map (AV.int .i64)⟩], [⟨m101, 1, ouw nm_SInt d26 a0.Queues⟩], [⟨m102, 1, a0.Credit.map (AV.int .i64)⟩], [⟨m103, 1, a0.Sent.map (AV.int .i64)⟩], (inn np_SInt (AV.int .i64) 1 d26 a0.Queues)]) (F := F) hS 6 rfl [1, 2, 3, 4, 0, 5] (by decide)
      exact cut_n hK17 ⟨_, (Option.some.inj h).symm, _, qd26, rfl, hS⟩
  · obtain ⟨x14, ey, d13, qd13, rfl, hS⟩ := hq; obtain rfl := ey.symm
    replace h := g16
    try dsimp only at h
    refine seq_n hK5 ?_
    refine w_seq fun K27 hK27 => ?_
    obtain ⟨y42, hw43, g49⟩ := Option.bind_eq_some_iff.1 h
    refine w_join gC (fun s H => ∃ x36 : List Int, ∃ x38 : List (List Int), ∃ x40 : List Int, ∃ x41 : List Int, y42 = (x36, x38, x40, x41) ∧ ∃ v37 : AV, isSl v37 ∧ ∃ d39 : List AV, isSls d39 (x38).length ∧ s = (.ptr i0 w0 0 0 :: u :: u :: u :: .int .i64 a0.At :: v37 :: u :: u :: u :: u :: u :: u :: u :: u :: u :: u :: u :: u :: u :: u :: u :: u :: u :: u :: u :: u :: u :: u :: u :: u :: u :: u :: u :: u :: u :: u :: u :: u :: u :: u :: u :: u :: u :: u :: u :: u :: u :: u :: u :: u :: u :: u :: u :: u :: u :: u :: u :: u :: u :: u :: u :: u :: u :: u :: u :: u :: u :: u :: u :: u :: u :: u :: u :: u :: u :: u :: u :: u :: u :: u :: u :: u :: u :: u :: u :: u :: u :: u :: u :: u :: u :: u :: u :: u :: u :: u :: u :: u :: u :: u :: u :: u :: u :: u :: u :: u :: u :: u :: u :: u :: u :: u :: u :: u :: u :: u :: u :: u :: u :: u :: u :: u :: u :: u :: u :: u :: u :: u :: u :: u :: u :: u :: u :: u :: u :: u :: u :: u :: u :: u :: u :: u :: u :: u :: u :: u :: u :: []) ∧ Own H (⟨v37, 1, x36.map (AV.int .i64)⟩ :: ⟨m100, 1, a0.Quanta.map (AV.int .i64)⟩ :: ⟨m101, 1, ouw nm_SInt d39 x38⟩ :: ⟨m102, 1, x40.map (AV.int .i64)⟩ :: ⟨m103, 1, x41.map (AV.int .i64)⟩ :: ⟨.ptr i0 w0 0 0, 5, [.agg [m100, m101, m102, m103, .int .i64 x4]]⟩ :: ((inn np_SInt (AV.int .i64) 1 d39 x38) ++ F))) (fun K44 hK44 => ?_) (fun s H hq => ?_)
    · refine w_blk fun K45 hK45 => ?_
      have hS := hS.e0_ 1
      refine w_loop gC hw43 (fun x s H => match x with | (x29, x32, x34, x35) => ∃ v30 : AV, isSl v30 ∧ ∃ d33 : List AV, isSls d33 (x32).length ∧ s = (.ptr i0 w0 0 0 :: u :: u :: u :: .int .i64 a0.At :: v30 :: u :: u :: u :: u :: u :: u :: u :: u :: u :: u :: u :: u :: u :: u :: u :: u :: u :: u :: u :: u :: u :: u :: u :: u :: u :: u :: u :: u :: u :: u :: u :: u :: u :: u :: u :: u :: u :: u :: u :: u :: u :: u :: u :: u :: u :: u :: u :: u :: u :: u :: u :: u :: u :: u :: u :: u :: u :: u :: u :: u :: u :: u :: u :: u :: u :: u :: u :: u :: u :: u :: u :: u :: u :: u :: u :: u :: u :: u :: u :: u :: u :: u :: u :: u :: u :: u :: u :: u :: u :: u :: u :: u :: u :: u :: u :: u :: u :: u :: u :: u :: u :: u :: u :: u :: u :: u :: u :: u :: u :: u :: u :: u :: u :: u :: u :: u :: u :: u :: u :: u :: u :: u :: u :: u :: u :: u :: u :: u :: u :: u :: u :: u :: u :: u :: u :: u :: u :: u :: u :: u :: u :: []) ∧ Own H (⟨v30, 1, x29.map (AV.int .i64)⟩ :: ⟨m100, 1, a0.Quanta.map (AV.int .i64)⟩ :: ⟨m101, 1, ouw nm_SInt d33 x32⟩ :: ⟨m102, 1, x34.map (AV.int .i64)⟩ :: ⟨m103, 1, x35.map (AV.int .i64)⟩ :: ⟨.ptr i0 w0 0 0, 5, [.agg [m100, m101, m102, m103, .int .i64 x4]]⟩ :: ((inn np_SInt (AV.int .i64) 1 d33 x32) ++ F))) ⟨_, isSl_e0, _, qd13, rfl, hS⟩ (fun x y48 s H h hd47 hi K46 hK46 => ?_)
      obtain ⟨x29, x32, x34, x35⟩ := x
      try dsimp only at hi
      obtain ⟨v30, qv30, d33, qd33, rfl, hS⟩ := hi
      simp only [impl_Turns_turn_l0] at h
      refine w_seq fun K50 hK50 => ?_
      refine w_seq fun K51 hK51 => ?_
      obtain ⟨y56, h, g57⟩ := Option.bind_eq_some_iff.1 h
      refine w_join gC (fun s H => ∃ x54 : Bool, y56 = (x54) ∧ ∃ d55 : List AV, isSls d55 (x32).length ∧ s = (.ptr i0 w0 0 0 :: u :: u :: u :: .int .i64 a0.At :: v30 :: u :: u :: u :: u :: u :: u :: u :: u :: u :: u :: u :: u :: u :: u :: u :: u :: u :: u :: u :: u :: u :: u :: u :: u :: u :: u :: u :: u :: u :: u :: u :: u :: u :: u :: u :: u :: u :: u :: u :: u :: u :: u :: u :: u :: u :: u :: u :: u :: u :: u :: u :: u :: u :: u :: u :: u :: u :: u :: u :: u :: u :: u :: u :: u :: u :: u :: u :: u :: u :: .bool x54 :: u :: u :: u :: u :: u :: u :: u :: u :: u :: u :: u :: u :: u :: u :: u :: u :: u :: u :: u :: u :: u :: u :: u :: u :: u :: u :: u :: u :: u :: u :: u :: u :: u :: u :: u :: u :: u :: u :: u :: u :: u :: u :: u :: u :: u :: u :: u :: u :: u :: u :: u :: u :: u :: u :: u :: u :: u :: u :: u :: u :: u :: u :: u :: u :: u :: u :: u :: u :: u :: u :: u :: []) ∧ Own H (⟨v30, 1, x29.map (AV.int .i64)⟩ :: ⟨m100, 1, a0.Quanta.map (AV.int .i64)⟩ :: ⟨m101, 1, ouw nm_SInt d55 x32⟩ :: ⟨m102, 1, x34.map (AV.int .i64)⟩ :: ⟨m103, 1, x35.map (AV.int .i64)⟩ :: ⟨.ptr i0 w0 0 0, 5, [.agg [m100, m101, m102, m103, .int .i64 x4]]⟩ :: ((inn np_SInt (AV.int .i64) 1 d55 x32) ++ F))) (fun K58 hK58 => ?_) (fun s H hq => ?_)
      · refine w_seq fun K59 hK59 => ?_
        refine w_draw0 gC (by kernel_rfl) ?_
        try simp only [W, EE, Nat.reduceAdd, Nat.reduceBEq, hS.var 5 rfl]
        obtain ⟨b61, hb61, h⟩ := Option.bind_eq_some_iff.1 h
        have hS : Own _ (⟨m101, 1, ouw nm_SInt d33 x32⟩ :: ((inn np_SInt (AV.int .i64) 1 d33 x32) ++ (⟨v30, 1, x29.map (AV.int .i64)⟩ :: ⟨m100, 1, a0.Quanta.map (AV.int .i64)⟩ :: ⟨m102, 1, x34.map (AV.int .i64)⟩ :: ⟨m103, 1, x35.map (AV.int .i64)⟩ :: ⟨.ptr i0 w0 0 0, 5, [.agg [m100, m101, m102, m103, .int .i64 x4]]⟩ :: F))) := Own.catI_ (bl := [[⟨v30, 1, x29.map (AV.int .i64)⟩], [⟨m100, 1, a0.Quanta.map (AV.int .i64)⟩], [⟨m101, 1, ouw nm_SInt d33 x32⟩], [⟨m102, 1, x34.map (AV.int .i64)⟩], [⟨m103, 1, x35.map (AV.int .i64)⟩], [⟨.ptr i0 w0 0 0, 5, [.agg [m100, m101, m102, m103, .int .i64 x4]]⟩], (inn np_SInt (AV.int .i64) 1 d33 x32)]) (F := F) hS 7 rfl [2, 6, 0, 1, 3, 4, 5] (by decide)
        obtain ⟨v62, qv62, hS⟩ := openN (p := np_SInt) (c := (AV.int .i64)) (m := nm_SInt) (b := b61) hS qd33 hb61
        have hS : Own _ (⟨v62, 1, b61.map (AV.int .i64)⟩ :: ⟨v30, 1, x29.map (AV.int .i64)⟩ :: ⟨m100, 1, a0.Quanta.map (AV.int .i64)⟩ :: ⟨m101, 1, (ouw nm_SInt d33 x32).set a0.At.toNat (v62)⟩ :: ⟨m102, 1, x34.map (AV.int .i64)⟩ :: ⟨m103, 1, x35.map (AV.int .i64)⟩ :: ⟨.ptr i0 w0 0 0, 5, [.agg [m100, m101, m102, m103, .int .i64 x4]]⟩ :: ((inx np_SInt (AV.int .i64) 1 d33 x32 a0.At.toNat) ++ (F))) := Own.catI_ (bl := [[⟨v62, 1, b61.map (AV.int .i64)⟩], [⟨m101, 1, (ouw nm_SInt d33 x32).set a0.At.toNat (v62)⟩], (inx np_SInt (AV.int .i64) 1 d33 x32 a0.At.toNat), [⟨v30, 1, x29.map (AV.int .i64)⟩], [⟨m100, 1, a0.Quanta.map (AV.int .i64)⟩], [⟨m102, 1, x34.map (AV.int .i64)⟩], [⟨m103, 1, x35.map (AV.int .i64)⟩], [⟨.ptr i0 w0 0 0, 5, [.agg [m100, m101, m102, m103, .int .i64 x4]]⟩]]) (F := F) hS 8 rfl [0, 3, 4, 1, 5, 6, 7, 2] (by decide)
        refine w_owE (x := v62) 3 hS rfl rfl rfl rfl rfl (idx_some hb61).1 (holeG qd33 hb61) qm101 (fun in60 wn60 on60 en60 hkn60 => ?_)
        obtain ⟨kn60, hbn60, hen60⟩ := hkn60
        try simp only [W, EE, hbn60, hen60, qv62.rd]
        refine w_len 0 hS rfl qv62 rfl ?_
        try simp only [W, EE]
        refine w_grdT h (fun hc h => ?_) (fun hc h => ?_)
        · try simp only [W, EE, Nat.reduceAdd, Nat.reduceBEq, hS.var 6 rfl, hc]
          refine w_owE (x := v62) 3 hS rfl rfl rfl rfl rfl (idx_some hb61).1 (holeG qd33 hb61) qm101 (fun in64 wn64 on64 en64 hkn64 => ?_)
          obtain ⟨kn64, hbn64, hen64⟩ := hkn64
          try simp only [W, EE, hbn64, hen64, qv62.rd]
          refine w_ow 0 hS rfl rfl rfl rfl rfl h (fun b65 in66 wn66 on66 hb65 h en66 => ?_) qv62.ne
          obtain ⟨kn66, hbn66, hen66⟩ := hS.elem 0 rfl en66 hb65
          try simp only [W, EE, Nat.reduceAdd, Nat.reduceBEq, hS.var 6 rfl, hbn66, hen66]
          refine w_ow 4 hS rfl rfl rfl rfl rfl h (fun b67 in68 wn68 on68 hb67 h en68 => ?_) qm102.ne
          obtain ⟨kn68, hbn68, hen68⟩ := hS.elem 4 rfl en68 hb67
          try simp only [W, EE, reduceIte, hbn68, hen68]
          refine seq_n hK59 ?_
          refine w_killE (s' := (.ptr i0 w0 0 0 :: u :: u :: u :: .int .i64 a0.At :: v30 :: u :: u :: u :: u :: u :: u :: u :: u :: u :: u :: u :: u :: u :: u :: u :: u :: u :: u :: u :: u :: u :: u :: u :: u :: u :: u :: u :: u :: u :: u :: u :: u :: u :: u :: u :: u :: u :: u :: u :: u :: u :: u :: u :: u :: u :: u :: u :: u :: u :: u :: u :: u :: u :: u :: u :: u :: u :: u :: u :: u :: u :: u :: u :: u :: u :: u :: u :: u :: u :: .bool (decide (b65 ≤ b67)) :: u :: u :: u :: u :: u :: u :: u :: u :: u :: u :: u :: u :: u :: u :: u :: u :: u :: u :: u :: u :: u :: u :: u :: u :: u :: u :: u :: u :: u :: u :: u :: u :: u :: u :: u :: u :: u :: u :: u :: u :: u :: u :: u :: u :: u :: u :: u :: u :: u :: u :: u :: u :: u :: u :: u :: u :: u :: u :: u :: u :: u :: u :: u :: u :: u :: u :: u :: u :: u :: u :: u :: [])) rfl ?_
          have hS : Own _ (⟨v62, 1, b61.map (AV.int .i64)⟩ :: ⟨m101, 1, (ouw nm_SInt d33 x32).set a0.At.toNat (v62)⟩ :: ((inx np_SInt (AV.int .i64) 1 d33 x32 a0.At.toNat) ++ (⟨v30, 1, x29.map (AV.int .i64)⟩ :: ⟨m100, 1, a0.Quanta.map (AV.int .i64)⟩ :: ⟨m102, 1, x34.map (AV.int .i64)⟩ :: ⟨m103, 1, x35.map (AV.int .i64)⟩ :: ⟨.ptr i0 w0 0 0, 5, [.agg [m100, m101, m102, m103, .int .i64 x4]]⟩ :: F))) := Own.catI_ (bl := [[⟨v62, 1, b61.map (AV.int .i64)⟩], [⟨v30, 1, x29.map (AV.int .i64)⟩], [⟨m100, 1, a0.Quanta.map (AV.int .i64)⟩], [⟨m101, 1, (ouw nm_SInt d33 x32).set a0.At.toNat (v62)⟩], [⟨m102, 1, x34.map (AV.int .i64)⟩], [⟨m103, 1, x35.map (AV.int .i64)⟩], [⟨.ptr i0 w0 0 0, 5, [.agg [m100, m101, m102, m103, .int .i64 x4]]⟩], (inx np_SInt (AV.int .i64) 1 d33 x32 a0.At.toNat)]) (F := F) hS 8 rfl [0, 3, 7, 1, 2, 4, 5, 6] (by decide)
          obtain ⟨d69, qd69, hS⟩ := closeN0 (p := np_SInt) (c := (AV.int .i64)) (m := nm_SInt) (b := b61) hS qd33 qv62 hb61
          have hS : Own _ (⟨v30, 1, x29.map (AV.int .i64)⟩ :: ⟨m100, 1, a0.Quanta.map (AV.int .i64)⟩ :: ⟨m101, 1, ouw nm_SInt d69 x32⟩ :: ⟨m102, 1, x34.map (AV.int .i64)⟩ :: ⟨m103, 1, x35.map (AV.int .i64)⟩ :: ⟨.ptr i0 w0 0 0, 5, [.agg [m100, m101, m102, m103, .int .i64 x4]]⟩ :: ((inn np_SInt (AV.int .i64) 1 d69 x32) ++ (F))) := Own.catI_ (bl := [[⟨m101, 1, ouw nm_SInt d69 x32⟩], (inn np_SInt (AV.int .i64) 1 d69 x32), [⟨v30, 1, x29.map (AV.int .i64)⟩], [⟨m100, 1, a0.Quanta.map (AV.int .i64)⟩], [⟨m102, 1, x34.map (AV.int .i64)⟩], [⟨m103, 1, x35.map (AV.int .i64)⟩], [⟨.ptr i0 w0 0 0, 5, [.agg [m100, m101, m102, m103, .int .i64 x4]]⟩]]) (F := F) hS 7 rfl [2, 3, 0, 4, 5, 6, 1] (by decide)
          exact cut_n hK58 ⟨_, (Option.some.inj h).symm, _, qd69, rfl, hS⟩
        · try simp only [W, hc]
          refine seq_n hK59 ?_
          refine w_killE (s' := (.ptr i0 w0 0 0 :: u :: u :: u :: .int .i64 a0.At :: v30 :: u :: u :: u :: u :: u :: u :: u :: u :: u :: u :: u :: u :: u :: u :: u :: u :: u :: u :: u :: u :: u :: u :: u :: u :: u :: u :: u :: u :: u :: u :: u :: u :: u :: u :: u :: u :: u :: u :: u :: u :: u :: u :: u :: u :: u :: u :: u :: u :: u :: u :: u :: u :: u :: u :: u :: u :: u :: u :: u :: u :: u :: u :: u :: u :: u :: u :: u :: u :: u :: .bool false :: u :: u :: u :: u :: u :: u :: u :: u :: u :: u :: u :: u :: u :: u :: u :: u :: u :: u :: u :: u :: u :: u :: u :: u :: u :: u :: u :: u :: u :: u :: u :: u :: u :: u :: u :: u :: u :: u :: u :: u :: u :: u :: u :: u :: u :: u :: u :: u :: u :: u :: u :: u :: u :: u :: u :: u :: u :: u :: u :: u :: u :: u :: u :: u :: u :: u :: u :: u :: u :: u :: u :: [])) rfl ?_
          have hS : Own _ (⟨v62, 1, b61.map (AV.int .i64)⟩ :: ⟨m101, 1, (ouw nm_SInt d33 x32).set a0.At.toNat (v62)⟩ :: ((inx np_SInt (AV.int .i64) 1 d33 x32 a0.At.toNat) ++ (⟨v30, 1, x29.map (AV.int .i64)⟩ :: ⟨m100, 1, a0.Quanta.map (AV.int .i64)⟩ :: ⟨m102, 1, x34.map (AV.int .i64)⟩ :: ⟨m103, 1, x35.map (AV.int .i64)⟩ :: ⟨.ptr i0 w0 0 0, 5, [.agg [m100, m101, m102, m103, .int .i64 x4]]⟩ :: F))) := Own.catI_ (bl := [[⟨v62, 1, b61.map (AV.int .i64)⟩], [⟨v30, 1, x29.map (AV.int .i64)⟩], [⟨m100, 1, a0.Quanta.map (AV.int .i64)⟩], [⟨m101, 1, (ouw nm_SInt d33 x32).set a0.At.toNat (v62)⟩], [⟨m102, 1, x34.map (AV.int .i64)⟩], [⟨m103, 1, x35.map (AV.int .i64)⟩], [⟨.ptr i0 w0 0 0, 5, [.agg [m100, m101, m102, m103, .int .i64 x4]]⟩], (inx np_SInt (AV.int .i64) 1 d33 x32 a0.At.toNat)]) (F := F) hS 8 rfl [0, 3, 7, 1, 2, 4, 5, 6] (by decide)
          obtain ⟨d70, qd70, hS⟩ := closeN0 (p := np_SInt) (c := (AV.int .i64)) (m := nm_SInt) (b := b61) hS qd33 qv62 hb61
          have hS : Own _ (⟨v30, 1, x29.map (AV.int .i64)⟩ :: ⟨m100, 1, a0.Quanta.map (AV.int .i64)⟩ :: ⟨m101, 1, ouw nm_SInt d70 x32⟩ :: ⟨m102, 1, x34.map (AV.int .i64)⟩ :: ⟨m103, 1, x35.map (AV.int .i64)⟩ :: ⟨.ptr i0 w0 0 0, 5, [.agg [m100, m101, m102, m103, .int .i64 x4]]⟩ :: ((inn np_SInt (AV.int .i64) 1 d70 x32) ++ (F))) := Own.catI_ (bl := [[⟨m101, 1, ouw nm_SInt d70 x32⟩], (inn np_SInt (AV.int .i64) 1 d70 x32), [⟨v30, 1, x29.map (AV.int .i64)⟩], [⟨m100, 1, a0.Quanta.map (AV.int .i64)⟩], [⟨m102, 1, x34.map (AV.int .i64)⟩], [⟨m103, 1, x35.map (AV.int .i64)⟩], [⟨.ptr i0 w0 0 0, 5, [.agg [m100, m101, m102, m103, .int .i64 x4]]⟩]]) (F := F) hS 7 rfl [2, 3, 0, 4, 5, 6, 1] (by decide)
          exact cut_n hK58 ⟨_, (Option.some.inj h).symm, _, qd70, rfl, hS⟩
      · obtain ⟨x54, ey, d55, qd55, rfl, hS⟩ := hq; obtain rfl := ey.symm
        replace h := g57
        try dsimp only at h
        refine seq_n hK51 ?_
        refine w_if ?_
        simp only [W]
        refine w_cnd h (fun hc h => ?_) (fun hc h => ?_)
        · refine w_skip ?_
          refine seq_n hK50 ?_
          refine w_blk fun K71 hK71 => ?_
          refine w_seq fun K72 hK72 => ?_
          refine w_reg gC ?_
          try simp only [W, EE, Nat.reduceAdd, Nat.reduceBEq, hS.var 5 rfl]
          obtain ⟨b74, hb74, h⟩ := Option.bind_eq_some_iff.1 h
          have hS : Own _ (⟨m101, 1, ouw nm_SInt d55 x32⟩ :: ((inn np_SInt (AV.int .i64) 1 d55 x32) ++ (⟨v30, 1, x29.map (AV.int .i64)⟩ :: ⟨m100, 1, a0.Quanta.map (AV.int .i64)⟩ :: ⟨m102, 1, x34.map (AV.int .i64)⟩ :: ⟨m103, 1, x35.map (AV.int .i64)⟩ :: ⟨.ptr i0 w0 0 0, 5, [.agg [m100, m101, m102, m103, .int .i64 x4]]⟩ :: F))) := Own.catI_ (bl := [[⟨v30, 1, x29.map (AV.int .i64)⟩], [⟨m100, 1, a0.Quanta.map (AV.int .i64)⟩], [⟨m101, 1, ouw nm_SInt d55 x32⟩], [⟨m102, 1, x34.map (AV.int .i64)⟩], [⟨m103, 1, x35.map (AV.int .i64)⟩], [⟨.ptr i0 w0 0 0, 5, [.agg [m100, m101, m102, m103, .int .i64 x4]]⟩], (inn np_SInt (AV.int .i64) 1 d55 x32)]) (F := F) hS 7 rfl [2, 6, 0, 1, 3, 4, 5] (by decide)
          obtain ⟨v75, qv75, hS⟩ := openN (p := np_SInt) (c := (AV.int .i64)) (m := nm_SInt) (b := b74) hS qd55 hb74
          have hS : Own _ (⟨v75, 1, b74.map (AV.int .i64)⟩ :: ⟨v30, 1, x29.map (AV.int .i64)⟩ :: ⟨m100, 1, a0.Quanta.map (AV.int .i64)⟩ :: ⟨m101, 1, (ouw nm_SInt d55 x32).set a0.At.toNat (v75)⟩ :: ⟨m102, 1, x34.map (AV.int .i64)⟩ :: ⟨m103, 1, x35.map (AV.int .i64)⟩ :: ⟨.ptr i0 w0 0 0, 5, [.agg [m100, m101, m102, m103, .int .i64 x4]]⟩ :: ((inx np_SInt (AV.int .i64) 1 d55 x32 a0.At.toNat) ++ (F))) := Own.catI_ (bl := [[⟨v75, 1, b74.map (AV.int .i64)⟩], [⟨m101, 1, (ouw nm_SInt d55 x32).set a0.At.toNat (v75)⟩], (inx np_SInt (AV.int .i64) 1 d55 x32 a0.At.toNat), [⟨v30, 1, x29.map (AV.int .i64)⟩], [⟨m100, 1, a0.Quanta.map (AV.int .i64)⟩], [⟨m102, 1, x34.map (AV.int .i64)⟩], [⟨m103, 1, x35.map (AV.int .i64)⟩], [⟨.ptr i0 w0 0 0, 5, [.agg [m100, m101, m102, m103, .int .i64 x4]]⟩]]) (F := F) hS 8 rfl [0, 3, 4, 1, 5, 6, 7, 2] (by decide)
          refine w_owE (x := v75) 3 hS rfl rfl rfl rfl rfl (idx_some hb74).1 (holeG qd55 hb74) qm101 (fun in73 wn73 on73 en73 hkn73 => ?_)
          obtain ⟨kn73, hbn73, hen73⟩ := hkn73
          try simp only [W, EE, hbn73, hen73, qv75.rd]
          refine w_ow 0 hS rfl rfl rfl rfl rfl h (fun b77 in78 wn78 on78 hb77 h en78 => ?_) qv75.ne
          obtain ⟨kn78, hbn78, hen78⟩ := hS.elem 0 rfl en78 hb77
          try simp only [W, EE, hbn78, hen78]
          refine seq_n hK72 ?_
          refine w_seq fun K79 hK79 => ?_
          refine w_drawL gC [(14, [])] (by kernel_rfl) rfl (by kernel_rfl) ?_
          try simp only [W, EE, reduceIte, Nat.reduceAdd, Nat.reduceBEq, hS.var 6 rfl, tabAt, qAt, Nat.reduceEqDiff]
          refine w_owE (x := v75) 3 hS rfl rfl rfl rfl rfl (idx_some hb74).1 (holeG qd55 hb74) qm101 (fun in80 wn80 on80 en80 hkn80 => ?_)
          obtain ⟨kn80, hbn80, hen80⟩ := hkn80
          try simp only [W, EE, hbn80, hen80, qv75.rd]
          refine w_slO 0 hS rfl qv75 rfl rfl rfl h fun v82 x81 qv82 hx81 h hS => ?_
          try simp only [W, EE]
          refine w_owE (x := v75) 3 hS rfl rfl rfl rfl rfl (idx_some hb74).1 (holeG qd55 hb74) qm101 (fun in84 wn84 on84 en84 hkn84 => ?_)
          obtain ⟨kn84, hbn84, hen84⟩ := hkn84
          try simp only [W]
          refine w_stE (a := v82) (y' := v82) (i := a0.At.toNat) 3 hS rfl en84 (holeG qd55 hb74) rfl rfl rfl (by rw [qv82.cells]; rfl) qv82.stora (qv82.wr2 qv75) (by first | rfl | (rw [qv82.cells]; rfl)) (List.set_set ..) fun H hS => ?_
          try simp only [W]
          refine seq_n hK79 ?_
          refine w_seq fun K85 hK85 => ?_
          refine w_reg gC ?_
          try simp only [W, EE, Nat.reduceAdd, Nat.reduceBEq, hS.var 6 rfl]
          refine w_ow 4 hS rfl rfl rfl rfl rfl h (fun b86 in87 wn87 on87 hb86 h en87 => ?_) qm102.ne
          obtain ⟨kn87, hbn87, hen87⟩ := hS.elem 4 rfl en87 hb86
          try simp only [W, EE, hbn87, hen87]
          refine w_ow 4 hS rfl rfl rfl rfl rfl h (fun b88 in89 wn89 on89 hb88 h en89 => ?_) qm102.ne
          obtain ⟨kn89, hbn89, hen89⟩ := hS.elem 4 rfl en89 hb88
          try simp only [W]
          refine w_ste (a := .int .i64 (IntKind.i64.wrap (b86 - b77))) (y' := (IntKind.i64.wrap (b86 - b77))) 4 hS rfl en89 hb88 rfl rfl rfl rfl rfl rfl rfl fun H hS => ?_
          try simp only [W]
          refine seq_n hK85 ?_
          refine w_seq fun K90 hK90 => ?_
          refine w_reg gC ?_
          try simp only [W, EE, Nat.reduceAdd, Nat.reduceBEq, hS.var 6 rfl]
          refine w_ow 5 hS rfl rfl rfl rfl rfl h (fun b91 in92 wn92 on92 hb91 h en92 => ?_) qm103.ne
          obtain ⟨kn92, hbn92, hen92⟩ := hS.elem 5 rfl en92 hb91
          try simp only [W, EE, hbn92, hen92]
          refine w_ow 5 hS rfl rfl rfl rfl rfl h (fun b93 in94 wn94 on94 hb93 h en94 => ?_) qm103.ne
          obtain ⟨kn94, hbn94, hen94⟩ := hS.elem 5 rfl en94 hb93
          try simp only [W]
          refine w_ste (a := .int .i64 (IntKind.i64.wrap (b91 + b77))) (y' := (IntKind.i64.wrap (b91 + b77))) 5 hS rfl en94 hb93 rfl rfl rfl rfl rfl rfl rfl fun H hS => ?_
          try simp only [W]
          refine seq_n hK90 ?_
          refine w_reg gC ?_
          try simp only [W, Nat.reduceAdd]
          refine w_lit (el := ([b77] : List Int).map (AV.int .i64)) hS rfl rfl rfl rfl rfl rfl rfl fun v95 H qv95 hS => ?_
          try simp only [W, EE]
          refine w_appV (l := x29) (c := (AV.int .i64)) 2 hS rfl qv30 rfl rfl rfl (hS.elems 0 rfl qv95) (fun _ => rfl) rfl h fun v98 H x97 qv98 hm h hS => ?_
          try simp only [W]
          refine blk_n0 hK71 ?_
          have hS : Own _ (⟨v82, 1, x81.map (AV.int .i64)⟩ :: ⟨m101, 1, (ouw nm_SInt d55 x32).set a0.At.toNat (v82)⟩ :: ((inx np_SInt (AV.int .i64) 1 d55 x32 a0.At.toNat) ++ (⟨v95, 1, ([b77] : List Int).map (AV.int .i64)⟩ :: ⟨v98, 1, x97.map (AV.int .i64)⟩ :: ⟨m100, 1, a0.Quanta.map (AV.int .i64)⟩ :: ⟨m102, 1, (x34.set a0.At.toNat (IntKind.i64.wrap (b86 - b77))).map (AV.int .i64)⟩ :: ⟨m103, 1, (x35.set a0.At.toNat (IntKind.i64.wrap (b91 + b77))).map (AV.int .i64)⟩ :: ⟨.ptr i0 w0 0 0, 5, [.agg [m100, m101, m102, m103, .int .i64 x4]]⟩ :: F))) := Own.catI_ (bl := [[⟨v95, 1, ([b77] : List Int).map (AV.int .i64)⟩], [⟨v82, 1, x81.map (AV.int .i64)⟩], [⟨v98, 1, x97.map (AV.int .i64)⟩], [⟨m100, 1, a0.Quanta.map (AV.int .i64)⟩], [⟨m101, 1, (ouw nm_SInt d55 x32).set a0.At.toNat (v82)⟩], [⟨m102, 1, (x34.set a0.At.toNat (IntKind.i64.wrap (b86 - b77))).map (AV.int .i64)⟩], [⟨m103, 1, (x35.set a0.At.toNat (IntKind.i64.wrap (b91 + b77))).map (AV.int .i64)⟩], [⟨.ptr i0 w0 0 0, 5, [.agg [m100, m101, m102, m103, .int .i64 x4]]⟩], (inx np_SInt (AV.int .i64) 1 d55 x32 a0.At.toNat)]) (F := F) hS 9 rfl [1, 4, 8, 0, 2, 3, 5, 6, 7] (by decide)
          obtain ⟨d100, qd100, hS⟩ := closeN (p := np_SInt) (c := (AV.int .i64)) (m := nm_SInt) (b := b74) (y := x81) hS qd55 qv82 hb74
          have hS : Own _ (⟨v95, 1, ([b77] : List Int).map (AV.int .i64)⟩ :: ⟨v98, 1, x97.map (AV.int .i64)⟩ :: ⟨m100, 1, a0.Quanta.map (AV.int .i64)⟩ :: ⟨m101, 1, ouw nm_SInt d100 (x32.set a0.At.toNat x81)⟩ :: ⟨m102, 1, (x34.set a0.At.toNat (IntKind.i64.wrap (b86 - b77))).map (AV.int .i64)⟩ :: ⟨m103, 1, (x35.set a0.At.toNat (IntKind.i64.wrap (b91 + b77))).map (AV.int .i64)⟩ :: ⟨.ptr i0 w0 0 0, 5, [.agg [m100, m101, m102, m103, .int .i64 x4]]⟩ :: ((inn np_SInt (AV.int .i64) 1 d100 (x32.set a0.At.toNat x81)) ++ (F))) := Own.catI_ (bl := [[⟨m101, 1, ouw nm_SInt d100 (x32.set a0.At.toNat x81)⟩], (inn np_SInt (AV.int .i64) 1 d100 (x32.set a0.At.toNat x81)), [⟨v95, 1, ([b77] : List Int).map (AV.int .i64)⟩], [⟨v98, 1, x97.map (AV.int .i64)⟩], [⟨m100, 1, a0.Quanta.map (AV.int .i64)⟩], [⟨m102, 1, (x34.set a0.At.toNat (IntKind.i64.wrap (b86 - b77))).map (AV.int .i64)⟩], [⟨m103, 1, (x35.set a0.At.toNat (IntKind.i64.wrap (b91 + b77))).map (AV.int .i64)⟩], [⟨.ptr i0 w0 0 0, 5, [.agg [m100, m101, m102, m103, .int .i64 x4]]⟩]]) (F := F) hS 8 rfl [2, 3, 4, 0, 5, 6, 7, 1] (by decide)
          have hS : Own _ (⟨v98, 1, x97.map (AV.int .i64)⟩ :: ⟨m100, 1, a0.Quanta.map (AV.int .i64)⟩ :: ⟨m101, 1, ouw nm_SInt d100 (x32.set a0.At.toNat x81)⟩ :: ⟨m102, 1, (x34.set a0.At.toNat (IntKind.i64.wrap (b86 - b77))).map (AV.int .i64)⟩ :: ⟨m103, 1, (x35.set a0.At.toNat (IntKind.i64.wrap (b91 + b77))).map (AV.int .i64)⟩ :: ⟨.ptr i0 w0 0 0, 5, [.agg [m100, m101, m102, m103, .int .i64 x4]]⟩ :: ((inn np_SInt (AV.int .i64) 1 d100 (x32.set a0.At.toNat x81)) ++ (F))) := Own.catI_ (bl := [[⟨v95, 1, ([b77] : List Int).map (AV.int .i64)⟩], [⟨v98, 1, x97.map (AV.int .i64)⟩], [⟨m100, 1, a0.Quanta.map (AV.int .i64)⟩], [⟨m101, 1, ouw nm_SInt d100 (x32.set a0.At.toNat x81)⟩], [⟨m102, 1, (x34.set a0.At.toNat (IntKind.i64.wrap (b86 - b77))).map (AV.int .i64)⟩], [⟨m103, 1, (x35.set a0.At.toNat (IntKind.i64.wrap (b91 + b77))).map (AV.int .i64)⟩], [⟨.ptr i0 w0 0 0, 5, [.agg [m100, m101, m102, m103, .int .i64 x4]]⟩], (inn np_SInt (AV.int .i64) 1 d100 (x32.set a0.At.toNat x81))]) (F := F) hS 8 rfl [1, 2, 3, 4, 5, 6, 7] (by decide)
          exact lp_n hK46 h ⟨_, qv98, _, qd100, rfl, hS⟩
        · refine w_exit ?_
          refine seq_x hK50 ?_
          try obtain rfl := Option.some.inj h
          obtain rfl := hd47 _ rfl
          have h : (some (x29, x32, x34, x35) : Option ((List Int) × (List (List Int)) × (List Int) × (List Int))) = some (x29, x32, x34, x35) := rfl
          refine lp_x hK46 ?_
          refine blk_e hK45 ?_
          exact cut_n hK44 ⟨_, _, _, _, (Option.some.inj h).symm, _, qv30, _, qd55, rfl, hS⟩
    · obtain ⟨x36, x38, x40, x41, rfl, v37, qv37, d39, qd39, rfl, hS⟩ := hq
      replace h := g49
      try dsimp only at h
      refine seq_n hK27 ?_
      refine w_seq fun K104 hK104 => ?_
      refine w_seq fun K105 hK105 => ?_
      refine w_reg gC ?_
      try simp only [W, EE, Nat.reduceAdd, Nat.reduceBEq, hS.var 5 rfl]
      obtain ⟨b107, hb107, h⟩ := Option.bind_eq_some_iff.1 h
      have hS : Own _ (⟨m101, 1, ouw nm_SInt d39 x38⟩ :: ((inn np_SInt (AV.int .i64) 1 d39 x38) ++ (⟨v37, 1, x36.map (AV.int .i64)⟩ :: ⟨m100, 1, a0.Quanta.map (AV.int .i64)⟩ :: ⟨m102, 1, x40.map (AV.int .i64)⟩ :: ⟨m103, 1, x41.map (AV.int .i64)⟩ :: ⟨.ptr i0 w0 0 0, 5, [.agg [m100, m101, m102, m103, .int .i64 x4]]⟩ :: F))) := Own.catI_ (bl := [[⟨v37, 1, x36.map (AV.int .i64)⟩], [⟨m100, 1, a0.Quanta.map (AV.int .i64)⟩], [⟨m101, 1, ouw nm_SInt d39 x38⟩], [⟨m102, 1, x40.map (AV.int .i64)⟩], [⟨m103, 1, x41.map (AV.int .i64)⟩], [⟨.ptr i0 w0 0 0, 5, [.agg [m100, m101, m102, m103, .int .i64 x4]]⟩], (inn np_SInt (AV.int .i64) 1 d39 x38)]) (F := F) hS 7 rfl [2, 6, 0, 1, 3, 4, 5] (by decide)
      obtain ⟨v108, qv108, hS⟩ := openN (p := np_SInt) (c := (AV.int .i64)) (m := nm_SInt) (b := b107) hS qd39 hb107
      have hS : Own _ (⟨v108, 1, b107.map (AV.int .i64)⟩ :: ⟨v37, 1, x36.map (AV.int .i64)⟩ :: ⟨m100, 1, a0.Quanta.map (AV.int .i64)⟩ :: ⟨m101, 1, (ouw nm_SInt d39 x38).set a0.At.toNat (v108)⟩ :: ⟨m102, 1, x40.map (AV.int .i64)⟩ :: ⟨m103, 1, x41.map (AV.int .i64)⟩ :: ⟨.ptr i0 w0 0 0, 5, [.agg [m100, m101, m102, m103, .int .i64 x4]]⟩ :: ((inx np_SInt (AV.int .i64) 1 d39 x38 a0.At.toNat) ++ (F))) := Own.catI_ (bl := [[⟨v108, 1, b107.map (AV.int .i64)⟩], [⟨m101, 1, (ouw nm_SInt d39 x38).set a0.At.toNat (v108)⟩], (inx np_SInt (AV.int .i64) 1 d39 x38 a0.At.toNat), [⟨v37, 1, x36.map (AV.int .i64)⟩], [⟨m100, 1, a0.Quanta.map (AV.int .i64)⟩], [⟨m102, 1, x40.map (AV.int .i64)⟩], [⟨m103, 1, x41.map (AV.int .i64)⟩], [⟨.ptr i0 w0 0 0, 5, [.agg [m100, m101, m102, m103, .int .i64 x4]]⟩]]) (F := F) hS 8 rfl [0, 3, 4, 1, 5, 6, 7, 2] (by decide)
      refine w_owE (x := v108) 3 hS rfl rfl rfl rfl rfl (idx_some hb107).1 (holeG qd39 hb107) qm101 (fun in106 wn106 on106 en106 hkn106 => ?_)
      obtain ⟨kn106, hbn106, hen106⟩ := hkn106
      try simp only [W, EE, hbn106, hen106, qv108.rd]
      refine w_len 0 hS rfl qv108 rfl ?_
      try simp only [W, EE]
      refine seq_n hK105 ?_
      obtain ⟨y114, h, g115⟩ := Option.bind_eq_some_iff.1 h
      refine w_join gC (fun s H => ∃ x113 : List Int, y114 = (x113) ∧ ∃ d112 : List AV, isSls d112 (x38).length ∧ s = (.ptr i0 w0 0 0 :: u :: u :: u :: .int .i64 a0.At :: v37 :: u :: u :: u :: u :: u :: u :: u :: u :: u :: u :: u :: u :: u :: u :: u :: u :: u :: u :: u :: u :: u :: u :: u :: u :: u :: u :: u :: u :: u :: u :: u :: u :: u :: u :: u :: u :: u :: u :: u :: u :: u :: u :: u :: u :: u :: u :: u :: u :: u :: u :: u :: u :: u :: u :: u :: u :: u :: u :: u :: u :: u :: u :: u :: u :: u :: u :: u :: u :: u :: u :: u :: u :: u :: u :: u :: u :: u :: u :: u :: u :: u :: u :: u :: u :: u :: u :: u :: u :: u :: u :: u :: u :: u :: u :: u :: u :: u :: u :: u :: u :: u :: u :: u :: u :: u :: u :: u :: u :: u :: u :: u :: u :: u :: u :: u :: u :: u :: u :: u :: u :: u :: u :: u :: u :: u :: u :: u :: u :: u :: u :: u :: u :: u :: u :: u :: u :: u :: u :: u :: u :: u :: []) ∧ Own H (⟨v37, 1, x36.map (AV.int .i64)⟩ :: ⟨m100, 1, a0.Quanta.map (AV.int .i64)⟩ :: ⟨m101, 1, ouw nm_SInt d112 x38⟩ :: ⟨m102, 1, x113.map (AV.int .i64)⟩ :: ⟨m103, 1, x41.map (AV.int .i64)⟩ :: ⟨.ptr i0 w0 0 0, 5, [.agg [m100, m101, m102, m103, .int .i64 x4]]⟩ :: ((inn np_SInt (AV.int .i64) 1 d112 x38) ++ F))) (fun K116 hK116 => ?_) (fun s H hq => ?_)
      · refine w_seq fun K117 hK117 => ?_
        refine w_if ?_
        simp only [W]
        refine w_cnd h (fun hc h => ?_) (fun hc h => ?_)
        · refine w_reg gC ?_
          try simp only [W, EE, Nat.reduceAdd, Nat.reduceBEq, hS.var 6 rfl]
          refine w_ow 4 hS rfl rfl rfl rfl rfl h (fun b118 in119 wn119 on119 hb118 h en119 => ?_) qm102.ne
          obtain ⟨kn119, hbn119, hen119⟩ := hS.elem 4 rfl en119 hb118
          try simp only [W]
          refine w_ste (a := .int .i64 0) (y' := 0) 4 hS rfl en119 hb118 rfl rfl rfl rfl rfl rfl rfl fun H hS => ?_
          try simp only [W]
          refine seq_n hK117 ?_
          refine w_killE (s' := (.ptr i0 w0 0 0 :: u :: u :: u :: .int .i64 a0.At :: v37 :: u :: u :: u :: u :: u :: u :: u :: u :: u :: u :: u :: u :: u :: u :: u :: u :: u :: u :: u :: u :: u :: u :: u :: u :: u :: u :: u :: u :: u :: u :: u :: u :: u :: u :: u :: u :: u :: u :: u :: u :: u :: u :: u :: u :: u :: u :: u :: u :: u :: u :: u :: u :: u :: u :: u :: u :: u :: u :: u :: u :: u :: u :: u :: u :: u :: u :: u :: u :: u :: u :: u :: u :: u :: u :: u :: u :: u :: u :: u :: u :: u :: u :: u :: u :: u :: u :: u :: u :: u :: u :: u :: u :: u :: u :: u :: u :: u :: u :: u :: u :: u :: u :: u :: u :: u :: u :: u :: u :: u :: u :: u :: u :: u :: u :: u :: u :: u :: u :: u :: u :: u :: u :: u :: u :: u :: u :: u :: u :: u :: u :: u :: u :: u :: u :: u :: u :: u :: u :: u :: u :: u :: [])) rfl ?_
          have hS : Own _ (⟨v108, 1, b107.map (AV.int .i64)⟩ :: ⟨m101, 1, (ouw nm_SInt d39 x38).set a0.At.toNat (v108)⟩ :: ((inx np_SInt (AV.int .i64) 1 d39 x38 a0.At.toNat) ++ (⟨v37, 1, x36.map (AV.int .i64)⟩ :: ⟨m100, 1, a0.Quanta.map (AV.int .i64)⟩ :: ⟨m102, 1, (x40.set a0.At.toNat 0).map (AV.int .i64)⟩ :: ⟨m103, 1, x41.map (AV.int .i64)⟩ :: ⟨.ptr i0 w0 0 0, 5, [.agg [m100, m101, m102, m103, .int .i64 x4]]⟩ :: F))) := Own.catI_ (bl := [[⟨v108, 1, b107.map (AV.int .i64)⟩], [⟨v37, 1, x36.map (AV.int .i64)⟩], [⟨m100, 1, a0.Quanta.map (AV.int .i64)⟩], [⟨m101, 1, (ouw nm_SInt d39 x38).set a0.At.toNat (v108)⟩], [⟨m102, 1, (x40.set a0.At.toNat 0).map (AV.int .i64)⟩], [⟨m103, 1, x41.map (AV.int .i64)⟩], [⟨.ptr i0 w0 0 0, 5, [.agg [m100, m101, m102, m103, .int .i64 x4]]⟩], (inx np_SInt (AV.int .i64) 1 d39 x38 a0.At.toNat)]) (F := F) hS 8 rfl [0, 3, 7, 1, 2, 4, 5, 6] (by decide)
          obtain ⟨d120, qd120, hS⟩ := closeN0 (p := np_SInt) (c := (AV.int .i64)) (m := nm_SInt) (b := b107) hS qd39 qv108 hb107
          have hS : Own _ (⟨v37, 1, x36.map (AV.int .i64)⟩ :: ⟨m100, 1, a0.Quanta.map (AV.int .i64)⟩ :: ⟨m101, 1, ouw nm_SInt d120 x38⟩ :: ⟨m102, 1, (x40.set a0.At.toNat 0).map (AV.int .i64)⟩ :: ⟨m103, 1, x41.map (AV.int .i64)⟩ :: ⟨.ptr i0 w0 0 0, 5, [.agg [m100, m101, m102, m103, .int .i64 x4]]⟩ :: ((inn np_SInt (AV.int .i64) 1 d120 x38) ++ (F))) := Own.catI_ (bl := [[⟨m101, 1, ouw nm_SInt d120 x38⟩], (inn np_SInt (AV.int .i64) 1 d120 x38), [⟨v37, 1, x36.map (AV.int .i64)⟩], [⟨m100, 1, a0.Quanta.map (AV.int .i64)⟩], [⟨m102, 1, (x40.set a0.At.toNat 0).map (AV.int .i64)⟩], [⟨m103, 1, x41.map (AV.int .i64)⟩], [⟨.ptr i0 w0 0 0, 5, [.agg [m100, m101, m102, m103, .int .i64 x4]]⟩]]) (F := F) hS 7 rfl [2, 3, 0, 4, 5, 6, 1] (by decide)
          exact cut_n hK116 ⟨_, (Option.some.inj h).symm, _, qd120, rfl, hS⟩
        · refine w_skip ?_
          refine seq_n hK117 ?_
          refine w_killE (s' := (.ptr i0 w0 0 0 :: u :: u :: u :: .int .i64 a0.At :: v37 :: u :: u :: u :: u :: u :: u :: u :: u :: u :: u :: u :: u :: u :: u :: u :: u :: u :: u :: u :: u :: u :: u :: u :: u :: u :: u :: u :: u :: u :: u :: u :: u :: u :: u :: u :: u :: u :: u :: u :: u :: u :: u :: u :: u :: u :: u :: u :: u :: u :: u :: u :: u :: u :: u :: u :: u :: u :: u :: u :: u :: u :: u :: u :: u :: u :: u :: u :: u :: u :: u :: u :: u :: u :: u :: u :: u :: u :: u :: u :: u :: u :: u :: u :: u :: u :: u :: u :: u :: u :: u :: u :: u :: u :: u :: u :: u :: u :: u :: u :: u :: u :: u :: u :: u :: u :: u :: u :: u :: u :: u :: u :: u :: u :: u :: u :: u :: u :: u :: u :: u :: u :: u :: u :: u :: u :: u :: u :: u :: u :: u :: u :: u :: u :: u :: u :: u :: u :: u :: u :: u :: u :: [])) rfl ?_
          have hS : Own _ (⟨v108, 1, b107.map (AV.int .i64)⟩ :: ⟨m101, 1, (ouw nm_SInt d39 x38).set a0.At.toNat (v108)⟩ :: ((inx np_SInt (AV.int .i64) 1 d39 x38 a0.At.toNat) ++ (⟨v37, 1, x36.map (AV.int .i64)⟩ :: ⟨m100, 1, a0.Quanta.map (AV.int .i64)⟩ :: ⟨m102, 1, x40.map (AV.int .i64)⟩ :: ⟨m103, 1, x41.map (AV.int .i64)⟩ :: ⟨.ptr i0 w0 0 0, 5, [.agg [m100, m101, m102, m103, .int .i64 x4]]⟩ :: F))) := Own.catI_ (bl := [[⟨v108, 1, b107.map (AV.int .i64)⟩], [⟨v37, 1, x36.map (AV.int .i64)⟩], [⟨m100, 1, a0.Quanta.map (AV.int .i64)⟩], [⟨m101, 1, (ouw nm_SInt d39 x38).set a0.At.toNat (v108)⟩], [⟨m102, 1, x40.map (AV.int .i64)⟩], [⟨m103, 1, x41.map (AV.int .i64)⟩], [⟨.ptr i0 w0 0 0, 5, [.agg [m100, m101, m102, m103, .int .i64 x4]]⟩], (inx np_SInt (AV.int .i64) 1 d39 x38 a0.At.toNat)]) (F := F) hS 8 rfl [0, 3, 7, 1, 2, 4, 5, 6] (by decide)
          obtain ⟨d121, qd121, hS⟩ := closeN0 (p := np_SInt) (c := (AV.int .i64)) (m := nm_SInt) (b := b107) hS qd39 qv108 hb107
          have hS : Own _ (⟨v37, 1, x36.map (AV.int .i64)⟩ :: ⟨m100, 1, a0.Quanta.map (AV.int .i64)⟩ :: ⟨m101, 1, ouw nm_SInt d121 x38⟩ :: ⟨m102, 1, x40.map (AV.int .i64)⟩ :: ⟨m103, 1, x41.map (AV.int .i64)⟩ :: ⟨.ptr i0 w0 0 0, 5, [.agg [m100, m101, m102, m103, .int .i64 x4]]⟩ :: ((inn np_SInt (AV.int .i64) 1 d121 x38) ++ (F))) := Own.catI_ (bl := [[⟨m101, 1, ouw nm_SInt d121 x38⟩], (inn np_SInt (AV.int .i64) 1 d121 x38), [⟨v37, 1, x36.map (AV.int .i64)⟩], [⟨m100, 1, a0.Quanta.map (AV.int .i64)⟩], [⟨m102, 1, x40.map (AV.int .i64)⟩], [⟨m103, 1, x41.map (AV.int .i64)⟩], [⟨.ptr i0 w0 0 0, 5, [.agg [m100, m101, m102, m103, .int .i64 x4]]⟩]]) (F := F) hS 7 rfl [2, 3, 0, 4, 5, 6, 1] (by decide)
          exact cut_n hK116 ⟨_, (Option.some.inj h).symm, _, qd121, rfl, hS⟩
      · obtain ⟨x113, ey, d112, qd112, rfl, hS⟩ := hq; obtain rfl := ey.symm
        replace h := g115
        try dsimp only at h
        refine seq_n hK104 ?_
        refine w_seq fun K122 hK122 => ?_
        refine w_draw0 gC (by kernel_rfl) ?_
        try simp only [W, EE, Nat.reduceAdd, Nat.reduceBEq, hS.var 5 rfl]
        refine w_ow 4 hS rfl rfl rfl rfl rfl h (fun b123 in124 wn124 on124 hb123 h en124 => ?_) qm103.ne
        obtain ⟨kn124, hbn124, hen124⟩ := hS.elem 4 rfl en124 hb123
        try simp only [W, EE, hbn124, hen124]
        refine seq_n hK122 ?_
        refine w_ret ?_
        refine fin_r2 hK0 rfl rfl ?_
        try obtain rfl := Option.some.inj h
        have hS : Own _ (⟨v37, 1, x36.map (AV.int .i64)⟩ :: ⟨.ptr i0 w0 0 0, 5, [.agg [m100, m101, m102, m103, .int .i64 x4]]⟩ :: ⟨m100, 1, a0.Quanta.map (AV.int .i64)⟩ :: ⟨m101, 1, ouw nm_SInt d112 x38⟩ :: ⟨m102, 1, x113.map (AV.int .i64)⟩ :: ⟨m103, 1, x41.map (AV.int .i64)⟩ :: ((inn np_SInt (AV.int .i64) 1 d112 x38) ++ (F))) := Own.catI_ (bl := [[⟨v37, 1, x36.map (AV.int .i64)⟩], [⟨m100, 1, a0.Quanta.map (AV.int .i64)⟩], [⟨m101, 1, ouw nm_SInt d112 x38⟩], [⟨m102, 1, x113.map (AV.int .i64)⟩], [⟨m103, 1, x41.map (AV.int .i64)⟩], [⟨.ptr i0 w0 0 0, 5, [.agg [m100, m101, m102, m103, .int .i64 x4]]⟩], (inn np_SInt (AV.int .i64) 1 d112 x38)]) (F := F) hS 7 rfl [0, 5, 1, 2, 3, 4, 6] (by decide)
        exact hP _ qv37 _ qm100 _ qm101 _ qd112 _ qm102 _ qm103 _ hS
theorem impl_RunTurns_w {a0 : Turns} {a1 : Int} {r : (Turns × Bool)} (h : impl_RunTurns a0 a1 = some r) {F : List It} {H : Heap} (hS : Own H (F)) {P : AV → Heap → Prop} (hP : ∀ v95 : AV, isSl v95 → ∀ v97 : AV, isSl v97 → ∀ d99 : List AV, isSls d99 (r.1.Queues).length → ∀ v100 : AV, isSl v100 → ∀ v102 : AV, isSl v102 → ∀ H', Own H' (⟨v95, 1, r.1.Quanta.map (AV.int .i64)⟩ :: ⟨v97, 1, ouw nm_SInt d99 r.1.Queues⟩ :: ⟨v100, 1, r.1.Credit.map (AV.int .i64)⟩ :: ⟨v102, 1, r.1.Sent.map (AV.int .i64)⟩ :: ((inn np_SInt (AV.int .i64) 1 d99 r.1.Queues) ++ F)) → P (.tup [.agg [v95, v97, v100, v102, .int .i64 r.1.At], .bool r.2]) H') : ACall C 28 [.agg [.fz (a0.Quanta.map (AV.int .i64)), .fz (a0.Queues.map (fzl (AV.int .i64))), .fz (a0.Credit.map (AV.int .i64)), .fz (a0.Sent.map (AV.int .i64)), .int .i64 a0.At], .int .i64 a1] H P := by
  refine acall_of gC (res := [.cell 4 27, .tmp 5]) (n := 32) rfl rfl rfl rfl fun K0 hK0 => ?_
  simp only [W, Nat.reduceSub, Nat.reduceAdd, List.replicate]
  unfold impl_RunTurns at h
  refine w_seq fun K1 hK1 => ?_
  refine w_reg gC ?_
  try simp only [W, Nat.reduceAdd]
  refine w_box hS rfl rfl rfl rfl fun ip2 wp2 H hS => ?_
  try simp only [W]
  refine w_alloc hS rfl rfl fun ip4 wp4 H hS => ?_
  try simp only [W]
  refine seq_n hK1 ?_
  refine w_seq fun K6 hK6 => ?_
  refine w_seq fun K7 hK7 => ?_
  obtain ⟨y9, h, g10⟩ := Option.bind_eq_some_iff.1 h
  refine w_join gC (fun s H => ∃ x8 : Bool, y9 = (x8) ∧ s = [u, .int .i64 a1, .ptr ip2 wp2 0 0, u, .ptr ip4 wp4 0 0, u, u, u, u, u, u, u, u, u, u, u, .bool x8, u, u, u, u, u, u, u, u, u, u, u, u, u, u, u] ∧ Own H (⟨.ptr ip2 wp2 0 0, 5, [.agg [.fz (a0.Quanta.map (AV.int .i64)), .fz (a0.Queues.map (fzl (AV.int .i64))), .fz (a0.Credit.map (AV.int .i64)), .fz (a0.Sent.map (AV.int .i64)), .int .i64 a0.At]]⟩ :: ⟨.ptr ip4 wp4 0 0, 5, [.agg [.nil, .nil, .nil, .nil, .int .i64 0]]⟩ :: F)) (fun K11 hK11 => ?_) (fun s H hq => ?_)
  · refine w_seq fun K12 hK12 => ?_
    refine w_reg gC ?_
    try simp only [W, EE, reduceIte, Nat.reduceAdd, Nat.reduceLeDiff, hS.var 1 rfl]
    refine w_call h fun b13 hb13 h => ?_
    refine impl_GoodTurns_w hb13 hS fun H hS => ?_
    try simp only [W]
    refine w_grdT h (fun hc h => ?_) (fun hc h => ?_)
    · try simp only [W, hc]
      refine seq_n hK12 ?_
      refine w_kill ?_
      exact cut_n hK11 ⟨_, (Option.some.inj h).symm, rfl, (hS.sel 2 [1, 0] (by decide))⟩
    · try simp only [W, hc]
      refine w_call h fun b14 hb14 h => ?_
      refine impl_in_w hb14 hS fun H hS => ?_
      try simp only [W, reduceIte, Bool.false_eq_true]
      refine seq_n hK12 ?_
      refine w_kill ?_
      exact cut_n hK11 ⟨_, (Option.some.inj h).symm, rfl, (hS.sel 2 [1, 0] (by decide))⟩
  · obtain ⟨x8, ey, rfl, hS⟩ := hq; obtain rfl := ey.symm
    replace h := g10
    try dsimp only at h
    refine seq_n hK7 ?_
    refine w_if ?_
    simp only [W]
    refine w_cnd h (fun hc h => ?_) (fun hc h => ?_)
    · refine w_seq fun K15 hK15 => ?_
      refine w_reg gC ?_
      try simp only [W, EE, Nat.reduceAdd]
      refine w_bld rfl rfl rfl rfl rfl ?_
      try simp only [W]
      refine w_stv (a := .agg [.nil, .nil, .nil, .nil, .int .i64 0]) (y' := .agg [.nil, .nil, .nil, .nil, .int .i64 0]) 1 hS rfl rfl rfl rfl rfl rfl rfl rfl fun H hS => ?_
      try simp only [W]
      refine seq_n hK15 ?_
      refine w_ret ?_
      refine seq_r hK6 ?_
      have hS := hS.nil_ 1
      have hS := hS.nil_ 1
      obtain ⟨d18, qd18, hS⟩ := noneN (p := np_SInt) (c := (AV.int .i64)) (z := 1) (m := nm_SInt) hS
      have hS : Own _ (⟨AV.nil, 1, ouw nm_SInt d18 ([] : List (List Int))⟩ :: ⟨AV.nil, 1, ([] : List Int).map (AV.int .i64)⟩ :: ⟨.ptr ip2 wp2 0 0, 5, [.agg [.fz (a0.Quanta.map (AV.int .i64)), .fz (a0.Queues.map (fzl (AV.int .i64))), .fz (a0.Credit.map (AV.int .i64)), .fz (a0.Sent.map (AV.int .i64)), .int .i64 a0.At]]⟩ :: ⟨.ptr ip4 wp4 0 0, 5, [.agg [.nil, .nil, .nil, .nil, .int .i64 0]]⟩ :: ((inn np_SInt (AV.int .i64) 1 d18 ([] : List (List Int))) ++ (F))) := Own.catI_ (bl := [[⟨AV.nil, 1, ouw nm_SInt d18 ([] : List (List Int))⟩], (inn np_SInt (AV.int .i64) 1 d18 ([] : List (List Int))), [⟨AV.nil, 1, ([] : List Int).map (AV.int .i64)⟩], [⟨.ptr ip2 wp2 0 0, 5, [.agg [.fz (a0.Quanta.map (AV.int .i64)), .fz (a0.Queues.map (fzl (AV.int .i64))), .fz (a0.Credit.map (AV.int .i64)), .fz (a0.Sent.map (AV.int .i64)), .int .i64 a0.At]]⟩], [⟨.ptr ip4 wp4 0 0, 5, [.agg [.nil, .nil, .nil, .nil, .int .i64 0]]⟩]]) (F := F) hS 5 rfl [0, 2, 3, 4, 1] (by decide)
      have hS := hS.nil_ 1
      have hS := hS.nil_ 1
      refine fin_r hK0 (res_c rfl rfl (hS.var 5 rfl) rfl (res_tc rfl rfl)) ?_
      try obtain rfl := Option.some.inj h
      have hS : Own _ (⟨AV.nil, 1, ([] : List Int).map (AV.int .i64)⟩ :: ⟨AV.nil, 1, ouw nm_SInt d18 ([] : List (List Int))⟩ :: ⟨AV.nil, 1, ([] : List Int).map (AV.int .i64)⟩ :: ⟨AV.nil, 1, ([] : List Int).map (AV.int .i64)⟩ :: ((inn np_SInt (AV.int .i64) 1 d18 ([] : List (List Int))) ++ (F))) := Own.catI_ (bl := [[⟨AV.nil, 1, ([] : List Int).map (AV.int .i64)⟩], [⟨AV.nil, 1, ([] : List Int).map (AV.int .i64)⟩], [⟨AV.nil, 1, ouw nm_SInt d18 ([] : List (List Int))⟩], [⟨AV.nil, 1, ([] : List Int).map (AV.int .i64)⟩], [⟨.ptr ip2 wp2 0 0, 5, [.agg [.fz (a0.Quanta.map (AV.int .i64)), .fz (a0.Queues.map (fzl (AV.int .i64))), .fz (a0.Credit.map (AV.int .i64)), .fz (a0.Sent.map (AV.int .i64)), .int .i64 a0.At]]⟩], [⟨.ptr ip4 wp4 0 0, 5, [.agg [.nil, .nil, .nil, .nil, .int .i64 0]]⟩], (inn np_SInt (AV.int .i64) 1 d18 ([] : List (List Int)))]) (F := F) hS 7 rfl [3, 2, 1, 0, 6] (by decide)
      exact hP _ isSl_nil _ isSl_nil _ qd18 _ isSl_nil _ isSl_nil _ hS
    · refine w_skip ?_
      refine seq_n hK6 ?_
      refine w_seq fun K21 hK21 => ?_
      refine w_reg gC ?_
      try simp only [W, EE, reduceIte, Nat.reduceAdd, Nat.reduceLeDiff, hS.var 0 rfl]
      refine w_call h fun b22 hb22 h => ?_
      refine impl_Turns_copied_w hb22 hS fun v23 qv23 v25 qv25 d27 qd27 v28 qv28 v30 qv30 H hS => ?_
      have hS : Own _ (⟨v23, 1, b22.Quanta.map (AV.int .i64)⟩ :: ⟨v25, 1, ouw nm_SInt d27 b22.Queues⟩ :: ⟨v28, 1, b22.Credit.map (AV.int .i64)⟩ :: ⟨v30, 1, b22.Sent.map (AV.int .i64)⟩ :: ⟨.ptr ip2 wp2 0 0, 5, [.agg [.fz (a0.Quanta.map (AV.int .i64)), .fz (a0.Queues.map (fzl (AV.int .i64))), .fz (a0.Credit.map (AV.int .i64)), .fz (a0.Sent.map (AV.int .i64)), .int .i64 a0.At]]⟩ :: ⟨.ptr ip4 wp4 0 0, 5, [.agg [.nil, .nil, .nil, .nil, .int .i64 0]]⟩ :: ((inn np_SInt (AV.int .i64) 1 d27 b22.Queues) ++ (F))) := Own.catI_ (bl := [[⟨v23, 1, b22.Quanta.map (AV.int .i64)⟩], [⟨v25, 1, ouw nm_SInt d27 b22.Queues⟩], [⟨v28, 1, b22.Credit.map (AV.int .i64)⟩], [⟨v30, 1, b22.Sent.map (AV.int .i64)⟩], (inn np_SInt (AV.int .i64) 1 d27 b22.Queues), [⟨.ptr ip2 wp2 0 0, 5, [.agg [.fz (a0.Quanta.map (AV.int .i64)), .fz (a0.Queues.map (fzl (AV.int .i64))), .fz (a0.Credit.map (AV.int .i64)), .fz (a0.Sent.map (AV.int .i64)), .int .i64 a0.At]]⟩], [⟨.ptr ip4 wp4 0 0, 5, [.agg [.nil, .nil, .nil, .nil, .int .i64 0]]⟩]]) (F := F) hS 7 rfl [0, 1, 2, 3, 5, 6, 4] (by decide)
      try simp only [W]
      refine w_alloc hS rfl rfl fun ip32 wp32 H hS => ?_
      try simp only [W]
      refine w_stv (a := .agg [v23, v25, v28, v30, .int .i64 b22.At]) (y' := .agg [v23, v25, v28, v30, .int .i64 b22.At]) 0 hS rfl rfl rfl rfl rfl (by simp only [storA, List.all_cons, List.all_nil, qv23.stor, qv25.stor, qv28.stor, qv30.stor]; rfl) rfl rfl fun H hS => ?_
      try simp only [W]
      refine seq_n hK21 ?_
      refine w_seq fun K34 hK34 => ?_
      refine w_seq fun K35 hK35 => ?_
      refine w_reg gC ?_
      try simp only [W, Nat.reduceAdd]
      refine seq_n hK35 ?_
      obtain ⟨y57, hw58, g64⟩ := Option.bind_eq_some_iff.1 h
      refine w_join gC (fun s H => ∃ x47 : List Int, ∃ x49 : List (List Int), ∃ x52 : List Int, ∃ x54 : List Int, ∃ x56 : Int, y57 = LR.next (x47, x49, x52, x54, x56) ∧ ∃ v48 : AV, isSl v48 ∧ ∃ v50 : AV, isSl v50 ∧ ∃ v53 : AV, isSl v53 ∧ ∃ v55 : AV, isSl v55 ∧ ∃ d51 : List AV, isSls d51 (x49).length ∧ s = [u, u, u, u, .ptr ip4 wp4 0 0, u, .ptr ip32 wp32 0 0, u, u, u, u, u, u, u, u, u, u, u, u, u, u, u, u, u, u, u, u, u, u, u, u, u] ∧ Own H (⟨v48, 1, x47.map (AV.int .i64)⟩ :: ⟨v50, 1, ouw nm_SInt d51 x49⟩ :: ⟨v53, 1, x52.map (AV.int .i64)⟩ :: ⟨v55, 1, x54.map (AV.int .i64)⟩ :: ⟨.ptr ip4 wp4 0 0, 5, [.agg [.nil, .nil, .nil, .nil, .int .i64 0]]⟩ :: ⟨.ptr ip32 wp32 0 0, 5, [.agg [v48, v50, v53, v55, .int .i64 x56]]⟩ :: ((inn np_SInt (AV.int .i64) 1 d51 x49) ++ F))) (fun K59 hK59 => ?_) (fun s H hq => ?_)
      · refine w_blk fun K60 hK60 => ?_
        have hS : Own _ (⟨v23, 1, b22.Quanta.map (AV.int .i64)⟩ :: ⟨v25, 1, ouw nm_SInt d27 b22.Queues⟩ :: ⟨v28, 1, b22.Credit.map (AV.int .i64)⟩ :: ⟨v30, 1, b22.Sent.map (AV.int .i64)⟩ :: ⟨.ptr ip4 wp4 0 0, 5, [.agg [.nil, .nil, .nil, .nil, .int .i64 0]]⟩ :: ⟨.ptr ip32 wp32 0 0, 5, [.agg [v23, v25, v28, v30, .int .i64 b22.At]]⟩ :: ((inn np_SInt (AV.int .i64) 1 d27 b22.Queues) ++ (F))) := Own.catI_ (bl := [[⟨.ptr ip32 wp32 0 0, 5, [.agg [v23, v25, v28, v30, .int .i64 b22.At]]⟩], [⟨v23, 1, b22.Quanta.map (AV.int .i64)⟩], [⟨v25, 1, ouw nm_SInt d27 b22.Queues⟩], [⟨v28, 1, b22.Credit.map (AV.int .i64)⟩], [⟨v30, 1, b22.Sent.map (AV.int .i64)⟩], [⟨.ptr ip2 wp2 0 0, 5, [.agg [.fz (a0.Quanta.map (AV.int .i64)), .fz (a0.Queues.map (fzl (AV.int .i64))), .fz (a0.Credit.map (AV.int .i64)), .fz (a0.Sent.map (AV.int .i64)), .int .i64 a0.At]]⟩], [⟨.ptr ip4 wp4 0 0, 5, [.agg [.nil, .nil, .nil, .nil, .int .i64 0]]⟩], (inn np_SInt (AV.int .i64) 1 d27 b22.Queues)]) (F := F) hS 8 rfl [1, 2, 3, 4, 6, 0, 7] (by decide)
        refine w_loop gC hw58 (fun x s H => match x with | (x36, x37, x39, x42, x44, x46) => ∃ v38 : AV, isSl v38 ∧ ∃ v40 : AV, isSl v40 ∧ ∃ v43 : AV, isSl v43 ∧ ∃ v45 : AV, isSl v45 ∧ ∃ d41 : List AV, isSls d41 (x39).length ∧ s = [u, u, u, u, .ptr ip4 wp4 0 0, u, .ptr ip32 wp32 0 0, u, u, u, u, u, u, u, u, u, u, u, u, u, .int .i64 a1, .int .i64 x36, u, u, u, u, u, u, u, u, u, u] ∧ Own H (⟨v38, 1, x37.map (AV.int .i64)⟩ :: ⟨v40, 1, ouw nm_SInt d41 x39⟩ :: ⟨v43, 1, x42.map (AV.int .i64)⟩ :: ⟨v45, 1, x44.map (AV.int .i64)⟩ :: ⟨.ptr ip4 wp4 0 0, 5, [.agg [.nil, .nil, .nil, .nil, .int .i64 0]]⟩ :: ⟨.ptr ip32 wp32 0 0, 5, [.agg [v38, v40, v43, v45, .int .i64 x46]]⟩ :: ((inn np_SInt (AV.int .i64) 1 d41 x39) ++ F))) ⟨_, qv23, _, qv25, _, qv28, _, qv30, _, qd27, rfl, hS⟩ (fun x y63 s H h hd62 hi K61 hK61 => ?_)
        obtain ⟨x36, x37, x39, x42, x44, x46⟩ := x
        try dsimp only at hi
        obtain ⟨v38, qv38, v40, qv40, v43, qv43, v45, qv45, d41, qd41, rfl, hS⟩ := hi
        simp only [impl_RunTurns_l0] at h
        refine w_seq fun K65 hK65 => ?_
        refine w_reg gC ?_
        try simp only [W, EE, Nat.reduceAdd]
        refine seq_n hK65 ?_
        refine w_seq fun K66 hK66 => ?_
        refine w_if ?_
        simp only [W]
        refine w_cnd h (fun hc h => ?_) (fun hc h => ?_)
        · refine w_skip ?_
          refine seq_n hK66 ?_
          refine w_seq fun K67 hK67 => ?_
          refine w_blk fun K68 hK68 => ?_
          refine w_seq fun K69 hK69 => ?_
          refine w_reg gC ?_
          try simp only [W, Nat.reduceAdd]
          have hS : Own _ (⟨.ptr ip32 wp32 0 0, 5, [.agg [v38, v40, v43, v45, .int .i64 x46]]⟩ :: ⟨v38, 1, x37.map (AV.int .i64)⟩ :: ⟨v40, 1, ouw nm_SInt d41 x39⟩ :: ⟨v43, 1, x42.map (AV.int .i64)⟩ :: ⟨v45, 1, x44.map (AV.int .i64)⟩ :: ((inn np_SInt (AV.int .i64) 1 d41 x39) ++ (⟨.ptr ip4 wp4 0 0, 5, [.agg [.nil, .nil, .nil, .nil, .int .i64 0]]⟩ :: F))) := Own.catI_ (bl := [[⟨v38, 1, x37.map (AV.int .i64)⟩], [⟨v40, 1, ouw nm_SInt d41 x39⟩], [⟨v43, 1, x42.map (AV.int .i64)⟩], [⟨v45, 1, x44.map (AV.int .i64)⟩], [⟨.ptr ip4 wp4 0 0, 5, [.agg [.nil, .nil, .nil, .nil, .int .i64 0]]⟩], [⟨.ptr ip32 wp32 0 0, 5, [.agg [v38, v40, v43, v45, .int .i64 x46]]⟩], (inn np_SInt (AV.int .i64) 1 d41 x39)]) (F := F) hS 7 rfl [5, 0, 1, 2, 3, 6, 4] (by decide)
          refine w_call h fun b70 hb70 h => ?_
          obtain ⟨b71, b72, b73⟩ := b70
          try dsimp only at h
          refine impl_Turns_turn_w hb70 hS qv38 qv40 qd41 qv43 qv45 fun v79 qv79 v74 qv74 v75 qv75 d76 qd76 v77 qv77 v78 qv78 H hS => ?_
          have hS : Own _ (⟨v79, 1, b71.map (AV.int .i64)⟩ :: ⟨.ptr ip32 wp32 0 0, 5, [.agg [v74, v75, v77, v78, .int .i64 b73.At]]⟩ :: ⟨v74, 1, b73.Quanta.map (AV.int .i64)⟩ :: ⟨v75, 1, ouw nm_SInt d76 b73.Queues⟩ :: ⟨v77, 1, b73.Credit.map (AV.int .i64)⟩ :: ⟨v78, 1, b73.Sent.map (AV.int .i64)⟩ :: ⟨.ptr ip4 wp4 0 0, 5, [.agg [.nil, .nil, .nil, .nil, .int .i64 0]]⟩ :: ((inn np_SInt (AV.int .i64) 1 d76 b73.Queues) ++ (F))) := Own.catI_ (bl := [[⟨v79, 1, b71.map (AV.int .i64)⟩], [⟨.ptr ip32 wp32 0 0, 5, [.agg [v74, v75, v77, v78, .int .i64 b73.At]]⟩], [⟨v74, 1, b73.Quanta.map (AV.int .i64)⟩], [⟨v75, 1, ouw nm_SInt d76 b73.Queues⟩], [⟨v77, 1, b73.Credit.map (AV.int .i64)⟩], [⟨v78, 1, b73.Sent.map (AV.int .i64)⟩], (inn np_SInt (AV.int .i64) 1 d76 b73.Queues), [⟨.ptr ip4 wp4 0 0, 5, [.agg [.nil, .nil, .nil, .nil, .int .i64 0]]⟩]]) (F := F) hS 8 rfl [0, 1, 2, 3, 4, 5, 7, 6] (by decide)
          try simp only [W]
          refine seq_n hK69 ?_
          refine w_seq fun K81 hK81 => ?_
          refine w_reg gC ?_
          try simp only [W, Nat.reduceAdd]
          refine seq_n hK81 ?_
          refine w_if ?_
          simp only [W]
          refine w_cnd h (fun hc h => ?_) (fun hc h => ?_)
          · refine w_seq fun K82 hK82 => ?_
            refine w_reg gC ?_
            try simp only [W, EE, Nat.reduceAdd]
            refine w_bld rfl rfl rfl rfl rfl ?_
            try simp only [W]
            refine w_stv (a := .agg [.nil, .nil, .nil, .nil, .int .i64 0]) (y' := .agg [.nil, .nil, .nil, .nil, .int .i64 0]) 6 hS rfl rfl rfl rfl rfl rfl rfl rfl fun H hS => ?_
            try simp only [W]
            refine seq_n hK82 ?_
            refine w_ret ?_
            refine blk_r hK68 ?_
            refine seq_r hK67 ?_
            try obtain rfl := Option.some.inj h
            obtain rfl := hd62 _ rfl
            have h : (some (LR.done ((⟨([] : List Int), ([] : List (List Int)), ([] : List Int), ([] : List Int), 0⟩ : Turns), false)) : Option (LR ((List Int) × (List (List Int)) × (List Int) × (List Int) × Int) (Turns × Bool))) = some (LR.done ((⟨([] : List Int), ([] : List (List Int)), ([] : List Int), ([] : List Int), 0⟩ : Turns), false)) := rfl
            refine lp_r hK61 ?_
            refine blk_r hK60 ?_
            try obtain rfl := Option.some.inj h
            obtain rfl := Option.some.inj g64
            have h : (some ((⟨([] : List Int), ([] : List (List Int)), ([] : List Int), ([] : List Int), 0⟩ : Turns), false) : Option (Turns × Bool)) = some ((⟨([] : List Int), ([] : List (List Int)), ([] : List Int), ([] : List Int), 0⟩ : Turns), false) := rfl
            refine cut_r hK59 ?_
            refine seq_r hK34 ?_
            have hS := hS.nil_ 1
            have hS := hS.nil_ 1
            obtain ⟨d85, qd85, hS⟩ := noneN (p := np_SInt) (c := (AV.int .i64)) (z := 1) (m := nm_SInt) hS
            have hS : Own _ (⟨AV.nil, 1, ouw nm_SInt d85 ([] : List (List Int))⟩ :: ⟨AV.nil, 1, ([] : List Int).map (AV.int .i64)⟩ :: ⟨v79, 1, b71.map (AV.int .i64)⟩ :: ⟨.ptr ip32 wp32 0 0, 5, [.agg [v74, v75, v77, v78, .int .i64 b73.At]]⟩ :: ⟨v74, 1, b73.Quanta.map (AV.int .i64)⟩ :: ⟨v75, 1, ouw nm_SInt d76 b73.Queues⟩ :: ⟨v77, 1, b73.Credit.map (AV.int .i64)⟩ :: ⟨v78, 1, b73.Sent.map (AV.int .i64)⟩ :: ⟨.ptr ip4 wp4 0 0, 5, [.agg [.nil, .nil, .nil, .nil, .int .i64 0]]⟩ :: ((inn np_SInt (AV.int .i64) 1 d85 ([] : List (List Int))) ++ (((inn np_SInt (AV.int .i64) 1 d76 b73.Queues) ++ (F))))) := Own.catI_ (bl := [[⟨AV.nil, 1, ouw nm_SInt d85 ([] : List (List Int))⟩], (inn np_SInt (AV.int .i64) 1 d85 ([] : List (List Int))), [⟨AV.nil, 1, ([] : List Int).map (AV.int .i64)⟩], [⟨v79, 1, b71.map (AV.int .i64)⟩], [⟨.ptr ip32 wp32 0 0, 5, [.agg [v74, v75, v77, v78, .int .i64 b73.At]]⟩], [⟨v74, 1, b73.Quanta.map (AV.int .i64)⟩], [⟨v75, 1, ouw nm_SInt d76 b73.Queues⟩], [⟨v77, 1, b73.Credit.map (AV.int .i64)⟩], [⟨v78, 1, b73.Sent.map (AV.int .i64)⟩], [⟨.ptr ip4 wp4 0 0, 5, [.agg [.nil, .nil, .nil, .nil, .int .i64 0]]⟩], (inn np_SInt (AV.int .i64) 1 d76 b73.Queues)]) (F := F) hS 11 rfl [0, 2, 3, 4, 5, 6, 7, 8, 9, 1, 10] (by decide)
            have hS := hS.nil_ 1
            have hS := hS.nil_ 1
            refine fin_r hK0 (res_c rfl rfl (hS.var 10 rfl) rfl (res_tc rfl rfl)) ?_
            try obtain rfl := Option.some.inj h
            have hS : Own _ (⟨AV.nil, 1, ([] : List Int).map (AV.int .i64)⟩ :: ⟨AV.nil, 1, ouw nm_SInt d85 ([] : List (List Int))⟩ :: ⟨AV.nil, 1, ([] : List Int).map (AV.int .i64)⟩ :: ⟨AV.nil, 1, ([] : List Int).map (AV.int .i64)⟩ :: ((inn np_SInt (AV.int .i64) 1 d85 ([] : List (List Int))) ++ (F))) := Own.catI_ (bl := [[⟨AV.nil, 1, ([] : List Int).map (AV.int .i64)⟩], [⟨AV.nil, 1, ([] : List Int).map (AV.int .i64)⟩], [⟨AV.nil, 1, ouw nm_SInt d85 ([] : List (List Int))⟩], [⟨AV.nil, 1, ([] : List Int).map (AV.int .i64)⟩], [⟨v79, 1, b71.map (AV.int .i64)⟩], [⟨.ptr ip32 wp32 0 0, 5, [.agg [v74, v75, v77, v78, .int .i64 b73.At]]⟩], [⟨v74, 1, b73.Quanta.map (AV.int .i64)⟩], [⟨v75, 1, ouw nm_SInt d76 b73.Queues⟩], [⟨v77, 1, b73.Credit.map (AV.int .i64)⟩], [⟨v78, 1, b73.Sent.map (AV.int .i64)⟩], [⟨.ptr ip4 wp4 0 0, 5, [.agg [.nil, .nil, .nil, .nil, .int .i64 0]]⟩], (inn np_SInt (AV.int .i64) 1 d85 ([] : List (List Int))), (inn np_SInt (AV.int .i64) 1 d76 b73.Queues)]) (F := F) hS 13 rfl [3, 2, 1, 0, 11] (by decide)
            exact hP _ isSl_nil _ isSl_nil _ qd85 _ isSl_nil _ isSl_nil _ hS
          · refine w_skip ?_
            refine blk_n0 hK68 ?_
            refine seq_n hK67 ?_
            refine w_reg gC ?_
            try simp only [W, EE, Nat.reduceAdd]
            have hS : Own _ (⟨v74, 1, b73.Quanta.map (AV.int .i64)⟩ :: ⟨v75, 1, ouw nm_SInt d76 b73.Queues⟩ :: ⟨v77, 1, b73.Credit.map (AV.int .i64)⟩ :: ⟨v78, 1, b73.Sent.map (AV.int .i64)⟩ :: ⟨.ptr ip4 wp4 0 0, 5, [.agg [.nil, .nil, .nil, .nil, .int .i64 0]]⟩ :: ⟨.ptr ip32 wp32 0 0, 5, [.agg [v74, v75, v77, v78, .int .i64 b73.At]]⟩ :: ((inn np_SInt (AV.int .i64) 1 d76 b73.Queues) ++ (F))) := Own.catI_ (bl := [[⟨v79, 1, b71.map (AV.int .i64)⟩], [⟨.ptr ip32 wp32 0 0, 5, [.agg [v74, v75, v77, v78, .int .i64 b73.At]]⟩], [⟨v74, 1, b73.Quanta.map (AV.int .i64)⟩], [⟨v75, 1, ouw nm_SInt d76 b73.Queues⟩], [⟨v77, 1, b73.Credit.map (AV.int .i64)⟩], [⟨v78, 1, b73.Sent.map (AV.int .i64)⟩], [⟨.ptr ip4 wp4 0 0, 5, [.agg [.nil, .nil, .nil, .nil, .int .i64 0]]⟩], (inn np_SInt (AV.int .i64) 1 d76 b73.Queues)]) (F := F) hS 8 rfl [2, 3, 4, 5, 6, 1, 7] (by decide)
            exact lp_n hK61 h ⟨_, qv74, _, qv75, _, qv77, _, qv78, _, qd76, rfl, hS⟩
        · refine w_exit ?_
          refine seq_x hK66 ?_
          try obtain rfl := Option.some.inj h
          obtain rfl := hd62 _ rfl
          have h : (some (LR.next (x37, x39, x42, x44, x46)) : Option (LR ((List Int) × (List (List Int)) × (List Int) × (List Int) × Int) (Turns × Bool))) = some (LR.next (x37, x39, x42, x44, x46)) := rfl
          refine lp_x hK61 ?_
          refine blk_e hK60 ?_
          exact cut_n hK59 ⟨_, _, _, _, _, (Option.some.inj h).symm, _, qv38, _, qv40, _, qv43, _, qv45, _, qd41, rfl, hS⟩
      · obtain ⟨x47, x49, x52, x54, x56, rfl, v48, qv48, v50, qv50, v53, qv53, v55, qv55, d51, qd51, rfl, hS⟩ := hq
        replace h := g64
        try dsimp only at h
        refine seq_n hK34 ?_
        refine w_seq fun K94 hK94 => ?_
        refine w_reg gC ?_
        try simp only [W, EE, reduceIte, Nat.reduceAdd, Nat.reduceLeDiff, hS.var 5 rfl]
        refine w_stv (a := .agg [v48, v50, v53, v55, .int .i64 x56]) (y' := .agg [v48, v50, v53, v55, .int .i64 x56]) 4 hS rfl rfl rfl rfl rfl (by simp only [storA, List.all_cons, List.all_nil, qv48.stor, qv50.stor, qv53.stor, qv55.stor]; rfl) rfl rfl fun H hS => ?_
        try simp only [W]
        refine seq_n hK94 ?_
        refine w_ret ?_
        refine fin_r hK0 (res_c rfl rfl (hS.var 4 rfl) rfl (res_tc rfl rfl)) ?_
        try obtain rfl := Option.some.inj h
        have hS : Own _ (⟨v48, 1, x47.map (AV.int .i64)⟩ :: ⟨v50, 1, ouw nm_SInt d51 x49⟩ :: ⟨v53, 1, x52.map (AV.int .i64)⟩ :: ⟨v55, 1, x54.map (AV.int .i64)⟩ :: ((inn np_SInt (AV.int .i64) 1 d51 x49) ++ (F))) := Own.catI_ (bl := [[⟨v48, 1, x47.map (AV.int .i64)⟩], [⟨v50, 1, ouw nm_SInt d51 x49⟩], [⟨v53, 1, x52.map (AV.int .i64)⟩], [⟨v55, 1, x54.map (AV.int .i64)⟩], [⟨.ptr ip4 wp4 0 0, 5, [.agg [v48, v50, v53, v55, .int .i64 x56]]⟩], [⟨.ptr ip32 wp32 0 0, 5, [.agg [v48, v50, v53, v55, .int .i64 x56]]⟩], (inn np_SInt (AV.int .i64) 1 d51 x49)]) (F := F) hS 7 rfl [0, 1, 2, 3, 6] (by decide)
        exact hP _ qv48 _ qv50 _ qd51 _ qv53 _ qv55 _ hS
theorem laws_eqIntS_w {a0 : List Int} {a1 : List Int} {r : (Bool)} (h : laws_eqIntS a0 a1 = some r) {F : List It} {H : Heap} (hS : Own H (F)) {P : AV → Heap → Prop} (hP : ∀ H', Own H' (F) → P (.bool r) H') : ACall C 24 [.fz (a0.map (AV.int .i64)), .fz (a1.map (AV.int .i64))] H P := by
  refine acall_of gC (res := [.tmp 4]) (n := 26) rfl rfl rfl rfl fun K0 hK0 => ?_
  simp only [W, Nat.reduceSub, Nat.reduceAdd, List.replicate]
  unfold laws_eqIntS at h
  refine w_seq fun K1 hK1 => ?_
  refine w_reg gC ?_
  try simp only [W, Nat.reduceAdd]
  refine seq_n hK1 ?_
  refine w_seq fun K2 hK2 => ?_
  refine w_seq fun K3 hK3 => ?_
  refine w_reg gC ?_
  try simp only [W, EE, Nat.reduceAdd]
  refine seq_n hK3 ?_
  refine w_if ?_
  simp only [W]
  refine w_cnd h (fun hc h => ?_) (fun hc h => ?_)
  · refine w_seq fun K4 hK4 => ?_
    refine w_reg gC ?_
    try simp only [W, Nat.reduceAdd]
    refine seq_n hK4 ?_
    refine w_ret ?_
    refine seq_r hK2 ?_
    refine fin_r1 hK0 rfl ?_
    try obtain rfl := Option.some.inj h
    exact hP _ hS
  · refine w_skip ?_
    refine seq_n hK2 ?_
    refine w_seq fun K5 hK5 => ?_
    refine w_seq fun K6 hK6 => ?_
    refine w_reg gC ?_
    try simp only [W, Nat.reduceAdd]
    refine seq_n hK6 ?_
    obtain ⟨y8, hw9, g15⟩ := Option.bind_eq_some_iff.1 h
    refine w_join gC (fun s H => y8 = LR.next () ∧ s = [u, u, u, u, u, u, u, u, u, u, u, u, u, u, u, u, u, u, u, u, u, u, u, u, u, u] ∧ Own H (F)) (fun K10 hK10 => ?_) (fun s H hq => ?_)
    · refine w_blk fun K11 hK11 => ?_
      refine w_loop gC hw9 (fun x s H => s = [.fz (a0.map (AV.int .i64)), .fz (a1.map (AV.int .i64)), u, u, u, .int .i64 x, u, u, u, u, u, u, u, u, u, u, u, u, u, u, u, u, u, u, u, u] ∧ Own H (F)) ⟨rfl, hS⟩ (fun x7 y14 s H h hd13 hi K12 hK12 => ?_)
      skip
      try dsimp only at hi
      obtain ⟨rfl, hS⟩ := hi
      simp only [laws_eqIntS_l0] at h
      refine w_seq fun K16 hK16 => ?_
      refine w_seq fun K17 hK17 => ?_
      refine w_reg gC ?_
      try simp only [W, EE, Nat.reduceAdd]
      refine seq_n hK17 ?_
      refine w_if ?_
      simp only [W]
      refine w_cnd h (fun hc h => ?_) (fun hc h => ?_)
      · refine w_skip ?_
        refine seq_n hK16 ?_
        refine w_seq fun K18 hK18 => ?_
        refine w_blk fun K19 hK19 => ?_
        refine w_seq fun K20 hK20 => ?_
        refine w_draw0 gC (by kernel_rfl) ?_
        try simp only [W, EE, Nat.reduceAdd]
        refine w_fz rfl rfl rfl (fun _ => rfl) h fun b21 hb21 h => ?_
        try simp only [W, EE]
        refine w_fz rfl rfl rfl (fun _ => rfl) h fun b22 hb22 h => ?_
        try simp only [W, EE]
        refine seq_n hK20 ?_
        refine w_if ?_
        simp only [W]
        refine w_cnd h (fun hc h => ?_) (fun hc h => ?_)
        · refine w_seq fun K23 hK23 => ?_
          refine w_reg gC ?_
          try simp only [W, Nat.reduceAdd]
          refine seq_n hK23 ?_
          refine w_ret ?_
          refine blk_r hK19 ?_
          refine seq_r hK18 ?_
          try obtain rfl := Option.some.inj h
          obtain rfl := hd13 _ rfl
          have h : (some (LR.done false) : Option (LR Unit (Bool))) = some (LR.done false) := rfl
          refine lp_r hK12 ?_
          refine blk_r hK11 ?_
          try obtain rfl := Option.some.inj h
          obtain rfl := Option.some.inj g15
          have h : (some false : Option (Bool)) = some false := rfl
          refine cut_r hK10 ?_
          refine seq_r hK5 ?_
          refine fin_r1 hK0 rfl ?_
          try obtain rfl := Option.some.inj h
          exact hP _ hS
        · refine w_skip ?_
          refine blk_n0 hK19 ?_
          refine seq_n hK18 ?_
          refine w_reg gC ?_
          try simp only [W, EE, Nat.reduceAdd]
          exact lp_n hK12 h ⟨rfl, hS⟩
      · refine w_exit ?_
        refine seq_x hK16 ?_
        try obtain rfl := Option.some.inj h
        obtain rfl := hd13 _ rfl
        have h : (some (LR.next ()) : Option (LR Unit (Bool))) = some (LR.next ()) := rfl
        refine lp_x hK12 ?_
        refine blk_e hK11 ?_
        exact cut_n hK10 ⟨(Option.some.inj h).symm, rfl, hS⟩
    · obtain ⟨rfl, rfl, hS⟩ := hq
      replace h := g15
      try dsimp only at h
      refine seq_n hK5 ?_
      refine w_seq fun K30 hK30 => ?_
      refine w_reg gC ?_
      try simp only [W, Nat.reduceAdd]
      refine seq_n hK30 ?_
      refine w_ret ?_
      refine fin_r1 hK0 rfl ?_
      try obtain rfl := Option.some.inj h
      exact hP _ hS
theorem laws_eqIntSS_w {a0 : List (List Int)} {a1 : List (List Int)} {r : (Bool)} (h : laws_eqIntSS a0 a1 = some r) {F : List It} {H : Heap} (hS : Own H (F)) {P : AV → Heap → Prop} (hP : ∀ H', Own H' (F) → P (.bool r) H') : ACall C 117 [.fz (a0.map (fzl (AV.int .i64))), .fz (a1.map (fzl (AV.int .i64)))] H P := by
  refine acall_of gC (res := [.tmp 4]) (n := 27) rfl rfl rfl rfl fun K0 hK0 => ?_
  simp only [W, Nat.reduceSub, Nat.reduceAdd, List.replicate]
  unfold laws_eqIntSS at h
  refine w_seq fun K1 hK1 => ?_
  refine w_reg gC ?_
  try simp only [W, Nat.reduceAdd]
  refine seq_n hK1 ?_
  refine w_seq fun K2 hK2 => ?_
  refine w_seq fun K3 hK3 => ?_
  refine w_reg gC ?_
  try simp only [W, EE, Nat.reduceAdd]
  refine seq_n hK3 ?_
  refine w_if ?_
  simp only [W]
  refine w_cnd h (fun hc h => ?_) (fun hc h => ?_)
  · refine w_seq fun K4 hK4 => ?_
    refine w_reg gC ?_
    try simp only [W, Nat.reduceAdd]
    refine seq_n hK4 ?_
    refine w_ret ?_
    refine seq_r hK2 ?_
    refine fin_r1 hK0 rfl ?_
    try obtain rfl := Option.some.inj h
    exact hP _ hS
  · refine w_skip ?_
    refine seq_n hK2 ?_
    refine w_seq fun K5 hK5 => ?_
    refine w_seq fun K6 hK6 => ?_
    refine w_reg gC ?_
    try simp only [W, Nat.reduceAdd]
    refine seq_n hK6 ?_
    obtain ⟨y8, hw9, g15⟩ := Option.bind_eq_some_iff.1 h
    refine w_join gC (fun s H => y8 = LR.next () ∧ s = [u, u, u, u, u, u, u, u, u, u, u, u, u, u, u, u, u, u, u, u, u, u, u, u, u, u, u] ∧ Own H (F)) (fun K10 hK10 => ?_) (fun s H hq => ?_)
    · refine w_blk fun K11 hK11 => ?_
      refine w_loop gC hw9 (fun x s H => s = [.fz (a0.map (fzl (AV.int .i64))), .fz (a1.map (fzl (AV.int .i64))), u, u, u, .int .i64 x, u, u, u, u, u, u, u, u, u, u, u, u, u, u, u, u, u, u, u, u, u] ∧ Own H (F)) ⟨rfl, hS⟩ (fun x7 y14 s H h hd13 hi K12 hK12 => ?_)
      skip
      try dsimp only at hi
      obtain ⟨rfl, hS⟩ := hi
      simp only [laws_eqIntSS_l0] at h
      refine w_seq fun K16 hK16 => ?_
      refine w_seq fun K17 hK17 => ?_
      refine w_reg gC ?_
      try simp only [W, EE, Nat.reduceAdd]
      refine seq_n hK17 ?_
      refine w_if ?_
      simp only [W]
      refine w_cnd h (fun hc h => ?_) (fun hc h => ?_)
      · refine w_skip ?_
        refine seq_n hK16 ?_
        refine w_seq fun K18 hK18 => ?_
        refine w_blk fun K19 hK19 => ?_
        refine w_seq fun K20 hK20 => ?_
        refine w_draw0 gC (by kernel_rfl) ?_
        try simp only [W, EE, Nat.reduceAdd]
        refine w_fz rfl rfl rfl (fun _ => rfl) h fun b21 hb21 h => ?_
        try simp only [W, EE, EN]
        refine w_fz rfl rfl rfl (fun _ => rfl) h fun b22 hb22 h => ?_
        try simp only [W, EE, EN]
        refine w_callS (rsh := [[.sc]]) (ys := [.fz (b21.map (AV.int .i64)), .fz (b22.map (AV.int .i64))]) h rfl (by rfl) fun b23 hb23 h => ⟨.bool b23, laws_eqIntS_w hb23 (Own.nil _) fun H hS => TV_ok rfl (TV_p rfl (TV_n rfl)), ⟨rfl, rfl, fun _ => rfl⟩, ?_⟩
        try simp only [W]
        refine seq_n hK20 ?_
        refine w_if ?_
        simp only [W]
        refine w_cnd h (fun hc h => ?_) (fun hc h => ?_)
        · refine w_seq fun K24 hK24 => ?_
          refine w_reg gC ?_
          try simp only [W, Nat.reduceAdd]
          refine seq_n hK24 ?_
          refine w_ret ?_
          refine blk_r hK19 ?_
          refine seq_r hK18 ?_
          try obtain rfl := Option.some.inj h
          obtain rfl := hd13 _ rfl
          have h : (some (LR.done false) : Option (LR Unit (Bool))) = some (LR.done false) := rfl
          refine lp_r hK12 ?_
          refine blk_r hK11 ?_
          try obtain rfl := Option.some.inj h
          obtain rfl := Option.some.inj g15
          have h : (some false : Option (Bool)) = some false := rfl
          refine cut_r hK10 ?_
          refine seq_r hK5 ?_
          refine fin_r1 hK0 rfl ?_
          try obtain rfl := Option.some.inj h
          exact hP _ hS
        · refine w_skip ?_
          refine blk_n0 hK19 ?_
          refine seq_n hK18 ?_
          refine w_reg gC ?_
          try simp only [W, EE, Nat.reduceAdd]
          exact lp_n hK12 h ⟨rfl, hS⟩
      · refine w_exit ?_
        refine seq_x hK16 ?_
        try obtain rfl := Option.some.inj h
        obtain rfl := hd13 _ rfl
        have h : (some (LR.next ()) : Option (LR Unit (Bool))) = some (LR.next ()) := rfl
        refine lp_x hK12 ?_
        refine blk_e hK11 ?_
        exact cut_n hK10 ⟨(Option.some.inj h).symm, rfl, hS⟩
    · obtain ⟨rfl, rfl, hS⟩ := hq
      replace h := g15
      try dsimp only at h
      refine seq_n hK5 ?_
      refine w_seq fun K31 hK31 => ?_
      refine w_reg gC ?_
      try simp only [W, Nat.reduceAdd]
      refine seq_n hK31 ?_
      refine w_ret ?_
      refine fin_r1 hK0 rfl ?_
      try obtain rfl := Option.some.inj h
      exact hP _ hS
theorem laws_eqTurns_w {a0 : Turns} {a1 : Turns} {r : (Bool)} (h : laws_eqTurns a0 a1 = some r) {F : List It} {H : Heap} (hS : Own H (F)) {P : AV → Heap → Prop} (hP : ∀ H', Own H' (F) → P (.bool r) H') : ACall C 19 [.agg [.fz (a0.Quanta.map (AV.int .i64)), .fz (a0.Queues.map (fzl (AV.int .i64))), .fz (a0.Credit.map (AV.int .i64)), .fz (a0.Sent.map (AV.int .i64)), .int .i64 a0.At], .agg [.fz (a1.Quanta.map (AV.int .i64)), .fz (a1.Queues.map (fzl (AV.int .i64))), .fz (a1.Credit.map (AV.int .i64)), .fz (a1.Sent.map (AV.int .i64)), .int .i64 a1.At]] H P := by
  refine acall_of gC (res := [.tmp 4]) (n := 34) rfl rfl rfl rfl fun K0 hK0 => ?_
  simp only [W, Nat.reduceSub, Nat.reduceAdd, List.replicate]
  unfold laws_eqTurns at h
  refine w_seq fun K1 hK1 => ?_
  refine w_reg gC ?_
  try simp only [W, Nat.reduceAdd]
  refine w_box hS rfl rfl rfl rfl fun ip2 wp2 H hS => ?_
  try simp only [W]
  refine w_box hS rfl rfl rfl rfl fun ip4 wp4 H hS => ?_
  try simp only [W]
  refine seq_n hK1 ?_
  refine w_seq fun K6 hK6 => ?_
  refine w_seq fun K7 hK7 => ?_
  refine w_reg gC ?_
  try simp only [W, EE, Nat.reduceAdd, Nat.reduceBEq, hS.var 1 rfl, hS.var 0 rfl]
  refine w_call h fun b8 hb8 h => ?_
  refine laws_eqIntS_w hb8 hS fun H hS => ?_
  try simp only [W]
  refine seq_n hK7 ?_
  refine w_if ?_
  simp only [W]
  refine w_cnd h (fun hc h => ?_) (fun hc h => ?_)
  · refine w_seq fun K9 hK9 => ?_
    refine w_reg gC ?_
    try simp only [W, Nat.reduceAdd]
    refine seq_n hK9 ?_
    refine w_ret ?_
    refine seq_r hK6 ?_
    refine fin_r1 hK0 rfl ?_
    try obtain rfl := Option.some.inj h
    exact hP _ (hS.sel 2 [] (by decide))
  · refine w_skip ?_
    refine seq_n hK6 ?_
    refine w_seq fun K10 hK10 => ?_
    refine w_seq fun K11 hK11 => ?_
    refine w_reg gC ?_
    try simp only [W, EE, Nat.reduceAdd, Nat.reduceBEq, hS.var 1 rfl, hS.var 0 rfl]
    refine w_call h fun b12 hb12 h => ?_
    refine laws_eqIntSS_w hb12 hS fun H hS => ?_
    try simp only [W]
    refine seq_n hK11 ?_
    refine w_if ?_
    simp only [W]
    refine w_cnd h (fun hc h => ?_) (fun hc h => ?_)
    · refine w_seq fun K13 hK13 => ?_
      refine w_reg gC ?_
      try simp only [W, Nat.reduceAdd]
      refine seq_n hK13 ?_
      refine w_ret ?_
      refine seq_r hK10 ?_
      refine fin_r1 hK0 rfl ?_
      try obtain rfl := Option.some.inj h
      exact hP _ (hS.sel 2 [] (by decide))
    · refine w_skip ?_
      refine seq_n hK10 ?_
      refine w_seq fun K14 hK14 => ?_
      refine w_seq fun K15 hK15 => ?_
      refine w_reg gC ?_
      try simp only [W, EE, Nat.reduceAdd, Nat.reduceBEq, hS.var 1 rfl, hS.var 0 rfl]
      refine w_call h fun b16 hb16 h => ?_
      refine laws_eqIntS_w hb16 hS fun H hS => ?_
      try simp only [W]
      refine seq_n hK15 ?_
      refine w_if ?_
      simp only [W]
      refine w_cnd h (fun hc h => ?_) (fun hc h => ?_)
      · refine w_seq fun K17 hK17 => ?_
        refine w_reg gC ?_
        try simp only [W, Nat.reduceAdd]
        refine seq_n hK17 ?_
        refine w_ret ?_
        refine seq_r hK14 ?_
        refine fin_r1 hK0 rfl ?_
        try obtain rfl := Option.some.inj h
        exact hP _ (hS.sel 2 [] (by decide))
      · refine w_skip ?_
        refine seq_n hK14 ?_
        refine w_seq fun K18 hK18 => ?_
        refine w_seq fun K19 hK19 => ?_
        refine w_reg gC ?_
        try simp only [W, EE, Nat.reduceAdd, Nat.reduceBEq, hS.var 1 rfl, hS.var 0 rfl]
        refine w_call h fun b20 hb20 h => ?_
        refine laws_eqIntS_w hb20 hS fun H hS => ?_
        try simp only [W]
        refine seq_n hK19 ?_
        refine w_if ?_
        simp only [W]
        refine w_cnd h (fun hc h => ?_) (fun hc h => ?_)
        · refine w_seq fun K21 hK21 => ?_
          refine w_reg gC ?_
          try simp only [W, Nat.reduceAdd]
          refine seq_n hK21 ?_
          refine w_ret ?_
          refine seq_r hK18 ?_
          refine fin_r1 hK0 rfl ?_
          try obtain rfl := Option.some.inj h
          exact hP _ (hS.sel 2 [] (by decide))
        · refine w_skip ?_
          refine seq_n hK18 ?_
          refine w_seq fun K22 hK22 => ?_
          refine w_seq fun K23 hK23 => ?_
          refine w_reg gC ?_
          try simp only [W, EE, Nat.reduceAdd, Nat.reduceBEq, hS.var 1 rfl, hS.var 0 rfl]
          refine seq_n hK23 ?_
          refine w_if ?_
          simp only [W]
          refine w_cnd h (fun hc h => ?_) (fun hc h => ?_)
          · refine w_seq fun K24 hK24 => ?_
            refine w_reg gC ?_
            try simp only [W, Nat.reduceAdd]
            refine seq_n hK24 ?_
            refine w_ret ?_
            refine seq_r hK22 ?_
            refine fin_r1 hK0 rfl ?_
            try obtain rfl := Option.some.inj h
            exact hP _ (hS.sel 2 [] (by decide))
          · refine w_skip ?_
            refine seq_n hK22 ?_
            refine w_seq fun K25 hK25 => ?_
            refine w_reg gC ?_
            try simp only [W, Nat.reduceAdd]
            refine seq_n hK25 ?_
            refine w_ret ?_
            refine fin_r1 hK0 rfl ?_
            try obtain rfl := Option.some.inj h
            exact hP _ (hS.sel 2 [] (by decide))
theorem laws_markIntS_w {a0 : List Int} {a1 : Int} {m0 : AV} {r : (Int × List Int)} (h : laws_markIntS a0 a1 = some r) {F : List It} {H : Heap} (hS : Own H (⟨m0, 1, a0.map (AV.int .i64)⟩ :: F)) (qm0 : isSl m0) {P : AV → Heap → Prop} (hP : ∀ H', Own H' (⟨m0, 1, r.2.map (AV.int .i64)⟩ :: F) → P (.int .i64 r.1) H') : ACall C 25 [m0, .int .i64 a1] H P := by
  refine acall_of gC (res := [.tmp 4]) (n := 19) rfl rfl rfl rfl fun K0 hK0 => ?_
  simp only [W, Nat.reduceSub, Nat.reduceAdd, List.replicate]
  unfold laws_markIntS at h
  refine w_seq fun K1 hK1 => ?_
  refine w_reg gC ?_
  try simp only [W, Nat.reduceAdd]
  refine seq_n hK1 ?_
  refine w_seq fun K2 hK2 => ?_
  refine w_seq fun K3 hK3 => ?_
  refine w_reg gC ?_
  try simp only [W, Nat.reduceAdd]
  refine seq_n hK3 ?_
  obtain ⟨y9, hw10, g16⟩ := Option.bind_eq_some_iff.1 h
  refine w_join gC (fun s H => ∃ x7 : Int, ∃ x8 : List Int, y9 = (x7, x8) ∧ s = [u, .int .i64 x7, u, u, u, u, u, u, u, u, u, u, u, u, u, u, u, u, u] ∧ Own H (⟨m0, 1, x8.map (AV.int .i64)⟩ :: F)) (fun K11 hK11 => ?_) (fun s H hq => ?_)
  · refine w_blk fun K12 hK12 => ?_
    refine w_loop gC hw10 (fun x s H => match x with | (x4, x5, x6) => s = [m0, .int .i64 x5, u, u, u, .int .i64 x6, u, u, u, u, u, u, u, u, u, u, u, u, u] ∧ Own H (⟨m0, 1, x4.map (AV.int .i64)⟩ :: F)) ⟨rfl, hS⟩ (fun x y15 s H h hd14 hi K13 hK13 => ?_)
    obtain ⟨x4, x5, x6⟩ := x
    try dsimp only at hi
    obtain ⟨rfl, hS⟩ := hi
    simp only [laws_markIntS_l0] at h
    refine w_seq fun K17 hK17 => ?_
    refine w_seq fun K18 hK18 => ?_
    refine w_reg gC ?_
    try simp only [W, EE, Nat.reduceAdd]
    refine w_len 0 hS rfl qm0 rfl ?_
    try simp only [W, EE]
    refine seq_n hK18 ?_
    refine w_if ?_
    simp only [W]
    refine w_cnd h (fun hc h => ?_) (fun hc h => ?_)
    · refine w_skip ?_
      refine seq_n hK17 ?_
      refine w_seq fun K19 hK19 => ?_
      refine w_blk fun K20 hK20 => ?_
      refine w_seq fun K21 hK21 => ?_
      refine w_reg gC ?_
      try simp only [W, EE, Nat.reduceAdd]
      refine w_ow 0 hS rfl rfl rfl rfl rfl h (fun b22 in23 wn23 on23 hb22 h en23 => ?_) qm0.ne
      obtain ⟨kn23, hbn23, hen23⟩ := hS.elem 0 rfl en23 hb22
      try simp only [W]
      refine w_ste (a := .int .i64 x5) (y' := x5) 0 hS rfl en23 hb22 rfl rfl rfl rfl rfl rfl rfl fun H hS => ?_
      try simp only [W]
      refine seq_n hK21 ?_
      refine w_reg gC ?_
      try simp only [W, EE, Nat.reduceAdd]
      refine blk_n0 hK20 ?_
      refine seq_n hK19 ?_
      refine w_reg gC ?_
      try simp only [W, EE, Nat.reduceAdd]
      exact lp_n hK13 h ⟨rfl, hS⟩
    · refine w_exit ?_
      refine seq_x hK17 ?_
      try obtain rfl := Option.some.inj h
      obtain rfl := hd14 _ rfl
      have h : (some (x5, x4) : Option (Int × (List Int))) = some (x5, x4) := rfl
      refine lp_x hK13 ?_
      refine blk_e hK12 ?_
      exact cut_n hK11 ⟨_, _, (Option.some.inj h).symm, rfl, hS⟩
  · obtain ⟨x7, x8, rfl, rfl, hS⟩ := hq
    replace h := g16
    try dsimp only at h
    refine seq_n hK2 ?_
    refine w_seq fun K26 hK26 => ?_
    refine w_reg gC ?_
    try simp only [W, Nat.reduceAdd]
    refine seq_n hK26 ?_
    refine w_ret ?_
    refine fin_r1 hK0 rfl ?_
    try obtain rfl := Option.some.inj h
    exact hP _ hS
theorem laws_markIntSS_w {a0 : List (List Int)} {a1 : Int} {m0 : AV} {d100 : List AV} {r : (Int × List (List Int))} (h : laws_markIntSS a0 a1 = some r) {F : List It} {H : Heap} (hS : Own H (⟨m0, 1, ouw nm_SInt d100 a0⟩ :: ((inn np_SInt (AV.int .i64) 1 d100 a0) ++ F))) (qm0 : isSl m0) (qd100 : isSls d100 (a0).length) {P : AV → Heap → Prop} (hP : ∀ nd100 : List AV, isSls nd100 (r.2).length → ∀ H', Own H' (⟨m0, 1, ouw nm_SInt nd100 r.2⟩ :: ((inn np_SInt (AV.int .i64) 1 nd100 r.2) ++ F)) → P (.int .i64 r.1) H') : ACall C 118 [m0, .int .i64 a1] H P := by
  refine acall_of gC (res := [.tmp 4]) (n := 19) rfl rfl rfl rfl fun K0 hK0 => ?_
  simp only [W, Nat.reduceSub, Nat.reduceAdd, List.replicate]
  unfold laws_markIntSS at h
  refine w_seq fun K1 hK1 => ?_
  refine w_reg gC ?_
  try simp only [W, Nat.reduceAdd]
  refine seq_n hK1 ?_
  refine w_seq fun K2 hK2 => ?_
  refine w_seq fun K3 hK3 => ?_
  refine w_reg gC ?_
  try simp only [W, Nat.reduceAdd]
  refine seq_n hK3 ?_
  obtain ⟨y12, hw13, g19⟩ := Option.bind_eq_some_iff.1 h
  refine w_join gC (fun s H => ∃ x9 : Int, ∃ x10 : List (List Int), y12 = (x9, x10) ∧ ∃ d11 : List AV, isSls d11 (x10).length ∧ s = [u, .int .i64 x9, u, u, u, u, u, u, u, u, u, u, u, u, u, u, u, u, u] ∧ Own H (⟨m0, 1, ouw nm_SInt d11 x10⟩ :: ((inn np_SInt (AV.int .i64) 1 d11 x10) ++ F))) (fun K14 hK14 => ?_) (fun s H hq => ?_)
  · refine w_blk fun K15 hK15 => ?_
    refine w_loop gC hw13 (fun x s H => match x with | (x5, x7, x8) => ∃ d6 : List AV, isSls d6 (x5).length ∧ s = [m0, .int .i64 x7, u, u, u, .int .i64 x8, u, u, u, u, u, u, u, u, u, u, u, u, u] ∧ Own H (⟨m0, 1, ouw nm_SInt d6 x5⟩ :: ((inn np_SInt (AV.int .i64) 1 d6 x5) ++ F))) ⟨_, qd100, rfl, hS⟩ (fun x y18 s H h hd17 hi K16 hK16 => ?_)
    obtain ⟨x5, x7, x8⟩ := x
    try dsimp only at hi
    obtain ⟨d6, qd6, rfl, hS⟩ := hi
    simp only [laws_markIntSS_l0] at h
    refine w_seq fun K20 hK20 => ?_
    refine w_seq fun K21 hK21 => ?_
    refine w_reg gC ?_
    try simp only [W, EE, Nat.reduceAdd]
    refine w_lenN 0 hS rfl qm0 qd6 rfl ?_
    try simp only [W, EE]
    refine seq_n hK21 ?_
    refine w_if ?_
    simp only [W]
    refine w_cnd h (fun hc h => ?_) (fun hc h => ?_)
    · refine w_skip ?_
      refine seq_n hK20 ?_
      refine w_seq fun K22 hK22 => ?_
      refine w_blk fun K23 hK23 => ?_
      refine w_reg gC ?_
      try simp only [W, EE, Nat.reduceAdd]
      obtain ⟨b25, hb25, h⟩ := Option.bind_eq_some_iff.1 h
      have hS : Own _ (⟨m0, 1, ouw nm_SInt d6 x5⟩ :: ((inn np_SInt (AV.int .i64) 1 d6 x5) ++ (F))) := hS
      obtain ⟨v26, qv26, hS⟩ := openN (p := np_SInt) (c := (AV.int .i64)) (m := nm_SInt) (b := b25) hS qd6 hb25
      have hS : Own _ (⟨v26, 1, b25.map (AV.int .i64)⟩ :: ⟨m0, 1, (ouw nm_SInt d6 x5).set x8.toNat (v26)⟩ :: ((inx np_SInt (AV.int .i64) 1 d6 x5 x8.toNat) ++ (F))) := hS
      refine w_owE (x := v26) 1 hS rfl rfl rfl rfl rfl (idx_some hb25).1 (holeG qd6 hb25) qm0 (fun in24 wn24 on24 en24 hkn24 => ?_)
      obtain ⟨kn24, hbn24, hen24⟩ := hkn24
      try simp only [W, EE, hbn24, hen24, qv26.rd]
      refine w_call h fun b28 hb28 h => ?_
      obtain ⟨b29, b30⟩ := b28
      try dsimp only at h
      refine laws_markIntS_w hb28 hS qv26 fun H hS => ?_
      try simp only [W]
      refine blk_n0 hK23 ?_
      refine seq_n hK22 ?_
      refine w_reg gC ?_
      try simp only [W, EE, Nat.reduceAdd]
      have hS : Own _ (⟨v26, 1, b30.map (AV.int .i64)⟩ :: ⟨m0, 1, (ouw nm_SInt d6 x5).set x8.toNat (v26)⟩ :: ((inx np_SInt (AV.int .i64) 1 d6 x5 x8.toNat) ++ (F))) := hS
      obtain ⟨d31, qd31, hS⟩ := closeN (p := np_SInt) (c := (AV.int .i64)) (m := nm_SInt) (b := b25) (y := b30) hS qd6 qv26 hb25
      have hS : Own _ (⟨m0, 1, ouw nm_SInt d31 (x5.set x8.toNat b30)⟩ :: ((inn np_SInt (AV.int .i64) 1 d31 (x5.set x8.toNat b30)) ++ (F))) := hS
      exact lp_n hK16 h ⟨_, qd31, rfl, hS⟩
    · refine w_exit ?_
      refine seq_x hK20 ?_
      try obtain rfl := Option.some.inj h
      obtain rfl := hd17 _ rfl
      have h : (some (x7, x5) : Option (Int × (List (List Int)))) = some (x7, x5) := rfl
      refine lp_x hK16 ?_
      refine blk_e hK15 ?_
      exact cut_n hK14 ⟨_, _, (Option.some.inj h).symm, _, qd6, rfl, hS⟩
  · obtain ⟨x9, x10, rfl, d11, qd11, rfl, hS⟩ := hq
    replace h := g19
    try dsimp only at h
    refine seq_n hK2 ?_
    refine w_seq fun K34 hK34 => ?_
    refine w_reg gC ?_
    try simp only [W, Nat.reduceAdd]
    refine seq_n hK34 ?_
    refine w_ret ?_
    refine fin_r1 hK0 rfl ?_
    try obtain rfl := Option.some.inj h
    exact hP _ qd11 _ hS
theorem laws_markTurns_w {a0 : Turns} {a1 : Int} {m0 : AV} {m1 : AV} {d101 : List AV} {m2 : AV} {m3 : AV} {r : (Int × List Int × List (List Int) × List Int × List Int)} (h : laws_markTurns a0 a1 = some r) {F : List It} {H : Heap} (hS : Own H (⟨m0, 1, a0.Quanta.map (AV.int .i64)⟩ :: ⟨m1, 1, ouw nm_SInt d101 a0.Queues⟩ :: ⟨m2, 1, a0.Credit.map (AV.int .i64)⟩ :: ⟨m3, 1, a0.Sent.map (AV.int .i64)⟩ :: ((inn np_SInt (AV.int .i64) 1 d101 a0.Queues) ++ F))) (qm0 : isSl m0) (qm1 : isSl m1) (qd101 : isSls d101 (a0.Queues).length) (qm2 : isSl m2) (qm3 : isSl m3) {P : AV → Heap → Prop} (hP : ∀ nd101 : List AV, isSls nd101 (r.2.2.1).length → ∀ H', Own H' (⟨m0, 1, r.2.1.map (AV.int .i64)⟩ :: ⟨m1, 1, ouw nm_SInt nd101 r.2.2.1⟩ :: ⟨m2, 1, r.2.2.2.1.map (AV.int .i64)⟩ :: ⟨m3, 1, r.2.2.2.2.map (AV.int .i64)⟩ :: ((inn np_SInt (AV.int .i64) 1 nd101 r.2.2.1) ++ F)) → P (.int .i64 r.1) H') : ACall C 20 [.agg [m0, m1, m2, m3, .int .i64 a0.At], .int .i64 a1] H P := by
  refine acall_of gC (res := [.tmp 4]) (n := 22) rfl rfl rfl rfl fun K0 hK0 => ?_
  simp only [W, Nat.reduceSub, Nat.reduceAdd, List.replicate]
  unfold laws_markTurns at h
  refine w_seq fun K1 hK1 => ?_
  refine w_reg gC ?_
  try simp only [W, Nat.reduceAdd]
  refine w_box hS rfl rfl rfl (by simp only [W, storA, List.all_cons, List.all_nil, qm0.stor, qm1.stor, qm2.stor, qm3.stor]; rfl) fun ip2 wp2 H hS => ?_
  try simp only [W]
  refine seq_n hK1 ?_
  refine w_seq fun K4 hK4 => ?_
  refine w_reg gC ?_
  try simp only [W, EE, Nat.reduceAdd, Nat.reduceBEq, hS.var 0 rfl]
  refine w_call h fun b5 hb5 h => ?_
  obtain ⟨b6, b7⟩ := b5
  try dsimp only at h
  refine laws_markIntS_w hb5 (hS.sel 5 [1, 0, 2, 3, 4] (by decide)) qm0 fun H hS => ?_
  try simp only [W]
  refine seq_n hK4 ?_
  refine w_seq fun K8 hK8 => ?_
  refine w_reg gC ?_
  try simp only [W, EE, Nat.reduceAdd, Nat.reduceBEq, hS.var 1 rfl]
  have hS : Own _ (⟨m1, 1, ouw nm_SInt d101 a0.Queues⟩ :: ((inn np_SInt (AV.int .i64) 1 d101 a0.Queues) ++ (⟨m0, 1, b7.map (AV.int .i64)⟩ :: ⟨.ptr ip2 wp2 0 0, 5, [.agg [m0, m1, m2, m3, .int .i64 a0.At]]⟩ :: ⟨m2, 1, a0.Credit.map (AV.int .i64)⟩ :: ⟨m3, 1, a0.Sent.map (AV.int .i64)⟩ :: F))) := Own.catI_ (bl := [[⟨m0, 1, b7.map (AV.int .i64)⟩], [⟨.ptr ip2 wp2 0 0, 5, [.agg [m0, m1, m2, m3, .int .i64 a0.At]]⟩], [⟨m1, 1, ouw nm_SInt d101 a0.Queues⟩], [⟨m2, 1, a0.Credit.map (AV.int .i64)⟩], [⟨m3, 1, a0.Sent.map (AV.int .i64)⟩], (inn np_SInt (AV.int .i64) 1 d101 a0.Queues)]) (F := F) hS 6 rfl [2, 5, 0, 1, 3, 4] (by decide)
  refine w_call h fun b9 hb9 h => ?_
  obtain ⟨b10, b11⟩ := b9
  try dsimp only at h
  refine laws_markIntSS_w hb9 hS qm1 qd101 fun d12 qd12 H hS => ?_
  have hS : Own _ (⟨m1, 1, ouw nm_SInt d12 b11⟩ :: ⟨m0, 1, b7.map (AV.int .i64)⟩ :: ⟨.ptr ip2 wp2 0 0, 5, [.agg [m0, m1, m2, m3, .int .i64 a0.At]]⟩ :: ⟨m2, 1, a0.Credit.map (AV.int .i64)⟩ :: ⟨m3, 1, a0.Sent.map (AV.int .i64)⟩ :: ((inn np_SInt (AV.int .i64) 1 d12 b11) ++ (F))) := Own.catI_ (bl := [[⟨m1, 1, ouw nm_SInt d12 b11⟩], (inn np_SInt (AV.int .i64) 1 d12 b11), [⟨m0, 1, b7.map (AV.int .i64)⟩], [⟨.ptr ip2 wp2 0 0, 5, [.agg [m0, m1, m2, m3, .int .i64 a0.At]]⟩], [⟨m2, 1, a0.Credit.map (AV.int .i64)⟩], [⟨m3, 1, a0.Sent.map (AV.int .i64)⟩]]) (F := F) hS 6 rfl [0, 2, 3, 4, 5, 1] (by decide)
  try simp only [W]
  refine seq_n hK8 ?_
  refine w_seq fun K13 hK13 => ?_
  refine w_reg gC ?_
  try simp only [W, EE, Nat.reduceAdd, Nat.reduceBEq, hS.var 2 rfl]
  refine w_call h fun b14 hb14 h => ?_
  obtain ⟨b15, b16⟩ := b14
  try dsimp only at h
  refine laws_markIntS_w hb14 (hS.sel 5 [3, 0, 1, 2, 4] (by decide)) qm2 fun H hS => ?_
  try simp only [W]
  refine seq_n hK13 ?_
  refine w_seq fun K17 hK17 => ?_
  refine w_reg gC ?_
  try simp only [W, EE, Nat.reduceAdd, Nat.reduceBEq, hS.var 3 rfl]
  refine w_call h fun b18 hb18 h => ?_
  obtain ⟨b19, b20⟩ := b18
  try dsimp only at h
  refine laws_markIntS_w hb18 (hS.sel 5 [4, 0, 1, 2, 3] (by decide)) qm3 fun H hS => ?_
  try simp only [W]
  refine seq_n hK17 ?_
  refine w_seq fun K21 hK21 => ?_
  refine w_reg gC ?_
  try simp only [W, Nat.reduceAdd]
  refine seq_n hK21 ?_
  refine w_ret ?_
  refine fin_r1 hK0 rfl ?_
  try obtain rfl := Option.some.inj h
  have hS : Own _ (⟨m0, 1, b7.map (AV.int .i64)⟩ :: ⟨m1, 1, ouw nm_SInt d12 b11⟩ :: ⟨m2, 1, b16.map (AV.int .i64)⟩ :: ⟨m3, 1, b20.map (AV.int .i64)⟩ :: ((inn np_SInt (AV.int .i64) 1 d12 b11) ++ (F))) := Own.catI_ (bl := [[⟨m3, 1, b20.map (AV.int .i64)⟩], [⟨m2, 1, b16.map (AV.int .i64)⟩], [⟨m1, 1, ouw nm_SInt d12 b11⟩], [⟨m0, 1, b7.map (AV.int .i64)⟩], [⟨.ptr ip2 wp2 0 0, 5, [.agg [m0, m1, m2, m3, .int .i64 a0.At]]⟩], (inn np_SInt (AV.int .i64) 1 d12 b11)]) (F := F) hS 6 rfl [3, 2, 1, 0, 5] (by decide)
  exact hP _ qd12 _ hS
theorem laws_heldIntS_w {a0 : List Int} {a1 : Int} {r : (Int)} (h : laws_heldIntS a0 a1 = some r) {F : List It} {H : Heap} (hS : Own H (F)) {P : AV → Heap → Prop} (hP : ∀ H', Own H' (F) → P (.int .i64 r) H') : ACall C 26 [.fz (a0.map (AV.int .i64)), .int .i64 a1] H P := by
  refine acall_of gC (res := [.tmp 4]) (n := 21) rfl rfl rfl rfl fun K0 hK0 => ?_
  simp only [W, Nat.reduceSub, Nat.reduceAdd, List.replicate]
  unfold laws_heldIntS at h
  refine w_seq fun K1 hK1 => ?_
  refine w_reg gC ?_
  try simp only [W, Nat.reduceAdd]
  refine seq_n hK1 ?_
  refine w_seq fun K2 hK2 => ?_
  refine w_seq fun K3 hK3 => ?_
  refine w_reg gC ?_
  try simp only [W, Nat.reduceAdd]
  refine seq_n hK3 ?_
  obtain ⟨y7, hw8, g14⟩ := Option.bind_eq_some_iff.1 h
  refine w_join gC (fun s H => ∃ x6 : Int, y7 = LR.next (x6) ∧ s = [u, .int .i64 x6, u, u, u, u, u, u, u, u, u, u, u, u, u, u, u, u, u, u, u] ∧ Own H (F)) (fun K9 hK9 => ?_) (fun s H hq => ?_)
  · refine w_blk fun K10 hK10 => ?_
    refine w_loop gC hw8 (fun x s H => match x with | (x4, x5) => s = [.fz (a0.map (AV.int .i64)), .int .i64 x4, u, u, u, .int .i64 x5, u, u, u, u, u, u, u, u, u, u, u, u, u, u, u] ∧ Own H (F)) ⟨rfl, hS⟩ (fun x y13 s H h hd12 hi K11 hK11 => ?_)
    obtain ⟨x4, x5⟩ := x
    try dsimp only at hi
    obtain ⟨rfl, hS⟩ := hi
    simp only [laws_heldIntS_l0] at h
    refine w_seq fun K15 hK15 => ?_
    refine w_seq fun K16 hK16 => ?_
    refine w_reg gC ?_
    try simp only [W, EE, Nat.reduceAdd]
    refine seq_n hK16 ?_
    refine w_if ?_
    simp only [W]
    refine w_cnd h (fun hc h => ?_) (fun hc h => ?_)
    · refine w_skip ?_
      refine seq_n hK15 ?_
      refine w_seq fun K17 hK17 => ?_
      refine w_blk fun K18 hK18 => ?_
      refine w_seq fun K19 hK19 => ?_
      refine w_seq fun K20 hK20 => ?_
      refine w_reg gC ?_
      try simp only [W, EE, Nat.reduceAdd]
      refine w_fz rfl rfl rfl (fun _ => rfl) h fun b21 hb21 h => ?_
      try simp only [W, EE]
      refine seq_n hK20 ?_
      refine w_if ?_
      simp only [W]
      refine w_cnd h (fun hc h => ?_) (fun hc h => ?_)
      · refine w_seq fun K22 hK22 => ?_
        refine w_reg gC ?_
        try simp only [W, Nat.reduceAdd]
        refine seq_n hK22 ?_
        refine w_ret ?_
        refine seq_r hK19 ?_
        refine blk_r hK18 ?_
        refine seq_r hK17 ?_
        try obtain rfl := Option.some.inj h
        obtain rfl := hd12 _ rfl
        have h : (some (LR.done (-1)) : Option (LR (Int) (Int))) = some (LR.done (-1)) := rfl
        refine lp_r hK11 ?_
        refine blk_r hK10 ?_
        try obtain rfl := Option.some.inj h
        obtain rfl := Option.some.inj g14
        have h : (some (-1) : Option (Int)) = some (-1) := rfl
        refine cut_r hK9 ?_
        refine seq_r hK2 ?_
        refine fin_r1 hK0 rfl ?_
        try obtain rfl := Option.some.inj h
        exact hP _ hS
      · refine w_skip ?_
        refine seq_n hK19 ?_
        refine w_reg gC ?_
        try simp only [W, EE, Nat.reduceAdd]
        refine blk_n0 hK18 ?_
        refine seq_n hK17 ?_
        refine w_reg gC ?_
        try simp only [W, EE, Nat.reduceAdd]
        exact lp_n hK11 h ⟨rfl, hS⟩
    · refine w_exit ?_
      refine seq_x hK15 ?_
      try obtain rfl := Option.some.inj h
      obtain rfl := hd12 _ rfl
      have h : (some (LR.next (x4)) : Option (LR (Int) (Int))) = some (LR.next (x4)) := rfl
      refine lp_x hK11 ?_
      refine blk_e hK10 ?_
      exact cut_n hK9 ⟨_, (Option.some.inj h).symm, rfl, hS⟩
  · obtain ⟨x6, ey, rfl, hS⟩ := hq; obtain rfl := ey.symm
    replace h := g14
    try dsimp only at h
    refine seq_n hK2 ?_
    refine w_seq fun K29 hK29 => ?_
    refine w_reg gC ?_
    try simp only [W, Nat.reduceAdd]
    refine seq_n hK29 ?_
    refine w_ret ?_
    refine fin_r1 hK0 rfl ?_
    try obtain rfl := Option.some.inj h
    exact hP _ hS
theorem laws_heldIntSS_w {a0 : List (List Int)} {a1 : Int} {r : (Int)} (h : laws_heldIntSS a0 a1 = some r) {F : List It} {H : Heap} (hS : Own H (F)) {P : AV → Heap → Prop} (hP : ∀ H', Own H' (F) → P (.int .i64 r) H') : ACall C 119 [.fz (a0.map (fzl (AV.int .i64))), .int .i64 a1] H P := by
  refine acall_of gC (res := [.tmp 4]) (n := 21) rfl rfl rfl rfl fun K0 hK0 => ?_
  simp only [W, Nat.reduceSub, Nat.reduceAdd, List.replicate]
  unfold laws_heldIntSS at h
  refine w_seq fun K1 hK1 => ?_
  refine w_reg gC ?_
  try simp only [W, Nat.reduceAdd]
  refine seq_n hK1 ?_
  refine w_seq fun K2 hK2 => ?_
  refine w_seq fun K3 hK3 => ?_
  refine w_reg gC ?_
  try simp only [W, Nat.reduceAdd]
  refine seq_n hK3 ?_
  obtain ⟨y7, hw8, g14⟩ := Option.bind_eq_some_iff.1 h
  refine w_join gC (fun s H => ∃ x6 : Int, y7 = LR.next (x6) ∧ s = [u, .int .i64 x6, u, u, u, u, u, u, u, u, u, u, u, u, u, u, u, u, u, u, u] ∧ Own H (F)) (fun K9 hK9 => ?_) (fun s H hq => ?_)
  · refine w_blk fun K10 hK10 => ?_
    refine w_loop gC hw8 (fun x s H => match x with | (x4, x5) => s = [.fz (a0.map (fzl (AV.int .i64))), .int .i64 x4, u, u, u, .int .i64 x5, u, u, u, u, u, u, u, u, u, u, u, u, u, u, u] ∧ Own H (F)) ⟨rfl, hS⟩ (fun x y13 s H h hd12 hi K11 hK11 => ?_)
    obtain ⟨x4, x5⟩ := x
    try dsimp only at hi
    obtain ⟨rfl, hS⟩ := hi
    simp only [laws_heldIntSS_l0] at h
    refine w_seq fun K15 hK15 => ?_
    refine w_seq fun K16 hK16 => ?_
    refine w_reg gC ?_
    try simp only [W, EE, Nat.reduceAdd]
    refine seq_n hK16 ?_
    refine w_if ?_
    simp only [W]
    refine w_cnd h (fun hc h => ?_) (fun hc h => ?_)
    · refine w_skip ?_
      refine seq_n hK15 ?_
      refine w_seq fun K17 hK17 => ?_
      refine w_blk fun K18 hK18 => ?_
      refine w_seq fun K19 hK19 => ?_
      refine w_reg gC ?_
      try simp only [W, EE, Nat.reduceAdd]
      refine w_fz rfl rfl rfl (fun _ => rfl) h fun b20 hb20 h => ?_
      try simp only [W, EE, EN]
      refine w_call h fun b21 hb21 h => ?_
      refine laws_heldIntS_w hb21 hS fun H hS => ?_
      try simp only [W]
      refine seq_n hK19 ?_
      refine w_seq fun K22 hK22 => ?_
      refine w_reg gC ?_
      try simp only [W, EE, Nat.reduceAdd]
      refine seq_n hK22 ?_
      refine w_if ?_
      simp only [W]
      refine w_cnd h (fun hc h => ?_) (fun hc h => ?_)
      · refine w_seq fun K23 hK23 => ?_
        refine w_reg gC ?_
        try simp only [W, Nat.reduceAdd]
        refine seq_n hK23 ?_
        refine w_ret ?_
        refine blk_r hK18 ?_
        refine seq_r hK17 ?_
        try obtain rfl := Option.some.inj h
        obtain rfl := hd12 _ rfl
        have h : (some (LR.done (-1)) : Option (LR (Int) (Int))) = some (LR.done (-1)) := rfl
        refine lp_r hK11 ?_
        refine blk_r hK10 ?_
        try obtain rfl := Option.some.inj h
        obtain rfl := Option.some.inj g14
        have h : (some (-1) : Option (Int)) = some (-1) := rfl
        refine cut_r hK9 ?_
        refine seq_r hK2 ?_
        refine fin_r1 hK0 rfl ?_
        try obtain rfl := Option.some.inj h
        exact hP _ hS
      · refine w_skip ?_
        refine blk_n0 hK18 ?_
        refine seq_n hK17 ?_
        refine w_reg gC ?_
        try simp only [W, EE, Nat.reduceAdd]
        exact lp_n hK11 h ⟨rfl, hS⟩
    · refine w_exit ?_
      refine seq_x hK15 ?_
      try obtain rfl := Option.some.inj h
      obtain rfl := hd12 _ rfl
      have h : (some (LR.next (x4)) : Option (LR (Int) (Int))) = some (LR.next (x4)) := rfl
      refine lp_x hK11 ?_
      refine blk_e hK10 ?_
      exact cut_n hK9 ⟨_, (Option.some.inj h).symm, rfl, hS⟩
  · obtain ⟨x6, ey, rfl, hS⟩ := hq; obtain rfl := ey.symm
    replace h := g14
    try dsimp only at h
    refine seq_n hK2 ?_
    refine w_seq fun K30 hK30 => ?_
    refine w_reg gC ?_
    try simp only [W, Nat.reduceAdd]
    refine seq_n hK30 ?_
    refine w_ret ?_
    refine fin_r1 hK0 rfl ?_
    try obtain rfl := Option.some.inj h
    exact hP _ hS
theorem laws_heldTurns_w {a0 : Turns} {a1 : Int} {r : (Int)} (h : laws_heldTurns a0 a1 = some r) {F : List It} {H : Heap} (hS : Own H (F)) {P : AV → Heap → Prop} (hP : ∀ H', Own H' (F) → P (.int .i64 r) H') : ACall C 21 [.agg [.fz (a0.Quanta.map (AV.int .i64)), .fz (a0.Queues.map (fzl (AV.int .i64))), .fz (a0.Credit.map (AV.int .i64)), .fz (a0.Sent.map (AV.int .i64)), .int .i64 a0.At], .int .i64 a1] H P := by
  refine acall_of gC (res := [.tmp 4]) (n := 30) rfl rfl rfl rfl fun K0 hK0 => ?_
  simp only [W, Nat.reduceSub, Nat.reduceAdd, List.replicate]
  unfold laws_heldTurns at h
  refine w_seq fun K1 hK1 => ?_
  refine w_reg gC ?_
  try simp only [W, Nat.reduceAdd]
  refine w_box hS rfl rfl rfl rfl fun ip2 wp2 H hS => ?_
  try simp only [W]
  refine seq_n hK1 ?_
  refine w_seq fun K4 hK4 => ?_
  refine w_reg gC ?_
  try simp only [W, EE, Nat.reduceAdd, Nat.reduceBEq, hS.var 0 rfl]
  refine w_call h fun b5 hb5 h => ?_
  refine laws_heldIntS_w hb5 hS fun H hS => ?_
  try simp only [W]
  refine seq_n hK4 ?_
  refine w_seq fun K6 hK6 => ?_
  refine w_seq fun K7 hK7 => ?_
  refine w_reg gC ?_
  try simp only [W, EE, Nat.reduceAdd]
  refine seq_n hK7 ?_
  refine w_if ?_
  simp only [W]
  refine w_cnd h (fun hc h => ?_) (fun hc h => ?_)
  · refine w_seq fun K8 hK8 => ?_
    refine w_reg gC ?_
    try simp only [W, Nat.reduceAdd]
    refine seq_n hK8 ?_
    refine w_ret ?_
    refine seq_r hK6 ?_
    refine fin_r1 hK0 rfl ?_
    try obtain rfl := Option.some.inj h
    exact hP _ (hS.sel 1 [] (by decide))
  · refine w_skip ?_
    refine seq_n hK6 ?_
    refine w_seq fun K9 hK9 => ?_
    refine w_reg gC ?_
    try simp only [W, EE, Nat.reduceAdd, Nat.reduceBEq, hS.var 0 rfl]
    refine w_call h fun b10 hb10 h => ?_
    refine laws_heldIntSS_w hb10 hS fun H hS => ?_
    try simp only [W]
    refine seq_n hK9 ?_
    refine w_seq fun K11 hK11 => ?_
    refine w_seq fun K12 hK12 => ?_
    refine w_reg gC ?_
    try simp only [W, EE, Nat.reduceAdd]
    refine seq_n hK12 ?_
    refine w_if ?_
    simp only [W]
    refine w_cnd h (fun hc h => ?_) (fun hc h => ?_)
    · refine w_seq fun K13 hK13 => ?_
      refine w_reg gC ?_
      try simp only [W, Nat.reduceAdd]
      refine seq_n hK13 ?_
      refine w_ret ?_
      refine seq_r hK11 ?_
      refine fin_r1 hK0 rfl ?_
      try obtain rfl := Option.some.inj h
      exact hP _ (hS.sel 1 [] (by decide))
    · refine w_skip ?_
      refine seq_n hK11 ?_
      refine w_seq fun K14 hK14 => ?_
      refine w_reg gC ?_
      try simp only [W, EE, Nat.reduceAdd, Nat.reduceBEq, hS.var 0 rfl]
      refine w_call h fun b15 hb15 h => ?_
      refine laws_heldIntS_w hb15 hS fun H hS => ?_
      try simp only [W]
      refine seq_n hK14 ?_
      refine w_seq fun K16 hK16 => ?_
      refine w_seq fun K17 hK17 => ?_
      refine w_reg gC ?_
      try simp only [W, EE, Nat.reduceAdd]
      refine seq_n hK17 ?_
      refine w_if ?_
      simp only [W]
      refine w_cnd h (fun hc h => ?_) (fun hc h => ?_)
      · refine w_seq fun K18 hK18 => ?_
        refine w_reg gC ?_
        try simp only [W, Nat.reduceAdd]
        refine seq_n hK18 ?_
        refine w_ret ?_
        refine seq_r hK16 ?_
        refine fin_r1 hK0 rfl ?_
        try obtain rfl := Option.some.inj h
        exact hP _ (hS.sel 1 [] (by decide))
      · refine w_skip ?_
        refine seq_n hK16 ?_
        refine w_seq fun K19 hK19 => ?_
        refine w_reg gC ?_
        try simp only [W, EE, Nat.reduceAdd, Nat.reduceBEq, hS.var 0 rfl]
        refine w_call h fun b20 hb20 h => ?_
        refine laws_heldIntS_w hb20 hS fun H hS => ?_
        try simp only [W]
        refine seq_n hK19 ?_
        refine w_seq fun K21 hK21 => ?_
        refine w_seq fun K22 hK22 => ?_
        refine w_reg gC ?_
        try simp only [W, EE, Nat.reduceAdd]
        refine seq_n hK22 ?_
        refine w_if ?_
        simp only [W]
        refine w_cnd h (fun hc h => ?_) (fun hc h => ?_)
        · refine w_seq fun K23 hK23 => ?_
          refine w_reg gC ?_
          try simp only [W, Nat.reduceAdd]
          refine seq_n hK23 ?_
          refine w_ret ?_
          refine seq_r hK21 ?_
          refine fin_r1 hK0 rfl ?_
          try obtain rfl := Option.some.inj h
          exact hP _ (hS.sel 1 [] (by decide))
        · refine w_skip ?_
          refine seq_n hK21 ?_
          refine w_seq fun K24 hK24 => ?_
          refine w_reg gC ?_
          try simp only [W, Nat.reduceAdd]
          refine seq_n hK24 ?_
          refine w_ret ?_
          refine fin_r1 hK0 rfl ?_
          try obtain rfl := Option.some.inj h
          exact hP _ (hS.sel 1 [] (by decide))
theorem laws_FnExactRunTurns_w {a0 : Turns} {a1 : Int} {r : (Bool)} (h : laws_FnExactRunTurns a0 a1 = some r) {F : List It} {H : Heap} (hS : Own H (F)) {P : AV → Heap → Prop} (hP : ∀ H', Own H' (F) → P (.bool r) H') : ACall C 5 [.agg [.fz (a0.Quanta.map (AV.int .i64)), .fz (a0.Queues.map (fzl (AV.int .i64))), .fz (a0.Credit.map (AV.int .i64)), .fz (a0.Sent.map (AV.int .i64)), .int .i64 a0.At], .int .i64 a1] H P := by
  refine acall_of gC (res := [.tmp 4]) (n := 101) rfl rfl rfl rfl fun K0 hK0 => ?_
  simp only [W, Nat.reduceSub, Nat.reduceAdd, List.replicate]
  unfold laws_FnExactRunTurns at h
  refine w_seq fun K1 hK1 => ?_
  refine w_reg gC ?_
  try simp only [W, Nat.reduceAdd]
  refine w_box hS rfl rfl rfl rfl fun ip2 wp2 H hS => ?_
  try simp only [W]
  refine seq_n hK1 ?_
  refine w_seq fun K4 hK4 => ?_
  refine w_reg gC ?_
  try simp only [W, Nat.reduceAdd]
  refine seq_n hK4 ?_
  refine w_seq fun K5 hK5 => ?_
  refine w_reg gC ?_
  try simp only [W, EE, reduceIte, Nat.reduceAdd, Nat.reduceLeDiff, hS.var 0 rfl]
  refine w_call h fun b6 hb6 h => ?_
  refine laws_szTurns_w hb6 hS fun H hS => ?_
  try simp only [W]
  refine seq_n hK5 ?_
  refine w_seq fun K7 hK7 => ?_
  refine w_seq fun K8 hK8 => ?_
  refine w_reg gC ?_
  try simp only [W, EE, Nat.reduceAdd]
  refine seq_n hK8 ?_
  refine w_if ?_
  simp only [W]
  refine w_cnd h (fun hc h => ?_) (fun hc h => ?_)
  · refine w_seq fun K9 hK9 => ?_
    refine w_reg gC ?_
    try simp only [W, Nat.reduceAdd]
    refine seq_n hK9 ?_
    refine w_ret ?_
    refine seq_r hK7 ?_
    refine fin_r1 hK0 rfl ?_
    try obtain rfl := Option.some.inj h
    exact hP _ (hS.sel 1 [] (by decide))
  · refine w_skip ?_
    refine seq_n hK7 ?_
    refine w_seq fun K10 hK10 => ?_
    refine w_reg gC ?_
    try simp only [W, EE, reduceIte, Nat.reduceAdd, Nat.reduceLeDiff, Nat.reduceBEq, hS.var 0 rfl, List.contains_cons, Nat.reduceBEq, Bool.or_self]
    refine w_call h fun b11 hb11 h => ?_
    refine laws_toTurns_w hb11 hS fun v12 qv12 v14 qv14 d16 qd16 v17 qv17 v19 qv19 H hS => ?_
    have hS : Own _ (⟨v12, 1, b11.Quanta.map (AV.int .i64)⟩ :: ⟨v14, 1, ouw nm_SInt d16 b11.Queues⟩ :: ⟨v17, 1, b11.Credit.map (AV.int .i64)⟩ :: ⟨v19, 1, b11.Sent.map (AV.int .i64)⟩ :: ⟨.ptr ip2 wp2 0 0, 5, [.agg [.fz (a0.Quanta.map (AV.int .i64)), .fz (a0.Queues.map (fzl (AV.int .i64))), .fz (a0.Credit.map (AV.int .i64)), .fz (a0.Sent.map (AV.int .i64)), .int .i64 a0.At]]⟩ :: ((inn np_SInt (AV.int .i64) 1 d16 b11.Queues) ++ (F))) := Own.catI_ (bl := [[⟨v12, 1, b11.Quanta.map (AV.int .i64)⟩], [⟨v14, 1, ouw nm_SInt d16 b11.Queues⟩], [⟨v17, 1, b11.Credit.map (AV.int .i64)⟩], [⟨v19, 1, b11.Sent.map (AV.int .i64)⟩], (inn np_SInt (AV.int .i64) 1 d16 b11.Queues), [⟨.ptr ip2 wp2 0 0, 5, [.agg [.fz (a0.Quanta.map (AV.int .i64)), .fz (a0.Queues.map (fzl (AV.int .i64))), .fz (a0.Credit.map (AV.int .i64)), .fz (a0.Sent.map (AV.int .i64)), .int .i64 a0.At]]⟩]]) (F := F) hS 6 rfl [0, 1, 2, 3, 5, 4] (by decide)
    try simp only [W]
    have hS : Own _ (⟨v12, 1, b11.Quanta.map (AV.int .i64)⟩ :: ⟨v14, 1, ouw nm_SInt d16 b11.Queues⟩ :: ⟨v17, 1, b11.Credit.map (AV.int .i64)⟩ :: ⟨v19, 1, b11.Sent.map (AV.int .i64)⟩ :: ⟨.ptr ip2 wp2 0 0, 5, [.agg [.fz (a0.Quanta.map (AV.int .i64)), .fz (a0.Queues.map (fzl (AV.int .i64))), .fz (a0.Credit.map (AV.int .i64)), .fz (a0.Sent.map (AV.int .i64)), .int .i64 a0.At]]⟩ :: ((inn np_SInt (AV.int .i64) 1 d16 b11.Queues) ++ F)) := hS
    refine w_callO (rsh := [[.sl [.sc], .sl [.sl [.sc]], .sl [.sc], .sl [.sc], .sc], [.sc]]) (ys := [.agg [.fz (b11.Quanta.map (AV.int .i64)), .fz (b11.Queues.map (fzl (AV.int .i64))), .fz (b11.Credit.map (AV.int .i64)), .fz (b11.Sent.map (AV.int .i64)), .int .i64 b11.At], .int .i64 a1]) h rfl (pv_c (sn_agg (sm_c (sn_ow hS 0 rfl qv12 (fun _ => rfl)) (sm_c (sn_owN (enc := (fzl (AV.int .i64))) hS 1 rfl qv14 qd16 (fun _ h => (List.mem_cons_of_mem _ (List.mem_cons_of_mem _ (List.mem_cons_of_mem _ (List.mem_cons_of_mem _ (List.mem_cons_of_mem _ (List.mem_append_left _ h))))))) (fun _ _ ha hk => sn_it hk ha (fun _ => rfl))) (sm_c (sn_ow hS 2 rfl qv17 (fun _ => rfl)) (sm_c (sn_ow hS 3 rfl qv19 (fun _ => rfl)) (sm_c rfl (sm_n _))))))) (pv_c rfl pv_n)) fun b21 hb21 h => ⟨.tup [.agg [.own 1 (b21.1.Quanta.map (AV.int .i64)), .own 1 (b21.1.Queues.map nd_SInt), .own 1 (b21.1.Credit.map (AV.int .i64)), .own 1 (b21.1.Sent.map (AV.int .i64)), .int .i64 b21.1.At], .bool b21.2], spec_RunTurns_w hb21 (Own.nil _) fun v24 qv24 v25 qv25 d26 qd26 v27 qv27 v28 qv28 H hS => TV_ok rfl (TV_a (TC_ow 0 hS rfl qv24 (fun _ _ => by simp [takeE, takeT, plainA]) fun H hS => TC_owN (d := nd_SInt) (Own.catI_ (bl := [[⟨v25, 1, ouw nm_SInt d26 b21.1.Queues⟩], [⟨v27, 1, b21.1.Credit.map (AV.int .i64)⟩], [⟨v28, 1, b21.1.Sent.map (AV.int .i64)⟩], (inn np_SInt (AV.int .i64) 1 d26 b21.1.Queues)]) (F := []) hS 4 rfl [0, 3, 1, 2] (by decide)) qv25 qd26 nt_SInt fun H hS => TC_ow 0 hS rfl qv27 (fun _ _ => by simp [takeE, takeT, plainA]) fun H hS => TC_ow 0 hS rfl qv28 (fun _ _ => by simp [takeE, takeT, plainA]) fun H hS => TC_sc rfl (TC_nil (TV_p rfl (TV_n rfl))))), (nf_t (nf_c (nf_a (nf_c (noFz_o _ (fun _ => rfl) _) (nf_c (noFz_o _ nf_SInt _) (nf_c (noFz_o _ (fun _ => rfl) _) (nf_c (noFz_o _ (fun _ => rfl) _) (nf_c rfl nf_n)))))) (nf_c rfl nf_n))), ?_⟩
    obtain ⟨b22, b23⟩ := b21
    try dsimp only at h
    dsimp only
    refine thaw_tup ?_
    refine TH_a ?_
    refine TH_o hS (fun _ _ => rfl) (fun _ => rfl) fun v30 H qv30 hS => ?_
    refine TH_oN (l := b22.Queues) (d := nd_SInt) (m := nm_SInt) (p := np_SInt) (c := (AV.int .i64)) hS nc_SInt nh_SInt fun v32 d33 H qv32 qd33 hS => ?_
    have hS : Own _ (⟨v32, 1, ouw nm_SInt d33 b22.Queues⟩ :: ⟨v30, 1, b22.Quanta.map (AV.int .i64)⟩ :: ⟨v12, 1, b11.Quanta.map (AV.int .i64)⟩ :: ⟨v14, 1, ouw nm_SInt d16 b11.Queues⟩ :: ⟨v17, 1, b11.Credit.map (AV.int .i64)⟩ :: ⟨v19, 1, b11.Sent.map (AV.int .i64)⟩ :: ⟨.ptr ip2 wp2 0 0, 5, [.agg [.fz (a0.Quanta.map (AV.int .i64)), .fz (a0.Queues.map (fzl (AV.int .i64))), .fz (a0.Credit.map (AV.int .i64)), .fz (a0.Sent.map (AV.int .i64)), .int .i64 a0.At]]⟩ :: ((inn np_SInt (AV.int .i64) 1 d33 b22.Queues) ++ (((inn np_SInt (AV.int .i64) 1 d16 b11.Queues) ++ (F))))) := Own.catI_ (bl := [[⟨v32, 1, ouw nm_SInt d33 b22.Queues⟩], (inn np_SInt (AV.int .i64) 1 d33 b22.Queues), [⟨v30, 1, b22.Quanta.map (AV.int .i64)⟩], [⟨v12, 1, b11.Quanta.map (AV.int .i64)⟩], [⟨v14, 1, ouw nm_SInt d16 b11.Queues⟩], [⟨v17, 1, b11.Credit.map (AV.int .i64)⟩], [⟨v19, 1, b11.Sent.map (AV.int .i64)⟩], [⟨.ptr ip2 wp2 0 0, 5, [.agg [.fz (a0.Quanta.map (AV.int .i64)), .fz (a0.Queues.map (fzl (AV.int .i64))), .fz (a0.Credit.map (AV.int .i64)), .fz (a0.Sent.map (AV.int .i64)), .int .i64 a0.At]]⟩], (inn np_SInt (AV.int .i64) 1 d16 b11.Queues)]) (F := F) hS 9 rfl [0, 2, 3, 4, 5, 6, 7, 1, 8] (by decide)
    refine TH_o hS (fun _ _ => rfl) (fun _ => rfl) fun v35 H qv35 hS => ?_
    refine TH_o hS (fun _ _ => rfl) (fun _ => rfl) fun v37 H qv37 hS => ?_
    refine TH_p (fun _ => rfl) ?_
    refine TH_n ?_
    refine TH_p (fun _ => rfl) ?_
    refine TH_n ?_
    try simp only [List.headD_cons]
    try simp only [W]
    refine w_alloc hS rfl rfl fun ip38 wp38 H hS => ?_
    try simp only [W]
    refine w_stv (a := .agg [v30, v32, v35, v37, .int .i64 b22.At]) (y' := .agg [v30, v32, v35, v37, .int .i64 b22.At]) 0 hS rfl rfl rfl rfl rfl (by simp only [storA, List.all_cons, List.all_nil, qv30.stor, qv32.stor, qv35.stor, qv37.stor]; rfl) rfl rfl fun H hS => ?_
    try simp only [W]
    refine seq_n hK10 ?_
    refine w_seq fun K40 hK40 => ?_
    refine w_reg gC ?_
    try simp only [W, EE, reduceIte, Nat.reduceAdd, Nat.reduceLeDiff, hS.var 9 rfl]
    refine w_call h fun b41 hb41 h => ?_
    refine laws_toTurns_w hb41 hS fun v42 qv42 v44 qv44 d46 qd46 v47 qv47 v49 qv49 H hS => ?_
    have hS : Own _ (⟨v42, 1, b41.Quanta.map (AV.int .i64)⟩ :: ⟨v44, 1, ouw nm_SInt d46 b41.Queues⟩ :: ⟨v47, 1, b41.Credit.map (AV.int .i64)⟩ :: ⟨v49, 1, b41.Sent.map (AV.int .i64)⟩ :: ⟨.ptr ip38 wp38 0 0, 5, [.agg [v30, v32, v35, v37, .int .i64 b22.At]]⟩ :: ⟨v37, 1, b22.Sent.map (AV.int .i64)⟩ :: ⟨v35, 1, b22.Credit.map (AV.int .i64)⟩ :: ⟨v32, 1, ouw nm_SInt d33 b22.Queues⟩ :: ⟨v30, 1, b22.Quanta.map (AV.int .i64)⟩ :: ⟨v12, 1, b11.Quanta.map (AV.int .i64)⟩ :: ⟨v14, 1, ouw nm_SInt d16 b11.Queues⟩ :: ⟨v17, 1, b11.Credit.map (AV.int .i64)⟩ :: ⟨v19, 1, b11.Sent.map (AV.int .i64)⟩ :: ⟨.ptr ip2 wp2 0 0, 5, [.agg [.fz (a0.Quanta.map (AV.int .i64)), .fz (a0.Queues.map (fzl (AV.int .i64))), .fz (a0.Credit.map (AV.int .i64)), .fz (a0.Sent.map (AV.int .i64)), .int .i64 a0.At]]⟩ :: ((inn np_SInt (AV.int .i64) 1 d46 b41.Queues) ++ (((inn np_SInt (AV.int .i64) 1 d33 b22.Queues) ++ (((inn np_SInt (AV.int .i64) 1 d16 b11.Queues) ++ (F))))))) := Own.catI_ (bl := [[⟨v42, 1, b41.Quanta.map (AV.int .i64)⟩], [⟨v44, 1, ouw nm_SInt d46 b41.Queues⟩], [⟨v47, 1, b41.Credit.map (AV.int .i64)⟩], [⟨v49, 1, b41.Sent.map (AV.int .i64)⟩], (inn np_SInt (AV.int .i64) 1 d46 b41.Queues), [⟨.ptr ip38 wp38 0 0, 5, [.agg [v30, v32, v35, v37, .int .i64 b22.At]]⟩], [⟨v37, 1, b22.Sent.map (AV.int .i64)⟩], [⟨v35, 1, b22.Credit.map (AV.int .i64)⟩], [⟨v32, 1, ouw nm_SInt d33 b22.Queues⟩], [⟨v30, 1, b22.Quanta.map (AV.int .i64)⟩], [⟨v12, 1, b11.Quanta.map (AV.int .i64)⟩], [⟨v14, 1, ouw nm_SInt d16 b11.Queues⟩], [⟨v17, 1, b11.Credit.map (AV.int .i64)⟩], [⟨v19, 1, b11.Sent.map (AV.int .i64)⟩], [⟨.ptr ip2 wp2 0 0, 5, [.agg [.fz (a0.Quanta.map (AV.int .i64)), .fz (a0.Queues.map (fzl (AV.int .i64))), .fz (a0.Credit.map (AV.int .i64)), .fz (a0.Sent.map (AV.int .i64)), .int .i64 a0.At]]⟩], (inn np_SInt (AV.int .i64) 1 d33 b22.Queues), (inn np_SInt (AV.int .i64) 1 d16 b11.Queues)]) (F := F) hS 17 rfl [0, 1, 2, 3, 5, 6, 7, 8, 9, 10, 11, 12, 13, 14, 4, 15, 16] (by decide)
    try simp only [W]
    refine w_alloc hS rfl rfl fun ip51 wp51 H hS => ?_
    try simp only [W]
    refine w_stv (a := .agg [v42, v44, v47, v49, .int .i64 b41.At]) (y' := .agg [v42, v44, v47, v49, .int .i64 b41.At]) 0 hS rfl rfl rfl rfl rfl (by simp only [storA, List.all_cons, List.all_nil, qv42.stor, qv44.stor, qv47.stor, qv49.stor]; rfl) rfl rfl fun H hS => ?_
    try simp only [W]
    refine seq_n hK40 ?_
    refine w_seq fun K53 hK53 => ?_
    refine w_reg gC ?_
    try simp only [W, EE, reduceIte, Nat.reduceAdd, Nat.reduceLeDiff, Nat.reduceBEq, hS.var 0 rfl, List.contains_cons, Nat.reduceBEq, Bool.or_self]
    have hS : Own _ (⟨.ptr ip51 wp51 0 0, 5, [.agg [v42, v44, v47, v49, .int .i64 b41.At]]⟩ :: ⟨v42, 1, b41.Quanta.map (AV.int .i64)⟩ :: ⟨v44, 1, ouw nm_SInt d46 b41.Queues⟩ :: ⟨v47, 1, b41.Credit.map (AV.int .i64)⟩ :: ⟨v49, 1, b41.Sent.map (AV.int .i64)⟩ :: ⟨.ptr ip38 wp38 0 0, 5, [.agg [v30, v32, v35, v37, .int .i64 b22.At]]⟩ :: ⟨v37, 1, b22.Sent.map (AV.int .i64)⟩ :: ⟨v35, 1, b22.Credit.map (AV.int .i64)⟩ :: ⟨v32, 1, ouw nm_SInt d33 b22.Queues⟩ :: ⟨v30, 1, b22.Quanta.map (AV.int .i64)⟩ :: ⟨v12, 1, b11.Quanta.map (AV.int .i64)⟩ :: ⟨v14, 1, ouw nm_SInt d16 b11.Queues⟩ :: ⟨v17, 1, b11.Credit.map (AV.int .i64)⟩ :: ⟨v19, 1, b11.Sent.map (AV.int .i64)⟩ :: ⟨.ptr ip2 wp2 0 0, 5, [.agg [.fz (a0.Quanta.map (AV.int .i64)), .fz (a0.Queues.map (fzl (AV.int .i64))), .fz (a0.Credit.map (AV.int .i64)), .fz (a0.Sent.map (AV.int .i64)), .int .i64 a0.At]]⟩ :: ((inn np_SInt (AV.int .i64) 1 d46 b41.Queues) ++ ((inn np_SInt (AV.int .i64) 1 d33 b22.Queues) ++ ((inn np_SInt (AV.int .i64) 1 d16 b11.Queues) ++ F)))) := hS
    refine w_callO (rsh := [[.sl [.sc], .sl [.sl [.sc]], .sl [.sc], .sl [.sc], .sc], [.sc]]) (ys := [.agg [.fz (b41.Quanta.map (AV.int .i64)), .fz (b41.Queues.map (fzl (AV.int .i64))), .fz (b41.Credit.map (AV.int .i64)), .fz (b41.Sent.map (AV.int .i64)), .int .i64 b41.At], .int .i64 a1]) h rfl (pv_c (sn_agg (sm_c (sn_ow hS 1 rfl qv42 (fun _ => rfl)) (sm_c (sn_owN (enc := (fzl (AV.int .i64))) hS 2 rfl qv44 qd46 (fun _ h => (List.mem_cons_of_mem _ (List.mem_cons_of_mem _ (List.mem_cons_of_mem _ (List.mem_cons_of_mem _ (List.mem_cons_of_mem _ (List.mem_cons_of_mem _ (List.mem_cons_of_mem _ (List.mem_cons_of_mem _ (List.mem_cons_of_mem _ (List.mem_cons_of_mem _ (List.mem_cons_of_mem _ (List.mem_cons_of_mem _ (List.mem_cons_of_mem _ (List.mem_cons_of_mem _ (List.mem_cons_of_mem _ (List.mem_append_left _ h))))))))))))))))) (fun _ _ ha hk => sn_it hk ha (fun _ => rfl))) (sm_c (sn_ow hS 3 rfl qv47 (fun _ => rfl)) (sm_c (sn_ow hS 4 rfl qv49 (fun _ => rfl)) (sm_c rfl (sm_n _))))))) (pv_c rfl pv_n)) fun b54 hb54 h => ⟨.tup [.agg [.own 1 (b54.1.Quanta.map (AV.int .i64)), .own 1 (b54.1.Queues.map nd_SInt), .own 1 (b54.1.Credit.map (AV.int .i64)), .own 1 (b54.1.Sent.map (AV.int .i64)), .int .i64 b54.1.At], .bool b54.2], impl_RunTurns_w hb54 (Own.nil _) fun v57 qv57 v58 qv58 d59 qd59 v60 qv60 v61 qv61 H hS => TV_ok rfl (TV_a (TC_ow 0 hS rfl qv57 (fun _ _ => by simp [takeE, takeT, plainA]) fun H hS => TC_owN (d := nd_SInt) (Own.catI_ (bl := [[⟨v58, 1, ouw nm_SInt d59 b54.1.Queues⟩], [⟨v60, 1, b54.1.Credit.map (AV.int .i64)⟩], [⟨v61, 1, b54.1.Sent.map (AV.int .i64)⟩], (inn np_SInt (AV.int .i64) 1 d59 b54.1.Queues)]) (F := []) hS 4 rfl [0, 3, 1, 2] (by decide)) qv58 qd59 nt_SInt fun H hS => TC_ow 0 hS rfl qv60 (fun _ _ => by simp [takeE, takeT, plainA]) fun H hS => TC_ow 0 hS rfl qv61 (fun _ _ => by simp [takeE, takeT, plainA]) fun H hS => TC_sc rfl (TC_nil (TV_p rfl (TV_n rfl))))), (nf_t (nf_c (nf_a (nf_c (noFz_o _ (fun _ => rfl) _) (nf_c (noFz_o _ nf_SInt _) (nf_c (noFz_o _ (fun _ => rfl) _) (nf_c (noFz_o _ (fun _ => rfl) _) (nf_c rfl nf_n)))))) (nf_c rfl nf_n))), ?_⟩
    obtain ⟨b55, b56⟩ := b54
    try dsimp only at h
    dsimp only
    refine thaw_tup ?_
    refine TH_a ?_
    refine TH_o hS (fun _ _ => rfl) (fun _ => rfl) fun v63 H qv63 hS => ?_
    refine TH_oN (l := b55.Queues) (d := nd_SInt) (m := nm_SInt) (p := np_SInt) (c := (AV.int .i64)) hS nc_SInt nh_SInt fun v65 d66 H qv65 qd66 hS => ?_
    have hS : Own _ (⟨v65, 1, ouw nm_SInt d66 b55.Queues⟩ :: ⟨v63, 1, b55.Quanta.map (AV.int .i64)⟩ :: ⟨.ptr ip51 wp51 0 0, 5, [.agg [v42, v44, v47, v49, .int .i64 b41.At]]⟩ :: ⟨v42, 1, b41.Quanta.map (AV.int .i64)⟩ :: ⟨v44, 1, ouw nm_SInt d46 b41.Queues⟩ :: ⟨v47, 1, b41.Credit.map (AV.int .i64)⟩ :: ⟨v49, 1, b41.Sent.map (AV.int .i64)⟩ :: ⟨.ptr ip38 wp38 0 0, 5, [.agg [v30, v32, v35, v37, .int .i64 b22.At]]⟩ :: ⟨v37, 1, b22.Sent.map (AV.int .i64)⟩ :: ⟨v35, 1, b22.Credit.map (AV.int .i64)⟩ :: ⟨v32, 1, ouw nm_SInt d33 b22.Queues⟩ :: ⟨v30, 1, b22.Quanta.map (AV.int .i64)⟩ :: ⟨v12, 1, b11.Quanta.map (AV.int .i64)⟩ :: ⟨v14, 1, ouw nm_SInt d16 b11.Queues⟩ :: ⟨v17, 1, b11.Credit.map (AV.int .i64)⟩ :: ⟨v19, 1, b11.Sent.map (AV.int .i64)⟩ :: ⟨.ptr ip2 wp2 0 0, 5, [.agg [.fz (a0.Quanta.map (AV.int .i64)), .fz (a0.Queues.map (fzl (AV.int .i64))), .fz (a0.Credit.map (AV.int .i64)), .fz (a0.Sent.map (AV.int .i64)), .int .i64 a0.At]]⟩ :: ((inn np_SInt (AV.int .i64) 1 d66 b55.Queues) ++ (((inn np_SInt (AV.int .i64) 1 d46 b41.Queues) ++ (((inn np_SInt (AV.int .i64) 1 d33 b22.Queues) ++ (((inn np_SInt (AV.int .i64) 1 d16 b11.Queues) ++ (F))))))))) := Own.catI_ (bl := [[⟨v65, 1, ouw nm_SInt d66 b55.Queues⟩], (inn np_SInt (AV.int .i64) 1 d66 b55.Queues), [⟨v63, 1, b55.Quanta.map (AV.int .i64)⟩], [⟨.ptr ip51 wp51 0 0, 5, [.agg [v42, v44, v47, v49, .int .i64 b41.At]]⟩], [⟨v42, 1, b41.Quanta.map (AV.int .i64)⟩], [⟨v44, 1, ouw nm_SInt d46 b41.Queues⟩], [⟨v47, 1, b41.Credit.map (AV.int .i64)⟩], [⟨v49, 1, b41.Sent.map (AV.int .i64)⟩], [⟨.ptr ip38 wp38 0 0, 5, [.agg [v30, v32, v35, v37, .int .i64 b22.At]]⟩], [⟨v37, 1, b22.Sent.map (AV.int .i64)⟩], [⟨v35, 1, b22.Credit.map (AV.int .i64)⟩], [⟨v32, 1, ouw nm_SInt d33 b22.Queues⟩], [⟨v30, 1, b22.Quanta.map (AV.int .i64)⟩], [⟨v12, 1, b11.Quanta.map (AV.int .i64)⟩], [⟨v14, 1, ouw nm_SInt d16 b11.Queues⟩], [⟨v17, 1, b11.Credit.map (AV.int .i64)⟩], [⟨v19, 1, b11.Sent.map (AV.int .i64)⟩], [⟨.ptr ip2 wp2 0 0, 5, [.agg [.fz (a0.Quanta.map (AV.int .i64)), .fz (a0.Queues.map (fzl (AV.int .i64))), .fz (a0.Credit.map (AV.int .i64)), .fz (a0.Sent.map (AV.int .i64)), .int .i64 a0.At]]⟩], (inn np_SInt (AV.int .i64) 1 d46 b41.Queues), (inn np_SInt (AV.int .i64) 1 d33 b22.Queues), (inn np_SInt (AV.int .i64) 1 d16 b11.Queues)]) (F := F) hS 21 rfl [0, 2, 3, 4, 5, 6, 7, 8, 9, 10, 11, 12, 13, 14, 15, 16, 17, 1, 18, 19, 20] (by decide)
    refine TH_o hS (fun _ _ => rfl) (fun _ => rfl) fun v68 H qv68 hS => ?_
    refine TH_o hS (fun _ _ => rfl) (fun _ => rfl) fun v70 H qv70 hS => ?_
    refine TH_p (fun _ => rfl) ?_
    refine TH_n ?_
    refine TH_p (fun _ => rfl) ?_
    refine TH_n ?_
    try simp only [List.headD_cons]
    try simp only [W]
    refine w_alloc hS rfl rfl fun ip71 wp71 H hS => ?_
    try simp only [W]
    refine w_stv (a := .agg [v63, v65, v68, v70, .int .i64 b55.At]) (y' := .agg [v63, v65, v68, v70, .int .i64 b55.At]) 0 hS rfl rfl rfl rfl rfl (by simp only [storA, List.all_cons, List.all_nil, qv63.stor, qv65.stor, qv68.stor, qv70.stor]; rfl) rfl rfl fun H hS => ?_
    try simp only [W]
    refine seq_n hK53 ?_
    refine w_seq fun K73 hK73 => ?_
    refine w_seq fun K74 hK74 => ?_
    obtain ⟨y76, h, g77⟩ := Option.bind_eq_some_iff.1 h
    refine w_join gC (fun s H => ∃ x75 : Bool, y76 = (x75) ∧ s = (u :: .int .i64 a1 :: .ptr ip2 wp2 0 0 :: u :: u :: u :: .ptr ip38 wp38 0 0 :: .bool b23 :: .ptr ip51 wp51 0 0 :: .ptr ip71 wp71 0 0 :: .bool b56 :: u :: u :: u :: u :: u :: u :: u :: u :: u :: u :: u :: u :: u :: u :: u :: u :: u :: u :: u :: u :: u :: u :: u :: u :: u :: u :: u :: u :: u :: u :: u :: u :: u :: .bool x75 :: u :: u :: u :: u :: u :: u :: u :: u :: u :: u :: u :: u :: u :: u :: u :: u :: u :: u :: u :: u :: u :: u :: u :: u :: u :: u :: u :: u :: u :: u :: u :: u :: u :: u :: u :: u :: u :: u :: u :: u :: u :: u :: u :: u :: u :: u :: u :: u :: u :: u :: u :: u :: u :: u :: u :: u :: []) ∧ Own H (⟨v30, 1, b22.Quanta.map (AV.int .i64)⟩ :: ⟨v32, 1, ouw nm_SInt d33 b22.Queues⟩ :: ⟨v35, 1, b22.Credit.map (AV.int .i64)⟩ :: ⟨v37, 1, b22.Sent.map (AV.int .i64)⟩ :: ⟨v42, 1, b41.Quanta.map (AV.int .i64)⟩ :: ⟨v44, 1, ouw nm_SInt d46 b41.Queues⟩ :: ⟨v47, 1, b41.Credit.map (AV.int .i64)⟩ :: ⟨v49, 1, b41.Sent.map (AV.int .i64)⟩ :: ⟨v63, 1, b55.Quanta.map (AV.int .i64)⟩ :: ⟨v65, 1, ouw nm_SInt d66 b55.Queues⟩ :: ⟨v68, 1, b55.Credit.map (AV.int .i64)⟩ :: ⟨v70, 1, b55.Sent.map (AV.int .i64)⟩ :: ⟨.ptr ip2 wp2 0 0, 5, [.agg [.fz (a0.Quanta.map (AV.int .i64)), .fz (a0.Queues.map (fzl (AV.int .i64))), .fz (a0.Credit.map (AV.int .i64)), .fz (a0.Sent.map (AV.int .i64)), .int .i64 a0.At]]⟩ :: ⟨.ptr ip38 wp38 0 0, 5, [.agg [v30, v32, v35, v37, .int .i64 b22.At]]⟩ :: ⟨.ptr ip51 wp51 0 0, 5, [.agg [v42, v44, v47, v49, .int .i64 b41.At]]⟩ :: ⟨.ptr ip71 wp71 0 0, 5, [.agg [v63, v65, v68, v70, .int .i64 b55.At]]⟩ :: ((inn np_SInt (AV.int .i64) 1 d33 b22.Queues) ++ ((inn np_SInt (AV.int .i64) 1 d46 b41.Queues) ++ ((inn np_SInt (AV.int .i64) 1 d66 b55.Queues) ++ F))))) (fun K78 hK78 => ?_) (fun s H hq => ?_)
    · refine w_seq fun K79 hK79 => ?_
      refine w_reg gC ?_
      try simp only [W, EE, reduceIte, Nat.reduceAdd, Nat.reduceLeDiff, hS.var 10 rfl, hS.var 0 rfl]
      have hS : Own _ (⟨.ptr ip71 wp71 0 0, 5, [.agg [v63, v65, v68, v70, .int .i64 b55.At]]⟩ :: ⟨v70, 1, b55.Sent.map (AV.int .i64)⟩ :: ⟨v68, 1, b55.Credit.map (AV.int .i64)⟩ :: ⟨v65, 1, ouw nm_SInt d66 b55.Queues⟩ :: ⟨v63, 1, b55.Quanta.map (AV.int .i64)⟩ :: ⟨.ptr ip51 wp51 0 0, 5, [.agg [v42, v44, v47, v49, .int .i64 b41.At]]⟩ :: ⟨v42, 1, b41.Quanta.map (AV.int .i64)⟩ :: ⟨v44, 1, ouw nm_SInt d46 b41.Queues⟩ :: ⟨v47, 1, b41.Credit.map (AV.int .i64)⟩ :: ⟨v49, 1, b41.Sent.map (AV.int .i64)⟩ :: ⟨.ptr ip38 wp38 0 0, 5, [.agg [v30, v32, v35, v37, .int .i64 b22.At]]⟩ :: ⟨v37, 1, b22.Sent.map (AV.int .i64)⟩ :: ⟨v35, 1, b22.Credit.map (AV.int .i64)⟩ :: ⟨v32, 1, ouw nm_SInt d33 b22.Queues⟩ :: ⟨v30, 1, b22.Quanta.map (AV.int .i64)⟩ :: ⟨v12, 1, b11.Quanta.map (AV.int .i64)⟩ :: ⟨v14, 1, ouw nm_SInt d16 b11.Queues⟩ :: ⟨v17, 1, b11.Credit.map (AV.int .i64)⟩ :: ⟨v19, 1, b11.Sent.map (AV.int .i64)⟩ :: ⟨.ptr ip2 wp2 0 0, 5, [.agg [.fz (a0.Quanta.map (AV.int .i64)), .fz (a0.Queues.map (fzl (AV.int .i64))), .fz (a0.Credit.map (AV.int .i64)), .fz (a0.Sent.map (AV.int .i64)), .int .i64 a0.At]]⟩ :: ((inn np_SInt (AV.int .i64) 1 d66 b55.Queues) ++ ((inn np_SInt (AV.int .i64) 1 d46 b41.Queues) ++ ((inn np_SInt (AV.int .i64) 1 d33 b22.Queues) ++ ((inn np_SInt (AV.int .i64) 1 d16 b11.Queues) ++ F))))) := hS
      refine w_callS (rsh := [[.sc]]) (ys := [.agg [.fz (b55.Quanta.map (AV.int .i64)), .fz (b55.Queues.map (fzl (AV.int .i64))), .fz (b55.Credit.map (AV.int .i64)), .fz (b55.Sent.map (AV.int .i64)), .int .i64 b55.At], .agg [.fz (b22.Quanta.map (AV.int .i64)), .fz (b22.Queues.map (fzl (AV.int .i64))), .fz (b22.Credit.map (AV.int .i64)), .fz (b22.Sent.map (AV.int .i64)), .int .i64 b22.At]]) h rfl (pv_c (sn_agg (sm_c (sn_ow hS 4 rfl qv63 (fun _ => rfl)) (sm_c (sn_owN (enc := (fzl (AV.int .i64))) hS 3 rfl qv65 qd66 (fun _ h => (List.mem_cons_of_mem _ (List.mem_cons_of_mem _ (List.mem_cons_of_mem _ (List.mem_cons_of_mem _ (List.mem_cons_of_mem _ (List.mem_cons_of_mem _ (List.mem_cons_of_mem _ (List.mem_cons_of_mem _ (List.mem_cons_of_mem _ (List.mem_cons_of_mem _ (List.mem_cons_of_mem _ (List.mem_cons_of_mem _ (List.mem_cons_of_mem _ (List.mem_cons_of_mem _ (List.mem_cons_of_mem _ (List.mem_cons_of_mem _ (List.mem_cons_of_mem _ (List.mem_cons_of_mem _ (List.mem_cons_of_mem _ (List.mem_cons_of_mem _ (List.mem_append_left _ h)))))))))))))))))))))) (fun _ _ ha hk => sn_it hk ha (fun _ => rfl))) (sm_c (sn_ow hS 2 rfl qv68 (fun _ => rfl)) (sm_c (sn_ow hS 1 rfl qv70 (fun _ => rfl)) (sm_c rfl (sm_n _))))))) (pv_c (sn_agg (sm_c (sn_ow hS 14 rfl qv30 (fun _ => rfl)) (sm_c (sn_owN (enc := (fzl (AV.int .i64))) hS 13 rfl qv32 qd33 (fun _ h => (List.mem_cons_of_mem _ (List.mem_cons_of_mem _ (List.mem_cons_of_mem _ (List.mem_cons_of_mem _ (List.mem_cons_of_mem _ (List.mem_cons_of_mem _ (List.mem_cons_of_mem _ (List.mem_cons_of_mem _ (List.mem_cons_of_mem _ (List.mem_cons_of_mem _ (List.mem_cons_of_mem _ (List.mem_cons_of_mem _ (List.mem_cons_of_mem _ (List.mem_cons_of_mem _ (List.mem_cons_of_mem _ (List.mem_cons_of_mem _ (List.mem_cons_of_mem _ (List.mem_cons_of_mem _ (List.mem_cons_of_mem _ (List.mem_cons_of_mem _ (List.mem_append_right _ (List.mem_append_right _ (List.mem_append_left _ h)))))))))))))))))))))))) (fun _ _ ha hk => sn_it hk ha (fun _ => rfl))) (sm_c (sn_ow hS 12 rfl qv35 (fun _ => rfl)) (sm_c (sn_ow hS 11 rfl qv37 (fun _ => rfl)) (sm_c rfl (sm_n _))))))) pv_n)) fun b80 hb80 h => ⟨.bool b80, laws_eqTurns_w hb80 (Own.nil _) fun H hS => TV_ok rfl (TV_p rfl (TV_n rfl)), ⟨rfl, rfl, fun _ => rfl⟩, ?_⟩
      try simp only [W]
      refine w_grdT h (fun hc h => ?_) (fun hc h => ?_)
      · try simp only [W, hc]
        refine seq_n hK79 ?_
        refine w_killE (s' := (u :: .int .i64 a1 :: .ptr ip2 wp2 0 0 :: u :: u :: u :: .ptr ip38 wp38 0 0 :: .bool b23 :: .ptr ip51 wp51 0 0 :: .ptr ip71 wp71 0 0 :: .bool b56 :: u :: u :: u :: u :: u :: u :: u :: u :: u :: u :: u :: u :: u :: u :: u :: u :: u :: u :: u :: u :: u :: u :: u :: u :: u :: u :: u :: u :: u :: u :: u :: u :: u :: .bool true :: u :: u :: u :: u :: u :: u :: u :: u :: u :: u :: u :: u :: u :: u :: u :: u :: u :: u :: u :: u :: u :: u :: u :: u :: u :: u :: u :: u :: u :: u :: u :: u :: u :: u :: u :: u :: u :: u :: u :: u :: u :: u :: u :: u :: u :: u :: u :: u :: u :: u :: u :: u :: u :: u :: u :: u :: [])) rfl ?_
        have hS : Own _ (⟨v30, 1, b22.Quanta.map (AV.int .i64)⟩ :: ⟨v32, 1, ouw nm_SInt d33 b22.Queues⟩ :: ⟨v35, 1, b22.Credit.map (AV.int .i64)⟩ :: ⟨v37, 1, b22.Sent.map (AV.int .i64)⟩ :: ⟨v42, 1, b41.Quanta.map (AV.int .i64)⟩ :: ⟨v44, 1, ouw nm_SInt d46 b41.Queues⟩ :: ⟨v47, 1, b41.Credit.map (AV.int .i64)⟩ :: ⟨v49, 1, b41.Sent.map (AV.int .i64)⟩ :: ⟨v63, 1, b55.Quanta.map (AV.int .i64)⟩ :: ⟨v65, 1, ouw nm_SInt d66 b55.Queues⟩ :: ⟨v68, 1, b55.Credit.map (AV.int .i64)⟩ :: ⟨v70, 1, b55.Sent.map (AV.int .i64)⟩ :: ⟨.ptr ip2 wp2 0 0, 5, [.agg [.fz (a0.Quanta.map (AV.int .i64)), .fz (a0.Queues.map (fzl (AV.int .i64))), .fz (a0.Credit.map (AV.int .i64)), .fz (a0.Sent.map (AV.int .i64)), .int .i64 a0.At]]⟩ :: ⟨.ptr ip38 wp38 0 0, 5, [.agg [v30, v32, v35, v37, .int .i64 b22.At]]⟩ :: ⟨.ptr ip51 wp51 0 0, 5, [.agg [v42, v44, v47, v49, .int .i64 b41.At]]⟩ :: ⟨.ptr ip71 wp71 0 0, 5, [.agg [v63, v65, v68, v70, .int .i64 b55.At]]⟩ :: ((inn np_SInt (AV.int .i64) 1 d33 b22.Queues) ++ (((inn np_SInt (AV.int .i64) 1 d46 b41.Queues) ++ (((inn np_SInt (AV.int .i64) 1 d66 b55.Queues) ++ (F))))))) := Own.catI_ (bl := [[⟨.ptr ip71 wp71 0 0, 5, [.agg [v63, v65, v68, v70, .int .i64 b55.At]]⟩], [⟨v70, 1, b55.Sent.map (AV.int .i64)⟩], [⟨v68, 1, b55.Credit.map (AV.int .i64)⟩], [⟨v65, 1, ouw nm_SInt d66 b55.Queues⟩], [⟨v63, 1, b55.Quanta.map (AV.int .i64)⟩], [⟨.ptr ip51 wp51 0 0, 5, [.agg [v42, v44, v47, v49, .int .i64 b41.At]]⟩], [⟨v42, 1, b41.Quanta.map (AV.int .i64)⟩], [⟨v44, 1, ouw nm_SInt d46 b41.Queues⟩], [⟨v47, 1, b41.Credit.map (AV.int .i64)⟩], [⟨v49, 1, b41.Sent.map (AV.int .i64)⟩], [⟨.ptr ip38 wp38 0 0, 5, [.agg [v30, v32, v35, v37, .int .i64 b22.At]]⟩], [⟨v37, 1, b22.Sent.map (AV.int .i64)⟩], [⟨v35, 1, b22.Credit.map (AV.int .i64)⟩], [⟨v32, 1, ouw nm_SInt d33 b22.Queues⟩], [⟨v30, 1, b22.Quanta.map (AV.int .i64)⟩], [⟨v12, 1, b11.Quanta.map (AV.int .i64)⟩], [⟨v14, 1, ouw nm_SInt d16 b11.Queues⟩], [⟨v17, 1, b11.Credit.map (AV.int .i64)⟩], [⟨v19, 1, b11.Sent.map (AV.int .i64)⟩], [⟨.ptr ip2 wp2 0 0, 5, [.agg [.fz (a0.Quanta.map (AV.int .i64)), .fz (a0.Queues.map (fzl (AV.int .i64))), .fz (a0.Credit.map (AV.int .i64)), .fz (a0.Sent.map (AV.int .i64)), .int .i64 a0.At]]⟩], (inn np_SInt (AV.int .i64) 1 d66 b55.Queues), (inn np_SInt (AV.int .i64) 1 d46 b41.Queues), (inn np_SInt (AV.int .i64) 1 d33 b22.Queues), (inn np_SInt (AV.int .i64) 1 d16 b11.Queues)]) (F := F) hS 24 rfl [14, 13, 12, 11, 6, 7, 8, 9, 4, 3, 2, 1, 19, 10, 5, 0, 22, 21, 20] (by decide)
        exact cut_n hK78 ⟨_, (Option.some.inj h).symm, rfl, hS⟩
      · try simp only [W, EE, hc]
        rw [b_bneq _ _ _ _ (h := rfl) rfl, resV_s]
        try simp only [W, reduceIte, Bool.false_eq_true]
        refine seq_n hK79 ?_
        refine w_killE (s' := (u :: .int .i64 a1 :: .ptr ip2 wp2 0 0 :: u :: u :: u :: .ptr ip38 wp38 0 0 :: .bool b23 :: .ptr ip51 wp51 0 0 :: .ptr ip71 wp71 0 0 :: .bool b56 :: u :: u :: u :: u :: u :: u :: u :: u :: u :: u :: u :: u :: u :: u :: u :: u :: u :: u :: u :: u :: u :: u :: u :: u :: u :: u :: u :: u :: u :: u :: u :: u :: u :: .bool (!(b56 == b23)) :: u :: u :: u :: u :: u :: u :: u :: u :: u :: u :: u :: u :: u :: u :: u :: u :: u :: u :: u :: u :: u :: u :: u :: u :: u :: u :: u :: u :: u :: u :: u :: u :: u :: u :: u :: u :: u :: u :: u :: u :: u :: u :: u :: u :: u :: u :: u :: u :: u :: u :: u :: u :: u :: u :: u :: u :: [])) rfl ?_
        have hS : Own _ (⟨v30, 1, b22.Quanta.map (AV.int .i64)⟩ :: ⟨v32, 1, ouw nm_SInt d33 b22.Queues⟩ :: ⟨v35, 1, b22.Credit.map (AV.int .i64)⟩ :: ⟨v37, 1, b22.Sent.map (AV.int .i64)⟩ :: ⟨v42, 1, b41.Quanta.map (AV.int .i64)⟩ :: ⟨v44, 1, ouw nm_SInt d46 b41.Queues⟩ :: ⟨v47, 1, b41.Credit.map (AV.int .i64)⟩ :: ⟨v49, 1, b41.Sent.map (AV.int .i64)⟩ :: ⟨v63, 1, b55.Quanta.map (AV.int .i64)⟩ :: ⟨v65, 1, ouw nm_SInt d66 b55.Queues⟩ :: ⟨v68, 1, b55.Credit.map (AV.int .i64)⟩ :: ⟨v70, 1, b55.Sent.map (AV.int .i64)⟩ :: ⟨.ptr ip2 wp2 0 0, 5, [.agg [.fz (a0.Quanta.map (AV.int .i64)), .fz (a0.Queues.map (fzl (AV.int .i64))), .fz (a0.Credit.map (AV.int .i64)), .fz (a0.Sent.map (AV.int .i64)), .int .i64 a0.At]]⟩ :: ⟨.ptr ip38 wp38 0 0, 5, [.agg [v30, v32, v35, v37, .int .i64 b22.At]]⟩ :: ⟨.ptr ip51 wp51 0 0, 5, [.agg [v42, v44, v47, v49, .int .i64 b41.At]]⟩ :: ⟨.ptr ip71 wp71 0 0, 5, [.agg [v63, v65, v68, v70, .int .i64 b55.At]]⟩ :: ((inn np_SInt (AV.int .i64) 1 d33 b22.Queues) ++ (((inn np_SInt (AV.int .i64) 1 d46 b41.Queues) ++ (((inn np_SInt (AV.int .i64) 1 d66 b55.Queues) ++ (F))))))) := Own.catI_ (bl := [[⟨.ptr ip71 wp71 0 0, 5, [.agg [v63, v65, v68, v70, .int .i64 b55.At]]⟩], [⟨v70, 1, b55.Sent.map (AV.int .i64)⟩], [⟨v68, 1, b55.Credit.map (AV.int .i64)⟩], [⟨v65, 1, ouw nm_SInt d66 b55.Queues⟩], [⟨v63, 1, b55.Quanta.map (AV.int .i64)⟩], [⟨.ptr ip51 wp51 0 0, 5, [.agg [v42, v44, v47, v49, .int .i64 b41.At]]⟩], [⟨v42, 1, b41.Quanta.map (AV.int .i64)⟩], [⟨v44, 1, ouw nm_SInt d46 b41.Queues⟩], [⟨v47, 1, b41.Credit.map (AV.int .i64)⟩], [⟨v49, 1, b41.Sent.map (AV.int .i64)⟩], [⟨.ptr ip38 wp38 0 0, 5, [.agg [v30, v32, v35, v37, .int .i64 b22.At]]⟩], [⟨v37, 1, b22.Sent.map (AV.int .i64)⟩], [⟨v35, 1, b22.Credit.map (AV.int .i64)⟩], [⟨v32, 1, ouw nm_SInt d33 b22.Queues⟩], [⟨v30, 1, b22.Quanta.map (AV.int .i64)⟩], [⟨v12, 1, b11.Quanta.map (AV.int .i64)⟩], [⟨v14, 1, ouw nm_SInt d16 b11.Queues⟩], [⟨v17, 1, b11.Credit.map (AV.int .i64)⟩], [⟨v19, 1, b11.Sent.map (AV.int .i64)⟩], [⟨.ptr ip2 wp2 0 0, 5, [.agg [.fz (a0.Quanta.map (AV.int .i64)), .fz (a0.Queues.map (fzl (AV.int .i64))), .fz (a0.Credit.map (AV.int .i64)), .fz (a0.Sent.map (AV.int .i64)), .int .i64 a0.At]]⟩], (inn np_SInt (AV.int .i64) 1 d66 b55.Queues), (inn np_SInt (AV.int .i64) 1 d46 b41.Queues), (inn np_SInt (AV.int .i64) 1 d33 b22.Queues), (inn np_SInt (AV.int .i64) 1 d16 b11.Queues)]) (F := F) hS 24 rfl [14, 13, 12, 11, 6, 7, 8, 9, 4, 3, 2, 1, 19, 10, 5, 0, 22, 21, 20] (by decide)
        exact cut_n hK78 ⟨_, (Option.some.inj h).symm, rfl, hS⟩
    · obtain ⟨x75, ey, rfl, hS⟩ := hq; obtain rfl := ey.symm
      replace h := g77
      try dsimp only at h
      refine seq_n hK74 ?_
      refine w_if ?_
      simp only [W]
      refine w_cnd h (fun hc h => ?_) (fun hc h => ?_)
      · refine w_seq fun K81 hK81 => ?_
        refine w_reg gC ?_
        try simp only [W, Nat.reduceAdd]
        refine seq_n hK81 ?_
        refine w_ret ?_
        refine seq_r hK73 ?_
        refine fin_r1 hK0 rfl ?_
        try obtain rfl := Option.some.inj h
        have hS : Own _ (F) := Own.catI_ (bl := [[⟨v30, 1, b22.Quanta.map (AV.int .i64)⟩], [⟨v32, 1, ouw nm_SInt d33 b22.Queues⟩], [⟨v35, 1, b22.Credit.map (AV.int .i64)⟩], [⟨v37, 1, b22.Sent.map (AV.int .i64)⟩], [⟨v42, 1, b41.Quanta.map (AV.int .i64)⟩], [⟨v44, 1, ouw nm_SInt d46 b41.Queues⟩], [⟨v47, 1, b41.Credit.map (AV.int .i64)⟩], [⟨v49, 1, b41.Sent.map (AV.int .i64)⟩], [⟨v63, 1, b55.Quanta.map (AV.int .i64)⟩], [⟨v65, 1, ouw nm_SInt d66 b55.Queues⟩], [⟨v68, 1, b55.Credit.map (AV.int .i64)⟩], [⟨v70, 1, b55.Sent.map (AV.int .i64)⟩], [⟨.ptr ip2 wp2 0 0, 5, [.agg [.fz (a0.Quanta.map (AV.int .i64)), .fz (a0.Queues.map (fzl (AV.int .i64))), .fz (a0.Credit.map (AV.int .i64)), .fz (a0.Sent.map (AV.int .i64)), .int .i64 a0.At]]⟩], [⟨.ptr ip38 wp38 0 0, 5, [.agg [v30, v32, v35, v37, .int .i64 b22.At]]⟩], [⟨.ptr ip51 wp51 0 0, 5, [.agg [v42, v44, v47, v49, .int .i64 b41.At]]⟩], [⟨.ptr ip71 wp71 0 0, 5, [.agg [v63, v65, v68, v70, .int .i64 b55.At]]⟩], (inn np_SInt (AV.int .i64) 1 d33 b22.Queues), (inn np_SInt (AV.int .i64) 1 d46 b41.Queues), (inn np_SInt (AV.int .i64) 1 d66 b55.Queues)]) (F := F) hS 19 rfl [] (by decide)
        exact hP _ hS
      · refine w_skip ?_
        refine seq_n hK73 ?_
        refine w_seq fun K82 hK82 => ?_
        refine w_seq fun K83 hK83 => ?_
        refine w_draw0 gC (by kernel_rfl) ?_
        try simp only [W, EE, reduceIte, Nat.reduceAdd, Nat.reduceLeDiff, hS.var 12 rfl, hS.var 14 rfl]
        refine w_callF (rsh := [[.sl [.sc], .sl [.sl [.sc]], .sl [.sc], .sl [.sc], .sc]]) (ys := [.agg [.fz (a0.Quanta.map (AV.int .i64)), .fz (a0.Queues.map (fzl (AV.int .i64))), .fz (a0.Credit.map (AV.int .i64)), .fz (a0.Sent.map (AV.int .i64)), .int .i64 a0.At]]) h rfl (by rfl) fun b84 hb84 h => ⟨.agg [.own 1 (b84.Quanta.map (AV.int .i64)), .own 1 (b84.Queues.map nd_SInt), .own 1 (b84.Credit.map (AV.int .i64)), .own 1 (b84.Sent.map (AV.int .i64)), .int .i64 b84.At], laws_toTurns_w hb84 (Own.nil _) fun v85 qv85 v86 qv86 d87 qd87 v88 qv88 v89 qv89 H hS => TV_ok rfl (TV_a (TC_ow 0 hS rfl qv85 (fun _ _ => by simp [takeE, takeT, plainA]) fun H hS => TC_owN (d := nd_SInt) (Own.catI_ (bl := [[⟨v86, 1, ouw nm_SInt d87 b84.Queues⟩], [⟨v88, 1, b84.Credit.map (AV.int .i64)⟩], [⟨v89, 1, b84.Sent.map (AV.int .i64)⟩], (inn np_SInt (AV.int .i64) 1 d87 b84.Queues)]) (F := []) hS 4 rfl [0, 3, 1, 2] (by decide)) qv86 qd87 nt_SInt fun H hS => TC_ow 0 hS rfl qv88 (fun _ _ => by simp [takeE, takeT, plainA]) fun H hS => TC_ow 0 hS rfl qv89 (fun _ _ => by simp [takeE, takeT, plainA]) fun H hS => TC_sc rfl (TC_nil (TV_n rfl)))), ?_⟩
        simp only [W, frzL_map (c := (AV.int .i64)) (fun _ => rfl), frzL_mapN nz_SInt]
        try simp only [W, EE, EN, reduceIte, Nat.reduceAdd, Nat.reduceLeDiff, Nat.reduceBEq, Nat.reduceMul, Bool.false_eq_true]
        have hS : Own _ (⟨v30, 1, b22.Quanta.map (AV.int .i64)⟩ :: ⟨v32, 1, ouw nm_SInt d33 b22.Queues⟩ :: ⟨v35, 1, b22.Credit.map (AV.int .i64)⟩ :: ⟨v37, 1, b22.Sent.map (AV.int .i64)⟩ :: ⟨v42, 1, b41.Quanta.map (AV.int .i64)⟩ :: ⟨v44, 1, ouw nm_SInt d46 b41.Queues⟩ :: ⟨v47, 1, b41.Credit.map (AV.int .i64)⟩ :: ⟨v49, 1, b41.Sent.map (AV.int .i64)⟩ :: ⟨v63, 1, b55.Quanta.map (AV.int .i64)⟩ :: ⟨v65, 1, ouw nm_SInt d66 b55.Queues⟩ :: ⟨v68, 1, b55.Credit.map (AV.int .i64)⟩ :: ⟨v70, 1, b55.Sent.map (AV.int .i64)⟩ :: ⟨.ptr ip2 wp2 0 0, 5, [.agg [.fz (a0.Quanta.map (AV.int .i64)), .fz (a0.Queues.map (fzl (AV.int .i64))), .fz (a0.Credit.map (AV.int .i64)), .fz (a0.Sent.map (AV.int .i64)), .int .i64 a0.At]]⟩ :: ⟨.ptr ip38 wp38 0 0, 5, [.agg [v30, v32, v35, v37, .int .i64 b22.At]]⟩ :: ⟨.ptr ip51 wp51 0 0, 5, [.agg [v42, v44, v47, v49, .int .i64 b41.At]]⟩ :: ⟨.ptr ip71 wp71 0 0, 5, [.agg [v63, v65, v68, v70, .int .i64 b55.At]]⟩ :: ((inn np_SInt (AV.int .i64) 1 d33 b22.Queues) ++ ((inn np_SInt (AV.int .i64) 1 d46 b41.Queues) ++ ((inn np_SInt (AV.int .i64) 1 d66 b55.Queues) ++ F)))) := hS
        refine w_callS (rsh := [[.sc]]) (ys := [.agg [.fz (b41.Quanta.map (AV.int .i64)), .fz (b41.Queues.map (fzl (AV.int .i64))), .fz (b41.Credit.map (AV.int .i64)), .fz (b41.Sent.map (AV.int .i64)), .int .i64 b41.At], .agg [.fz (b84.Quanta.map (AV.int .i64)), .fz (b84.Queues.map (fzl (AV.int .i64))), .fz (b84.Credit.map (AV.int .i64)), .fz (b84.Sent.map (AV.int .i64)), .int .i64 b84.At]]) h rfl (pv_c (sn_agg (sm_c (sn_ow hS 4 rfl qv42 (fun _ => rfl)) (sm_c (sn_owN (enc := (fzl (AV.int .i64))) hS 5 rfl qv44 qd46 (fun _ h => (List.mem_cons_of_mem _ (List.mem_cons_of_mem _ (List.mem_cons_of_mem _ (List.mem_cons_of_mem _ (List.mem_cons_of_mem _ (List.mem_cons_of_mem _ (List.mem_cons_of_mem _ (List.mem_cons_of_mem _ (List.mem_cons_of_mem _ (List.mem_cons_of_mem _ (List.mem_cons_of_mem _ (List.mem_cons_of_mem _ (List.mem_cons_of_mem _ (List.mem_cons_of_mem _ (List.mem_cons_of_mem _ (List.mem_cons_of_mem _ (List.mem_append_right _ (List.mem_append_left _ h))))))))))))))))))) (fun _ _ ha hk => sn_it hk ha (fun _ => rfl))) (sm_c (sn_ow hS 6 rfl qv47 (fun _ => rfl)) (sm_c (sn_ow hS 7 rfl qv49 (fun _ => rfl)) (sm_c rfl (sm_n _))))))) (pv_c rfl pv_n)) fun b90 hb90 h => ⟨.bool b90, laws_eqTurns_w hb90 (Own.nil _) fun H hS => TV_ok rfl (TV_p rfl (TV_n rfl)), ⟨rfl, rfl, fun _ => rfl⟩, ?_⟩
        try simp only [W]
        refine seq_n hK83 ?_
        refine w_if ?_
        simp only [W]
        refine w_cnd h (fun hc h => ?_) (fun hc h => ?_)
        · refine w_seq fun K91 hK91 => ?_
          refine w_reg gC ?_
          try simp only [W, Nat.reduceAdd]
          refine seq_n hK91 ?_
          refine w_ret ?_
          refine seq_r hK82 ?_
          refine fin_r1 hK0 rfl ?_
          try obtain rfl := Option.some.inj h
          have hS : Own _ (F) := Own.catI_ (bl := [[⟨v30, 1, b22.Quanta.map (AV.int .i64)⟩], [⟨v32, 1, ouw nm_SInt d33 b22.Queues⟩], [⟨v35, 1, b22.Credit.map (AV.int .i64)⟩], [⟨v37, 1, b22.Sent.map (AV.int .i64)⟩], [⟨v42, 1, b41.Quanta.map (AV.int .i64)⟩], [⟨v44, 1, ouw nm_SInt d46 b41.Queues⟩], [⟨v47, 1, b41.Credit.map (AV.int .i64)⟩], [⟨v49, 1, b41.Sent.map (AV.int .i64)⟩], [⟨v63, 1, b55.Quanta.map (AV.int .i64)⟩], [⟨v65, 1, ouw nm_SInt d66 b55.Queues⟩], [⟨v68, 1, b55.Credit.map (AV.int .i64)⟩], [⟨v70, 1, b55.Sent.map (AV.int .i64)⟩], [⟨.ptr ip2 wp2 0 0, 5, [.agg [.fz (a0.Quanta.map (AV.int .i64)), .fz (a0.Queues.map (fzl (AV.int .i64))), .fz (a0.Credit.map (AV.int .i64)), .fz (a0.Sent.map (AV.int .i64)), .int .i64 a0.At]]⟩], [⟨.ptr ip38 wp38 0 0, 5, [.agg [v30, v32, v35, v37, .int .i64 b22.At]]⟩], [⟨.ptr ip51 wp51 0 0, 5, [.agg [v42, v44, v47, v49, .int .i64 b41.At]]⟩], [⟨.ptr ip71 wp71 0 0, 5, [.agg [v63, v65, v68, v70, .int .i64 b55.At]]⟩], (inn np_SInt (AV.int .i64) 1 d33 b22.Queues), (inn np_SInt (AV.int .i64) 1 d46 b41.Queues), (inn np_SInt (AV.int .i64) 1 d66 b55.Queues)]) (F := F) hS 19 rfl [] (by decide)
          exact hP _ hS
        · refine w_skip ?_
          refine seq_n hK82 ?_
          refine w_seq fun K92 hK92 => ?_
          refine w_reg gC ?_
          try simp only [W, Nat.reduceAdd]
          refine seq_n hK92 ?_
          refine w_seq fun K93 hK93 => ?_
          refine w_reg gC ?_
          try simp only [W, EE, reduceIte, Nat.reduceAdd, Nat.reduceLeDiff, hS.var 14 rfl]
          have hS : Own _ (⟨v42, 1, b41.Quanta.map (AV.int .i64)⟩ :: ⟨v44, 1, ouw nm_SInt d46 b41.Queues⟩ :: ⟨v47, 1, b41.Credit.map (AV.int .i64)⟩ :: ⟨v49, 1, b41.Sent.map (AV.int .i64)⟩ :: ((inn np_SInt (AV.int .i64) 1 d46 b41.Queues) ++ (⟨v30, 1, b22.Quanta.map (AV.int .i64)⟩ :: ⟨v32, 1, ouw nm_SInt d33 b22.Queues⟩ :: ⟨v35, 1, b22.Credit.map (AV.int .i64)⟩ :: ⟨v37, 1, b22.Sent.map (AV.int .i64)⟩ :: ⟨v63, 1, b55.Quanta.map (AV.int .i64)⟩ :: ⟨v65, 1, ouw nm_SInt d66 b55.Queues⟩ :: ⟨v68, 1, b55.Credit.map (AV.int .i64)⟩ :: ⟨v70, 1, b55.Sent.map (AV.int .i64)⟩ :: ⟨.ptr ip2 wp2 0 0, 5, [.agg [.fz (a0.Quanta.map (AV.int .i64)), .fz (a0.Queues.map (fzl (AV.int .i64))), .fz (a0.Credit.map (AV.int .i64)), .fz (a0.Sent.map (AV.int .i64)), .int .i64 a0.At]]⟩ :: ⟨.ptr ip38 wp38 0 0, 5, [.agg [v30, v32, v35, v37, .int .i64 b22.At]]⟩ :: ⟨.ptr ip51 wp51 0 0, 5, [.agg [v42, v44, v47, v49, .int .i64 b41.At]]⟩ :: ⟨.ptr ip71 wp71 0 0, 5, [.agg [v63, v65, v68, v70, .int .i64 b55.At]]⟩ :: ((inn np_SInt (AV.int .i64) 1 d33 b22.Queues) ++ (((inn np_SInt (AV.int .i64) 1 d66 b55.Queues) ++ (F))))))) := Own.catI_ (bl := [[⟨v30, 1, b22.Quanta.map (AV.int .i64)⟩], [⟨v32, 1, ouw nm_SInt d33 b22.Queues⟩], [⟨v35, 1, b22.Credit.map (AV.int .i64)⟩], [⟨v37, 1, b22.Sent.map (AV.int .i64)⟩], [⟨v42, 1, b41.Quanta.map (AV.int .i64)⟩], [⟨v44, 1, ouw nm_SInt d46 b41.Queues⟩], [⟨v47, 1, b41.Credit.map (AV.int .i64)⟩], [⟨v49, 1, b41.Sent.map (AV.int .i64)⟩], [⟨v63, 1, b55.Quanta.map (AV.int .i64)⟩], [⟨v65, 1, ouw nm_SInt d66 b55.Queues⟩], [⟨v68, 1, b55.Credit.map (AV.int .i64)⟩], [⟨v70, 1, b55.Sent.map (AV.int .i64)⟩], [⟨.ptr ip2 wp2 0 0, 5, [.agg [.fz (a0.Quanta.map (AV.int .i64)), .fz (a0.Queues.map (fzl (AV.int .i64))), .fz (a0.Credit.map (AV.int .i64)), .fz (a0.Sent.map (AV.int .i64)), .int .i64 a0.At]]⟩], [⟨.ptr ip38 wp38 0 0, 5, [.agg [v30, v32, v35, v37, .int .i64 b22.At]]⟩], [⟨.ptr ip51 wp51 0 0, 5, [.agg [v42, v44, v47, v49, .int .i64 b41.At]]⟩], [⟨.ptr ip71 wp71 0 0, 5, [.agg [v63, v65, v68, v70, .int .i64 b55.At]]⟩], (inn np_SInt (AV.int .i64) 1 d33 b22.Queues), (inn np_SInt (AV.int .i64) 1 d46 b41.Queues), (inn np_SInt (AV.int .i64) 1 d66 b55.Queues)]) (F := F) hS 19 rfl [4, 5, 6, 7, 17, 0, 1, 2, 3, 8, 9, 10, 11, 12, 13, 14, 15, 16, 18] (by decide)
          refine w_call h fun b94 hb94 h => ?_
          obtain ⟨b95, b96, b97, b98, b99⟩ := b94
          try dsimp only at h
          refine laws_markTurns_w hb94 hS qv42 qv44 qd46 qv47 qv49 fun d100 qd100 H hS => ?_
          have hS : Own _ (⟨v42, 1, b96.map (AV.int .i64)⟩ :: ⟨v44, 1, ouw nm_SInt d100 b97⟩ :: ⟨v47, 1, b98.map (AV.int .i64)⟩ :: ⟨v49, 1, b99.map (AV.int .i64)⟩ :: ⟨v30, 1, b22.Quanta.map (AV.int .i64)⟩ :: ⟨v32, 1, ouw nm_SInt d33 b22.Queues⟩ :: ⟨v35, 1, b22.Credit.map (AV.int .i64)⟩ :: ⟨v37, 1, b22.Sent.map (AV.int .i64)⟩ :: ⟨v63, 1, b55.Quanta.map (AV.int .i64)⟩ :: ⟨v65, 1, ouw nm_SInt d66 b55.Queues⟩ :: ⟨v68, 1, b55.Credit.map (AV.int .i64)⟩ :: ⟨v70, 1, b55.Sent.map (AV.int .i64)⟩ :: ⟨.ptr ip2 wp2 0 0, 5, [.agg [.fz (a0.Quanta.map (AV.int .i64)), .fz (a0.Queues.map (fzl (AV.int .i64))), .fz (a0.Credit.map (AV.int .i64)), .fz (a0.Sent.map (AV.int .i64)), .int .i64 a0.At]]⟩ :: ⟨.ptr ip38 wp38 0 0, 5, [.agg [v30, v32, v35, v37, .int .i64 b22.At]]⟩ :: ⟨.ptr ip51 wp51 0 0, 5, [.agg [v42, v44, v47, v49, .int .i64 b41.At]]⟩ :: ⟨.ptr ip71 wp71 0 0, 5, [.agg [v63, v65, v68, v70, .int .i64 b55.At]]⟩ :: ((inn np_SInt (AV.int .i64) 1 d100 b97) ++ (((inn np_SInt (AV.int .i64) 1 d33 b22.Queues) ++ (((inn np_SInt (AV.int .i64) 1 d66 b55.Queues) ++ (F))))))) := Own.catI_ (bl := [[⟨v42, 1, b96.map (AV.int .i64)⟩], [⟨v44, 1, ouw nm_SInt d100 b97⟩], [⟨v47, 1, b98.map (AV.int .i64)⟩], [⟨v49, 1, b99.map (AV.int .i64)⟩], (inn np_SInt (AV.int .i64) 1 d100 b97), [⟨v30, 1, b22.Quanta.map (AV.int .i64)⟩], [⟨v32, 1, ouw nm_SInt d33 b22.Queues⟩], [⟨v35, 1, b22.Credit.map (AV.int .i64)⟩], [⟨v37, 1, b22.Sent.map (AV.int .i64)⟩], [⟨v63, 1, b55.Quanta.map (AV.int .i64)⟩], [⟨v65, 1, ouw nm_SInt d66 b55.Queues⟩], [⟨v68, 1, b55.Credit.map (AV.int .i64)⟩], [⟨v70, 1, b55.Sent.map (AV.int .i64)⟩], [⟨.ptr ip2 wp2 0 0, 5, [.agg [.fz (a0.Quanta.map (AV.int .i64)), .fz (a0.Queues.map (fzl (AV.int .i64))), .fz (a0.Credit.map (AV.int .i64)), .fz (a0.Sent.map (AV.int .i64)), .int .i64 a0.At]]⟩], [⟨.ptr ip38 wp38 0 0, 5, [.agg [v30, v32, v35, v37, .int .i64 b22.At]]⟩], [⟨.ptr ip51 wp51 0 0, 5, [.agg [v42, v44, v47, v49, .int .i64 b41.At]]⟩], [⟨.ptr ip71 wp71 0 0, 5, [.agg [v63, v65, v68, v70, .int .i64 b55.At]]⟩], (inn np_SInt (AV.int .i64) 1 d33 b22.Queues), (inn np_SInt (AV.int .i64) 1 d66 b55.Queues)]) (F := F) hS 19 rfl [0, 1, 2, 3, 5, 6, 7, 8, 9, 10, 11, 12, 13, 14, 15, 16, 4, 17, 18] (by decide)
          try simp only [W]
          refine seq_n hK93 ?_
          refine w_seq fun K101 hK101 => ?_
          refine w_seq fun K102 hK102 => ?_
          obtain ⟨y104, h, g105⟩ := Option.bind_eq_some_iff.1 h
          refine w_join gC (fun s H => ∃ x103 : Bool, y104 = (x103) ∧ s = (u :: .int .i64 a1 :: .ptr ip2 wp2 0 0 :: u :: u :: u :: .ptr ip38 wp38 0 0 :: .bool b23 :: u :: .ptr ip71 wp71 0 0 :: u :: u :: u :: u :: u :: u :: u :: u :: u :: u :: u :: u :: u :: u :: u :: u :: u :: u :: u :: u :: u :: u :: u :: u :: u :: u :: u :: u :: u :: u :: u :: u :: u :: u :: u :: u :: u :: u :: u :: u :: u :: u :: u :: u :: u :: u :: u :: u :: u :: u :: u :: u :: u :: u :: u :: .bool x103 :: u :: u :: u :: u :: u :: u :: u :: u :: u :: u :: u :: u :: u :: u :: u :: u :: u :: u :: u :: u :: u :: u :: u :: u :: u :: u :: u :: u :: u :: u :: u :: u :: u :: u :: u :: []) ∧ Own H (⟨v30, 1, b22.Quanta.map (AV.int .i64)⟩ :: ⟨v32, 1, ouw nm_SInt d33 b22.Queues⟩ :: ⟨v35, 1, b22.Credit.map (AV.int .i64)⟩ :: ⟨v37, 1, b22.Sent.map (AV.int .i64)⟩ :: ⟨v63, 1, b55.Quanta.map (AV.int .i64)⟩ :: ⟨v65, 1, ouw nm_SInt d66 b55.Queues⟩ :: ⟨v68, 1, b55.Credit.map (AV.int .i64)⟩ :: ⟨v70, 1, b55.Sent.map (AV.int .i64)⟩ :: ⟨.ptr ip2 wp2 0 0, 5, [.agg [.fz (a0.Quanta.map (AV.int .i64)), .fz (a0.Queues.map (fzl (AV.int .i64))), .fz (a0.Credit.map (AV.int .i64)), .fz (a0.Sent.map (AV.int .i64)), .int .i64 a0.At]]⟩ :: ⟨.ptr ip38 wp38 0 0, 5, [.agg [v30, v32, v35, v37, .int .i64 b22.At]]⟩ :: ⟨.ptr ip71 wp71 0 0, 5, [.agg [v63, v65, v68, v70, .int .i64 b55.At]]⟩ :: ((inn np_SInt (AV.int .i64) 1 d33 b22.Queues) ++ ((inn np_SInt (AV.int .i64) 1 d66 b55.Queues) ++ F)))) (fun K106 hK106 => ?_) (fun s H hq => ?_)
          · refine w_seq fun K107 hK107 => ?_
            refine w_reg gC ?_
            try simp only [W, EE, Nat.reduceAdd]
            refine w_grdT h (fun hc h => ?_) (fun hc h => ?_)
            · try simp only [W, hc]
              refine seq_n hK107 ?_
              refine w_killE (s' := (u :: .int .i64 a1 :: .ptr ip2 wp2 0 0 :: u :: u :: u :: .ptr ip38 wp38 0 0 :: .bool b23 :: u :: .ptr ip71 wp71 0 0 :: u :: u :: u :: u :: u :: u :: u :: u :: u :: u :: u :: u :: u :: u :: u :: u :: u :: u :: u :: u :: u :: u :: u :: u :: u :: u :: u :: u :: u :: u :: u :: u :: u :: u :: u :: u :: u :: u :: u :: u :: u :: u :: u :: u :: u :: u :: u :: u :: u :: u :: u :: u :: u :: u :: u :: .bool true :: u :: u :: u :: u :: u :: u :: u :: u :: u :: u :: u :: u :: u :: u :: u :: u :: u :: u :: u :: u :: u :: u :: u :: u :: u :: u :: u :: u :: u :: u :: u :: u :: u :: u :: u :: [])) rfl ?_
              have hS : Own _ (⟨v30, 1, b22.Quanta.map (AV.int .i64)⟩ :: ⟨v32, 1, ouw nm_SInt d33 b22.Queues⟩ :: ⟨v35, 1, b22.Credit.map (AV.int .i64)⟩ :: ⟨v37, 1, b22.Sent.map (AV.int .i64)⟩ :: ⟨v63, 1, b55.Quanta.map (AV.int .i64)⟩ :: ⟨v65, 1, ouw nm_SInt d66 b55.Queues⟩ :: ⟨v68, 1, b55.Credit.map (AV.int .i64)⟩ :: ⟨v70, 1, b55.Sent.map (AV.int .i64)⟩ :: ⟨.ptr ip2 wp2 0 0, 5, [.agg [.fz (a0.Quanta.map (AV.int .i64)), .fz (a0.Queues.map (fzl (AV.int .i64))), .fz (a0.Credit.map (AV.int .i64)), .fz (a0.Sent.map (AV.int .i64)), .int .i64 a0.At]]⟩ :: ⟨.ptr ip38 wp38 0 0, 5, [.agg [v30, v32, v35, v37, .int .i64 b22.At]]⟩ :: ⟨.ptr ip71 wp71 0 0, 5, [.agg [v63, v65, v68, v70, .int .i64 b55.At]]⟩ :: ((inn np_SInt (AV.int .i64) 1 d33 b22.Queues) ++ (((inn np_SInt (AV.int .i64) 1 d66 b55.Queues) ++ (F))))) := Own.catI_ (bl := [[⟨v42, 1, b96.map (AV.int .i64)⟩], [⟨v44, 1, ouw nm_SInt d100 b97⟩], [⟨v47, 1, b98.map (AV.int .i64)⟩], [⟨v49, 1, b99.map (AV.int .i64)⟩], [⟨v30, 1, b22.Quanta.map (AV.int .i64)⟩], [⟨v32, 1, ouw nm_SInt d33 b22.Queues⟩], [⟨v35, 1, b22.Credit.map (AV.int .i64)⟩], [⟨v37, 1, b22.Sent.map (AV.int .i64)⟩], [⟨v63, 1, b55.Quanta.map (AV.int .i64)⟩], [⟨v65, 1, ouw nm_SInt d66 b55.Queues⟩], [⟨v68, 1, b55.Credit.map (AV.int .i64)⟩], [⟨v70, 1, b55.Sent.map (AV.int .i64)⟩], [⟨.ptr ip2 wp2 0 0, 5, [.agg [.fz (a0.Quanta.map (AV.int .i64)), .fz (a0.Queues.map (fzl (AV.int .i64))), .fz (a0.Credit.map (AV.int .i64)), .fz (a0.Sent.map (AV.int .i64)), .int .i64 a0.At]]⟩], [⟨.ptr ip38 wp38 0 0, 5, [.agg [v30, v32, v35, v37, .int .i64 b22.At]]⟩], [⟨.ptr ip51 wp51 0 0, 5, [.agg [v42, v44, v47, v49, .int .i64 b41.At]]⟩], [⟨.ptr ip71 wp71 0 0, 5, [.agg [v63, v65, v68, v70, .int .i64 b55.At]]⟩], (inn np_SInt (AV.int .i64) 1 d100 b97), (inn np_SInt (AV.int .i64) 1 d33 b22.Queues), (inn np_SInt (AV.int .i64) 1 d66 b55.Queues)]) (F := F) hS 19 rfl [4, 5, 6, 7, 8, 9, 10, 11, 12, 13, 15, 17, 18] (by decide)
              exact cut_n hK106 ⟨_, (Option.some.inj h).symm, rfl, hS⟩
            · try simp only [W, EE, reduceIte, Nat.reduceAdd, Nat.reduceLeDiff, hS.var 13 rfl, hS.var 15 rfl, hc]
              have hS : Own _ (⟨v42, 1, b96.map (AV.int .i64)⟩ :: ⟨v44, 1, ouw nm_SInt d100 b97⟩ :: ⟨v47, 1, b98.map (AV.int .i64)⟩ :: ⟨v49, 1, b99.map (AV.int .i64)⟩ :: ⟨v30, 1, b22.Quanta.map (AV.int .i64)⟩ :: ⟨v32, 1, ouw nm_SInt d33 b22.Queues⟩ :: ⟨v35, 1, b22.Credit.map (AV.int .i64)⟩ :: ⟨v37, 1, b22.Sent.map (AV.int .i64)⟩ :: ⟨v63, 1, b55.Quanta.map (AV.int .i64)⟩ :: ⟨v65, 1, ouw nm_SInt d66 b55.Queues⟩ :: ⟨v68, 1, b55.Credit.map (AV.int .i64)⟩ :: ⟨v70, 1, b55.Sent.map (AV.int .i64)⟩ :: ⟨.ptr ip2 wp2 0 0, 5, [.agg [.fz (a0.Quanta.map (AV.int .i64)), .fz (a0.Queues.map (fzl (AV.int .i64))), .fz (a0.Credit.map (AV.int .i64)), .fz (a0.Sent.map (AV.int .i64)), .int .i64 a0.At]]⟩ :: ⟨.ptr ip38 wp38 0 0, 5, [.agg [v30, v32, v35, v37, .int .i64 b22.At]]⟩ :: ⟨.ptr ip51 wp51 0 0, 5, [.agg [v42, v44, v47, v49, .int .i64 b41.At]]⟩ :: ⟨.ptr ip71 wp71 0 0, 5, [.agg [v63, v65, v68, v70, .int .i64 b55.At]]⟩ :: ((inn np_SInt (AV.int .i64) 1 d100 b97) ++ ((inn np_SInt (AV.int .i64) 1 d33 b22.Queues) ++ ((inn np_SInt (AV.int .i64) 1 d66 b55.Queues) ++ F)))) := hS
              refine w_callS (rsh := [[.sc]]) (ys := [.agg [.fz (b55.Quanta.map (AV.int .i64)), .fz (b55.Queues.map (fzl (AV.int .i64))), .fz (b55.Credit.map (AV.int .i64)), .fz (b55.Sent.map (AV.int .i64)), .int .i64 b55.At], .agg [.fz (b22.Quanta.map (AV.int .i64)), .fz (b22.Queues.map (fzl (AV.int .i64))), .fz (b22.Credit.map (AV.int .i64)), .fz (b22.Sent.map (AV.int .i64)), .int .i64 b22.At]]) h rfl (pv_c (sn_agg (sm_c (sn_ow hS 8 rfl qv63 (fun _ => rfl)) (sm_c (sn_owN (enc := (fzl (AV.int .i64))) hS 9 rfl qv65 qd66 (fun _ h => (List.mem_cons_of_mem _ (List.mem_cons_of_mem _ (List.mem_cons_of_mem _ (List.mem_cons_of_mem _ (List.mem_cons_of_mem _ (List.mem_cons_of_mem _ (List.mem_cons_of_mem _ (List.mem_cons_of_mem _ (List.mem_cons_of_mem _ (List.mem_cons_of_mem _ (List.mem_cons_of_mem _ (List.mem_cons_of_mem _ (List.mem_cons_of_mem _ (List.mem_cons_of_mem _ (List.mem_cons_of_mem _ (List.mem_cons_of_mem _ (List.mem_append_right _ (List.mem_append_right _ (List.mem_append_left _ h)))))))))))))))))))) (fun _ _ ha hk => sn_it hk ha (fun _ => rfl))) (sm_c (sn_ow hS 10 rfl qv68 (fun _ => rfl)) (sm_c (sn_ow hS 11 rfl qv70 (fun _ => rfl)) (sm_c rfl (sm_n _))))))) (pv_c (sn_agg (sm_c (sn_ow hS 4 rfl qv30 (fun _ => rfl)) (sm_c (sn_owN (enc := (fzl (AV.int .i64))) hS 5 rfl qv32 qd33 (fun _ h => (List.mem_cons_of_mem _ (List.mem_cons_of_mem _ (List.mem_cons_of_mem _ (List.mem_cons_of_mem _ (List.mem_cons_of_mem _ (List.mem_cons_of_mem _ (List.mem_cons_of_mem _ (List.mem_cons_of_mem _ (List.mem_cons_of_mem _ (List.mem_cons_of_mem _ (List.mem_cons_of_mem _ (List.mem_cons_of_mem _ (List.mem_cons_of_mem _ (List.mem_cons_of_mem _ (List.mem_cons_of_mem _ (List.mem_cons_of_mem _ (List.mem_append_right _ (List.mem_append_left _ h))))))))))))))))))) (fun _ _ ha hk => sn_it hk ha (fun _ => rfl))) (sm_c (sn_ow hS 6 rfl qv35 (fun _ => rfl)) (sm_c (sn_ow hS 7 rfl qv37 (fun _ => rfl)) (sm_c rfl (sm_n _))))))) pv_n)) fun b108 hb108 h => ⟨.bool b108, laws_eqTurns_w hb108 (Own.nil _) fun H hS => TV_ok rfl (TV_p rfl (TV_n rfl)), ⟨rfl, rfl, fun _ => rfl⟩, ?_⟩
              try simp only [W, reduceIte, Bool.false_eq_true]
              refine w_grdT h (fun hc h => ?_) (fun hc h => ?_)
              · try simp only [W, hc]
                refine seq_n hK107 ?_
                refine w_killE (s' := (u :: .int .i64 a1 :: .ptr ip2 wp2 0 0 :: u :: u :: u :: .ptr ip38 wp38 0 0 :: .bool b23 :: u :: .ptr ip71 wp71 0 0 :: u :: u :: u :: u :: u :: u :: u :: u :: u :: u :: u :: u :: u :: u :: u :: u :: u :: u :: u :: u :: u :: u :: u :: u :: u :: u :: u :: u :: u :: u :: u :: u :: u :: u :: u :: u :: u :: u :: u :: u :: u :: u :: u :: u :: u :: u :: u :: u :: u :: u :: u :: u :: u :: u :: u :: .bool true :: u :: u :: u :: u :: u :: u :: u :: u :: u :: u :: u :: u :: u :: u :: u :: u :: u :: u :: u :: u :: u :: u :: u :: u :: u :: u :: u :: u :: u :: u :: u :: u :: u :: u :: u :: [])) rfl ?_
                have hS : Own _ (⟨v30, 1, b22.Quanta.map (AV.int .i64)⟩ :: ⟨v32, 1, ouw nm_SInt d33 b22.Queues⟩ :: ⟨v35, 1, b22.Credit.map (AV.int .i64)⟩ :: ⟨v37, 1, b22.Sent.map (AV.int .i64)⟩ :: ⟨v63, 1, b55.Quanta.map (AV.int .i64)⟩ :: ⟨v65, 1, ouw nm_SInt d66 b55.Queues⟩ :: ⟨v68, 1, b55.Credit.map (AV.int .i64)⟩ :: ⟨v70, 1, b55.Sent.map (AV.int .i64)⟩ :: ⟨.ptr ip2 wp2 0 0, 5, [.agg [.fz (a0.Quanta.map (AV.int .i64)), .fz (a0.Queues.map (fzl (AV.int .i64))), .fz (a0.Credit.map (AV.int .i64)), .fz (a0.Sent.map (AV.int .i64)), .int .i64 a0.At]]⟩ :: ⟨.ptr ip38 wp38 0 0, 5, [.agg [v30, v32, v35, v37, .int .i64 b22.At]]⟩ :: ⟨.ptr ip71 wp71 0 0, 5, [.agg [v63, v65, v68, v70, .int .i64 b55.At]]⟩ :: ((inn np_SInt (AV.int .i64) 1 d33 b22.Queues) ++ (((inn np_SInt (AV.int .i64) 1 d66 b55.Queues) ++ (F))))) := Own.catI_ (bl := [[⟨v42, 1, b96.map (AV.int .i64)⟩], [⟨v44, 1, ouw nm_SInt d100 b97⟩], [⟨v47, 1, b98.map (AV.int .i64)⟩], [⟨v49, 1, b99.map (AV.int .i64)⟩], [⟨v30, 1, b22.Quanta.map (AV.int .i64)⟩], [⟨v32, 1, ouw nm_SInt d33 b22.Queues⟩], [⟨v35, 1, b22.Credit.map (AV.int .i64)⟩], [⟨v37, 1, b22.Sent.map (AV.int .i64)⟩], [⟨v63, 1, b55.Quanta.map (AV.int .i64)⟩], [⟨v65, 1, ouw nm_SInt d66 b55.Queues⟩], [⟨v68, 1, b55.Credit.map (AV.int .i64)⟩], [⟨v70, 1, b55.Sent.map (AV.int .i64)⟩], [⟨.ptr ip2 wp2 0 0, 5, [.agg [.fz (a0.Quanta.map (AV.int .i64)), .fz (a0.Queues.map (fzl (AV.int .i64))), .fz (a0.Credit.map (AV.int .i64)), .fz (a0.Sent.map (AV.int .i64)), .int .i64 a0.At]]⟩], [⟨.ptr ip38 wp38 0 0, 5, [.agg [v30, v32, v35, v37, .int .i64 b22.At]]⟩], [⟨.ptr ip51 wp51 0 0, 5, [.agg [v42, v44, v47, v49, .int .i64 b41.At]]⟩], [⟨.ptr ip71 wp71 0 0, 5, [.agg [v63, v65, v68, v70, .int .i64 b55.At]]⟩], (inn np_SInt (AV.int .i64) 1 d100 b97), (inn np_SInt (AV.int .i64) 1 d33 b22.Queues), (inn np_SInt (AV.int .i64) 1 d66 b55.Queues)]) (F := F) hS 19 rfl [4, 5, 6, 7, 8, 9, 10, 11, 12, 13, 15, 17, 18] (by decide)
                exact cut_n hK106 ⟨_, (Option.some.inj h).symm, rfl, hS⟩
              · try simp only [W, EE, hc]
                rw [b_bneq _ _ _ _ (h := rfl) rfl, resV_s]
                try simp only [W, reduceIte, Bool.false_eq_true]
                refine seq_n hK107 ?_
                refine w_killE (s' := (u :: .int .i64 a1 :: .ptr ip2 wp2 0 0 :: u :: u :: u :: .ptr ip38 wp38 0 0 :: .bool b23 :: u :: .ptr ip71 wp71 0 0 :: u :: u :: u :: u :: u :: u :: u :: u :: u :: u :: u :: u :: u :: u :: u :: u :: u :: u :: u :: u :: u :: u :: u :: u :: u :: u :: u :: u :: u :: u :: u :: u :: u :: u :: u :: u :: u :: u :: u :: u :: u :: u :: u :: u :: u :: u :: u :: u :: u :: u :: u :: u :: u :: u :: u :: .bool (!(b56 == b23)) :: u :: u :: u :: u :: u :: u :: u :: u :: u :: u :: u :: u :: u :: u :: u :: u :: u :: u :: u :: u :: u :: u :: u :: u :: u :: u :: u :: u :: u :: u :: u :: u :: u :: u :: u :: [])) rfl ?_
                have hS : Own _ (⟨v30, 1, b22.Quanta.map (AV.int .i64)⟩ :: ⟨v32, 1, ouw nm_SInt d33 b22.Queues⟩ :: ⟨v35, 1, b22.Credit.map (AV.int .i64)⟩ :: ⟨v37, 1, b22.Sent.map (AV.int .i64)⟩ :: ⟨v63, 1, b55.Quanta.map (AV.int .i64)⟩ :: ⟨v65, 1, ouw nm_SInt d66 b55.Queues⟩ :: ⟨v68, 1, b55.Credit.map (AV.int .i64)⟩ :: ⟨v70, 1, b55.Sent.map (AV.int .i64)⟩ :: ⟨.ptr ip2 wp2 0 0, 5, [.agg [.fz (a0.Quanta.map (AV.int .i64)), .fz (a0.Queues.map (fzl (AV.int .i64))), .fz (a0.Credit.map (AV.int .i64)), .fz (a0.Sent.map (AV.int .i64)), .int .i64 a0.At]]⟩ :: ⟨.ptr ip38 wp38 0 0, 5, [.agg [v30, v32, v35, v37, .int .i64 b22.At]]⟩ :: ⟨.ptr ip71 wp71 0 0, 5, [.agg [v63, v65, v68, v70, .int .i64 b55.At]]⟩ :: ((inn np_SInt (AV.int .i64) 1 d33 b22.Queues) ++ (((inn np_SInt (AV.int .i64) 1 d66 b55.Queues) ++ (F))))) := Own.catI_ (bl := [[⟨v42, 1, b96.map (AV.int .i64)⟩], [⟨v44, 1, ouw nm_SInt d100 b97⟩], [⟨v47, 1, b98.map (AV.int .i64)⟩], [⟨v49, 1, b99.map (AV.int .i64)⟩], [⟨v30, 1, b22.Quanta.map (AV.int .i64)⟩], [⟨v32, 1, ouw nm_SInt d33 b22.Queues⟩], [⟨v35, 1, b22.Credit.map (AV.int .i64)⟩], [⟨v37, 1, b22.Sent.map (AV.int .i64)⟩], [⟨v63, 1, b55.Quanta.map (AV.int .i64)⟩], [⟨v65, 1, ouw nm_SInt d66 b55.Queues⟩], [⟨v68, 1, b55.Credit.map (AV.int .i64)⟩], [⟨v70, 1, b55.Sent.map (AV.int .i64)⟩], [⟨.ptr ip2 wp2 0 0, 5, [.agg [.fz (a0.Quanta.map (AV.int .i64)), .fz (a0.Queues.map (fzl (AV.int .i64))), .fz (a0.Credit.map (AV.int .i64)), .fz (a0.Sent.map (AV.int .i64)), .int .i64 a0.At]]⟩], [⟨.ptr ip38 wp38 0 0, 5, [.agg [v30, v32, v35, v37, .int .i64 b22.At]]⟩], [⟨.ptr ip51 wp51 0 0, 5, [.agg [v42, v44, v47, v49, .int .i64 b41.At]]⟩], [⟨.ptr ip71 wp71 0 0, 5, [.agg [v63, v65, v68, v70, .int .i64 b55.At]]⟩], (inn np_SInt (AV.int .i64) 1 d100 b97), (inn np_SInt (AV.int .i64) 1 d33 b22.Queues), (inn np_SInt (AV.int .i64) 1 d66 b55.Queues)]) (F := F) hS 19 rfl [4, 5, 6, 7, 8, 9, 10, 11, 12, 13, 15, 17, 18] (by decide)
                exact cut_n hK106 ⟨_, (Option.some.inj h).symm, rfl, hS⟩
          · obtain ⟨x103, ey, rfl, hS⟩ := hq; obtain rfl := ey.symm
            replace h := g105
            try dsimp only at h
            refine seq_n hK102 ?_
            refine w_if ?_
            simp only [W]
            refine w_cnd h (fun hc h => ?_) (fun hc h => ?_)
            · refine w_seq fun K109 hK109 => ?_
              refine w_reg gC ?_
              try simp only [W, Nat.reduceAdd]
              refine seq_n hK109 ?_
              refine w_ret ?_
              refine seq_r hK101 ?_
              refine fin_r1 hK0 rfl ?_
              try obtain rfl := Option.some.inj h
              have hS : Own _ (F) := Own.catI_ (bl := [[⟨v30, 1, b22.Quanta.map (AV.int .i64)⟩], [⟨v32, 1, ouw nm_SInt d33 b22.Queues⟩], [⟨v35, 1, b22.Credit.map (AV.int .i64)⟩], [⟨v37, 1, b22.Sent.map (AV.int .i64)⟩], [⟨v63, 1, b55.Quanta.map (AV.int .i64)⟩], [⟨v65, 1, ouw nm_SInt d66 b55.Queues⟩], [⟨v68, 1, b55.Credit.map (AV.int .i64)⟩], [⟨v70, 1, b55.Sent.map (AV.int .i64)⟩], [⟨.ptr ip2 wp2 0 0, 5, [.agg [.fz (a0.Quanta.map (AV.int .i64)), .fz (a0.Queues.map (fzl (AV.int .i64))), .fz (a0.Credit.map (AV.int .i64)), .fz (a0.Sent.map (AV.int .i64)), .int .i64 a0.At]]⟩], [⟨.ptr ip38 wp38 0 0, 5, [.agg [v30, v32, v35, v37, .int .i64 b22.At]]⟩], [⟨.ptr ip71 wp71 0 0, 5, [.agg [v63, v65, v68, v70, .int .i64 b55.At]]⟩], (inn np_SInt (AV.int .i64) 1 d33 b22.Queues), (inn np_SInt (AV.int .i64) 1 d66 b55.Queues)]) (F := F) hS 13 rfl [] (by decide)
              exact hP _ hS
            · refine w_skip ?_
              refine seq_n hK101 ?_
              refine w_seq fun K110 hK110 => ?_
              refine w_reg gC ?_
              try simp only [W, Nat.reduceAdd]
              refine seq_n hK110 ?_
              refine w_seq fun K111 hK111 => ?_
              refine w_reg gC ?_
              try simp only [W, EE, reduceIte, Nat.reduceAdd, Nat.reduceLeDiff, hS.var 10 rfl]
              have hS : Own _ (⟨v63, 1, b55.Quanta.map (AV.int .i64)⟩ :: ⟨v65, 1, ouw nm_SInt d66 b55.Queues⟩ :: ⟨v68, 1, b55.Credit.map (AV.int .i64)⟩ :: ⟨v70, 1, b55.Sent.map (AV.int .i64)⟩ :: ((inn np_SInt (AV.int .i64) 1 d66 b55.Queues) ++ (⟨v30, 1, b22.Quanta.map (AV.int .i64)⟩ :: ⟨v32, 1, ouw nm_SInt d33 b22.Queues⟩ :: ⟨v35, 1, b22.Credit.map (AV.int .i64)⟩ :: ⟨v37, 1, b22.Sent.map (AV.int .i64)⟩ :: ⟨.ptr ip2 wp2 0 0, 5, [.agg [.fz (a0.Quanta.map (AV.int .i64)), .fz (a0.Queues.map (fzl (AV.int .i64))), .fz (a0.Credit.map (AV.int .i64)), .fz (a0.Sent.map (AV.int .i64)), .int .i64 a0.At]]⟩ :: ⟨.ptr ip38 wp38 0 0, 5, [.agg [v30, v32, v35, v37, .int .i64 b22.At]]⟩ :: ⟨.ptr ip71 wp71 0 0, 5, [.agg [v63, v65, v68, v70, .int .i64 b55.At]]⟩ :: ((inn np_SInt (AV.int .i64) 1 d33 b22.Queues) ++ (F))))) := Own.catI_ (bl := [[⟨v30, 1, b22.Quanta.map (AV.int .i64)⟩], [⟨v32, 1, ouw nm_SInt d33 b22.Queues⟩], [⟨v35, 1, b22.Credit.map (AV.int .i64)⟩], [⟨v37, 1, b22.Sent.map (AV.int .i64)⟩], [⟨v63, 1, b55.Quanta.map (AV.int .i64)⟩], [⟨v65, 1, ouw nm_SInt d66 b55.Queues⟩], [⟨v68, 1, b55.Credit.map (AV.int .i64)⟩], [⟨v70, 1, b55.Sent.map (AV.int .i64)⟩], [⟨.ptr ip2 wp2 0 0, 5, [.agg [.fz (a0.Quanta.map (AV.int .i64)), .fz (a0.Queues.map (fzl (AV.int .i64))), .fz (a0.Credit.map (AV.int .i64)), .fz (a0.Sent.map (AV.int .i64)), .int .i64 a0.At]]⟩], [⟨.ptr ip38 wp38 0 0, 5, [.agg [v30, v32, v35, v37, .int .i64 b22.At]]⟩], [⟨.ptr ip71 wp71 0 0, 5, [.agg [v63, v65, v68, v70, .int .i64 b55.At]]⟩], (inn np_SInt (AV.int .i64) 1 d33 b22.Queues), (inn np_SInt (AV.int .i64) 1 d66 b55.Queues)]) (F := F) hS 13 rfl [4, 5, 6, 7, 12, 0, 1, 2, 3, 8, 9, 10, 11] (by decide)
              refine w_call h fun b112 hb112 h => ?_
              obtain ⟨b113, b114, b115, b116, b117⟩ := b112
              try dsimp only at h
              refine laws_markTurns_w hb112 hS qv63 qv65 qd66 qv68 qv70 fun d118 qd118 H hS => ?_
              have hS : Own _ (⟨v63, 1, b114.map (AV.int .i64)⟩ :: ⟨v65, 1, ouw nm_SInt d118 b115⟩ :: ⟨v68, 1, b116.map (AV.int .i64)⟩ :: ⟨v70, 1, b117.map (AV.int .i64)⟩ :: ⟨v30, 1, b22.Quanta.map (AV.int .i64)⟩ :: ⟨v32, 1, ouw nm_SInt d33 b22.Queues⟩ :: ⟨v35, 1, b22.Credit.map (AV.int .i64)⟩ :: ⟨v37, 1, b22.Sent.map (AV.int .i64)⟩ :: ⟨.ptr ip2 wp2 0 0, 5, [.agg [.fz (a0.Quanta.map (AV.int .i64)), .fz (a0.Queues.map (fzl (AV.int .i64))), .fz (a0.Credit.map (AV.int .i64)), .fz (a0.Sent.map (AV.int .i64)), .int .i64 a0.At]]⟩ :: ⟨.ptr ip38 wp38 0 0, 5, [.agg [v30, v32, v35, v37, .int .i64 b22.At]]⟩ :: ⟨.ptr ip71 wp71 0 0, 5, [.agg [v63, v65, v68, v70, .int .i64 b55.At]]⟩ :: ((inn np_SInt (AV.int .i64) 1 d118 b115) ++ (((inn np_SInt (AV.int .i64) 1 d33 b22.Queues) ++ (F))))) := Own.catI_ (bl := [[⟨v63, 1, b114.map (AV.int .i64)⟩], [⟨v65, 1, ouw nm_SInt d118 b115⟩], [⟨v68, 1, b116.map (AV.int .i64)⟩], [⟨v70, 1, b117.map (AV.int .i64)⟩], (inn np_SInt (AV.int .i64) 1 d118 b115), [⟨v30, 1, b22.Quanta.map (AV.int .i64)⟩], [⟨v32, 1, ouw nm_SInt d33 b22.Queues⟩], [⟨v35, 1, b22.Credit.map (AV.int .i64)⟩], [⟨v37, 1, b22.Sent.map (AV.int .i64)⟩], [⟨.ptr ip2 wp2 0 0, 5, [.agg [.fz (a0.Quanta.map (AV.int .i64)), .fz (a0.Queues.map (fzl (AV.int .i64))), .fz (a0.Credit.map (AV.int .i64)), .fz (a0.Sent.map (AV.int .i64)), .int .i64 a0.At]]⟩], [⟨.ptr ip38 wp38 0 0, 5, [.agg [v30, v32, v35, v37, .int .i64 b22.At]]⟩], [⟨.ptr ip71 wp71 0 0, 5, [.agg [v63, v65, v68, v70, .int .i64 b55.At]]⟩], (inn np_SInt (AV.int .i64) 1 d33 b22.Queues)]) (F := F) hS 13 rfl [0, 1, 2, 3, 5, 6, 7, 8, 9, 10, 11, 4, 12] (by decide)
              try simp only [W]
              refine seq_n hK111 ?_
              refine w_seq fun K119 hK119 => ?_
              refine w_reg gC ?_
              try simp only [W, Nat.reduceAdd]
              refine seq_n hK119 ?_
              refine w_seq fun K120 hK120 => ?_
              refine w_reg gC ?_
              try simp only [W, EE, reduceIte, Nat.reduceAdd, Nat.reduceLeDiff, hS.var 10 rfl]
              have hS : Own _ (⟨v63, 1, b114.map (AV.int .i64)⟩ :: ⟨v65, 1, ouw nm_SInt d118 b115⟩ :: ⟨v68, 1, b116.map (AV.int .i64)⟩ :: ⟨v70, 1, b117.map (AV.int .i64)⟩ :: ⟨v30, 1, b22.Quanta.map (AV.int .i64)⟩ :: ⟨v32, 1, ouw nm_SInt d33 b22.Queues⟩ :: ⟨v35, 1, b22.Credit.map (AV.int .i64)⟩ :: ⟨v37, 1, b22.Sent.map (AV.int .i64)⟩ :: ⟨.ptr ip2 wp2 0 0, 5, [.agg [.fz (a0.Quanta.map (AV.int .i64)), .fz (a0.Queues.map (fzl (AV.int .i64))), .fz (a0.Credit.map (AV.int .i64)), .fz (a0.Sent.map (AV.int .i64)), .int .i64 a0.At]]⟩ :: ⟨.ptr ip38 wp38 0 0, 5, [.agg [v30, v32, v35, v37, .int .i64 b22.At]]⟩ :: ⟨.ptr ip71 wp71 0 0, 5, [.agg [v63, v65, v68, v70, .int .i64 b55.At]]⟩ :: ((inn np_SInt (AV.int .i64) 1 d118 b115) ++ ((inn np_SInt (AV.int .i64) 1 d33 b22.Queues) ++ F))) := hS
              refine w_callS (rsh := [[.sc]]) (ys := [.agg [.fz (b114.map (AV.int .i64)), .fz (b115.map (fzl (AV.int .i64))), .fz (b116.map (AV.int .i64)), .fz (b117.map (AV.int .i64)), .int .i64 b55.At], .int .i64 1]) h rfl (pv_c (sn_agg (sm_c (sn_ow hS 0 rfl qv63 (fun _ => rfl)) (sm_c (sn_owN (enc := (fzl (AV.int .i64))) hS 1 rfl qv65 qd118 (fun _ h => (List.mem_cons_of_mem _ (List.mem_cons_of_mem _ (List.mem_cons_of_mem _ (List.mem_cons_of_mem _ (List.mem_cons_of_mem _ (List.mem_cons_of_mem _ (List.mem_cons_of_mem _ (List.mem_cons_of_mem _ (List.mem_cons_of_mem _ (List.mem_cons_of_mem _ (List.mem_cons_of_mem _ (List.mem_append_left _ h))))))))))))) (fun _ _ ha hk => sn_it hk ha (fun _ => rfl))) (sm_c (sn_ow hS 2 rfl qv68 (fun _ => rfl)) (sm_c (sn_ow hS 3 rfl qv70 (fun _ => rfl)) (sm_c rfl (sm_n _))))))) (pv_c rfl pv_n)) fun b121 hb121 h => ⟨.int .i64 b121, laws_heldTurns_w hb121 (Own.nil _) fun H hS => TV_ok rfl (TV_p rfl (TV_n rfl)), ⟨rfl, rfl, fun _ => rfl⟩, ?_⟩
              try simp only [W]
              refine seq_n hK120 ?_
              refine w_seq fun K122 hK122 => ?_
              refine w_seq fun K123 hK123 => ?_
              refine w_reg gC ?_
              try simp only [W, EE, Nat.reduceAdd]
              refine seq_n hK123 ?_
              refine w_if ?_
              simp only [W]
              refine w_cnd h (fun hc h => ?_) (fun hc h => ?_)
              · refine w_seq fun K124 hK124 => ?_
                refine w_reg gC ?_
                try simp only [W, Nat.reduceAdd]
                refine seq_n hK124 ?_
                refine w_ret ?_
                refine seq_r hK122 ?_
                refine fin_r1 hK0 rfl ?_
                try obtain rfl := Option.some.inj h
                have hS : Own _ (F) := Own.catI_ (bl := [[⟨v63, 1, b114.map (AV.int .i64)⟩], [⟨v65, 1, ouw nm_SInt d118 b115⟩], [⟨v68, 1, b116.map (AV.int .i64)⟩], [⟨v70, 1, b117.map (AV.int .i64)⟩], [⟨v30, 1, b22.Quanta.map (AV.int .i64)⟩], [⟨v32, 1, ouw nm_SInt d33 b22.Queues⟩], [⟨v35, 1, b22.Credit.map (AV.int .i64)⟩], [⟨v37, 1, b22.Sent.map (AV.int .i64)⟩], [⟨.ptr ip2 wp2 0 0, 5, [.agg [.fz (a0.Quanta.map (AV.int .i64)), .fz (a0.Queues.map (fzl (AV.int .i64))), .fz (a0.Credit.map (AV.int .i64)), .fz (a0.Sent.map (AV.int .i64)), .int .i64 a0.At]]⟩], [⟨.ptr ip38 wp38 0 0, 5, [.agg [v30, v32, v35, v37, .int .i64 b22.At]]⟩], [⟨.ptr ip71 wp71 0 0, 5, [.agg [v63, v65, v68, v70, .int .i64 b55.At]]⟩], (inn np_SInt (AV.int .i64) 1 d118 b115), (inn np_SInt (AV.int .i64) 1 d33 b22.Queues)]) (F := F) hS 13 rfl [] (by decide)
                exact hP _ hS
              · refine w_skip ?_
                refine seq_n hK122 ?_
                refine w_seq fun K125 hK125 => ?_
                refine w_seq fun K126 hK126 => ?_
                refine w_reg gC ?_
                try simp only [W, EE, Nat.reduceAdd]
                refine seq_n hK126 ?_
                refine w_if ?_
                simp only [W]
                refine w_cnd h (fun hc h => ?_) (fun hc h => ?_)
                · refine w_seq fun K127 hK127 => ?_
                  refine w_reg gC ?_
                  try simp only [W, Nat.reduceAdd]
                  refine seq_n hK127 ?_
                  refine w_ret ?_
                  refine seq_r hK125 ?_
                  refine fin_r1 hK0 rfl ?_
                  try obtain rfl := Option.some.inj h
                  have hS : Own _ (F) := Own.catI_ (bl := [[⟨v63, 1, b114.map (AV.int .i64)⟩], [⟨v65, 1, ouw nm_SInt d118 b115⟩], [⟨v68, 1, b116.map (AV.int .i64)⟩], [⟨v70, 1, b117.map (AV.int .i64)⟩], [⟨v30, 1, b22.Quanta.map (AV.int .i64)⟩], [⟨v32, 1, ouw nm_SInt d33 b22.Queues⟩], [⟨v35, 1, b22.Credit.map (AV.int .i64)⟩], [⟨v37, 1, b22.Sent.map (AV.int .i64)⟩], [⟨.ptr ip2 wp2 0 0, 5, [.agg [.fz (a0.Quanta.map (AV.int .i64)), .fz (a0.Queues.map (fzl (AV.int .i64))), .fz (a0.Credit.map (AV.int .i64)), .fz (a0.Sent.map (AV.int .i64)), .int .i64 a0.At]]⟩], [⟨.ptr ip38 wp38 0 0, 5, [.agg [v30, v32, v35, v37, .int .i64 b22.At]]⟩], [⟨.ptr ip71 wp71 0 0, 5, [.agg [v63, v65, v68, v70, .int .i64 b55.At]]⟩], (inn np_SInt (AV.int .i64) 1 d118 b115), (inn np_SInt (AV.int .i64) 1 d33 b22.Queues)]) (F := F) hS 13 rfl [] (by decide)
                  exact hP _ hS
                · refine w_skip ?_
                  refine seq_n hK125 ?_
                  refine w_seq fun K128 hK128 => ?_
                  refine w_reg gC ?_
                  try simp only [W, EE, reduceIte, Nat.reduceAdd, Nat.reduceLeDiff, Nat.reduceBEq, hS.var 8 rfl, List.contains_cons, Nat.reduceBEq, Bool.or_self]
                  refine w_call h fun b129 hb129 h => ?_
                  refine laws_toTurns_w hb129 hS fun v130 qv130 v132 qv132 d134 qd134 v135 qv135 v137 qv137 H hS => ?_
                  have hS : Own _ (⟨v130, 1, b129.Quanta.map (AV.int .i64)⟩ :: ⟨v132, 1, ouw nm_SInt d134 b129.Queues⟩ :: ⟨v135, 1, b129.Credit.map (AV.int .i64)⟩ :: ⟨v137, 1, b129.Sent.map (AV.int .i64)⟩ :: ⟨v63, 1, b114.map (AV.int .i64)⟩ :: ⟨v65, 1, ouw nm_SInt d118 b115⟩ :: ⟨v68, 1, b116.map (AV.int .i64)⟩ :: ⟨v70, 1, b117.map (AV.int .i64)⟩ :: ⟨v30, 1, b22.Quanta.map (AV.int .i64)⟩ :: ⟨v32, 1, ouw nm_SInt d33 b22.Queues⟩ :: ⟨v35, 1, b22.Credit.map (AV.int .i64)⟩ :: ⟨v37, 1, b22.Sent.map (AV.int .i64)⟩ :: ⟨.ptr ip2 wp2 0 0, 5, [.agg [.fz (a0.Quanta.map (AV.int .i64)), .fz (a0.Queues.map (fzl (AV.int .i64))), .fz (a0.Credit.map (AV.int .i64)), .fz (a0.Sent.map (AV.int .i64)), .int .i64 a0.At]]⟩ :: ⟨.ptr ip38 wp38 0 0, 5, [.agg [v30, v32, v35, v37, .int .i64 b22.At]]⟩ :: ⟨.ptr ip71 wp71 0 0, 5, [.agg [v63, v65, v68, v70, .int .i64 b55.At]]⟩ :: ((inn np_SInt (AV.int .i64) 1 d134 b129.Queues) ++ (((inn np_SInt (AV.int .i64) 1 d118 b115) ++ (((inn np_SInt (AV.int .i64) 1 d33 b22.Queues) ++ (F))))))) := Own.catI_ (bl := [[⟨v130, 1, b129.Quanta.map (AV.int .i64)⟩], [⟨v132, 1, ouw nm_SInt d134 b129.Queues⟩], [⟨v135, 1, b129.Credit.map (AV.int .i64)⟩], [⟨v137, 1, b129.Sent.map (AV.int .i64)⟩], (inn np_SInt (AV.int .i64) 1 d134 b129.Queues), [⟨v63, 1, b114.map (AV.int .i64)⟩], [⟨v65, 1, ouw nm_SInt d118 b115⟩], [⟨v68, 1, b116.map (AV.int .i64)⟩], [⟨v70, 1, b117.map (AV.int .i64)⟩], [⟨v30, 1, b22.Quanta.map (AV.int .i64)⟩], [⟨v32, 1, ouw nm_SInt d33 b22.Queues⟩], [⟨v35, 1, b22.Credit.map (AV.int .i64)⟩], [⟨v37, 1, b22.Sent.map (AV.int .i64)⟩], [⟨.ptr ip2 wp2 0 0, 5, [.agg [.fz (a0.Quanta.map (AV.int .i64)), .fz (a0.Queues.map (fzl (AV.int .i64))), .fz (a0.Credit.map (AV.int .i64)), .fz (a0.Sent.map (AV.int .i64)), .int .i64 a0.At]]⟩], [⟨.ptr ip38 wp38 0 0, 5, [.agg [v30, v32, v35, v37, .int .i64 b22.At]]⟩], [⟨.ptr ip71 wp71 0 0, 5, [.agg [v63, v65, v68, v70, .int .i64 b55.At]]⟩], (inn np_SInt (AV.int .i64) 1 d118 b115), (inn np_SInt (AV.int .i64) 1 d33 b22.Queues)]) (F := F) hS 18 rfl [0, 1, 2, 3, 5, 6, 7, 8, 9, 10, 11, 12, 13, 14, 15, 4, 16, 17] (by decide)
                  try simp only [W]
                  have hS : Own _ (⟨v130, 1, b129.Quanta.map (AV.int .i64)⟩ :: ⟨v132, 1, ouw nm_SInt d134 b129.Queues⟩ :: ⟨v135, 1, b129.Credit.map (AV.int .i64)⟩ :: ⟨v137, 1, b129.Sent.map (AV.int .i64)⟩ :: ⟨v63, 1, b114.map (AV.int .i64)⟩ :: ⟨v65, 1, ouw nm_SInt d118 b115⟩ :: ⟨v68, 1, b116.map (AV.int .i64)⟩ :: ⟨v70, 1, b117.map (AV.int .i64)⟩ :: ⟨v30, 1, b22.Quanta.map (AV.int .i64)⟩ :: ⟨v32, 1, ouw nm_SInt d33 b22.Queues⟩ :: ⟨v35, 1, b22.Credit.map (AV.int .i64)⟩ :: ⟨v37, 1, b22.Sent.map (AV.int .i64)⟩ :: ⟨.ptr ip2 wp2 0 0, 5, [.agg [.fz (a0.Quanta.map (AV.int .i64)), .fz (a0.Queues.map (fzl (AV.int .i64))), .fz (a0.Credit.map (AV.int .i64)), .fz (a0.Sent.map (AV.int .i64)), .int .i64 a0.At]]⟩ :: ⟨.ptr ip38 wp38 0 0, 5, [.agg [v30, v32, v35, v37, .int .i64 b22.At]]⟩ :: ⟨.ptr ip71 wp71 0 0, 5, [.agg [v63, v65, v68, v70, .int .i64 b55.At]]⟩ :: ((inn np_SInt (AV.int .i64) 1 d134 b129.Queues) ++ ((inn np_SInt (AV.int .i64) 1 d118 b115) ++ ((inn np_SInt (AV.int .i64) 1 d33 b22.Queues) ++ F)))) := hS
                  refine w_callO (rsh := [[.sl [.sc], .sl [.sl [.sc]], .sl [.sc], .sl [.sc], .sc], [.sc]]) (ys := [.agg [.fz (b129.Quanta.map (AV.int .i64)), .fz (b129.Queues.map (fzl (AV.int .i64))), .fz (b129.Credit.map (AV.int .i64)), .fz (b129.Sent.map (AV.int .i64)), .int .i64 b129.At], .int .i64 a1]) h rfl (pv_c (sn_agg (sm_c (sn_ow hS 0 rfl qv130 (fun _ => rfl)) (sm_c (sn_owN (enc := (fzl (AV.int .i64))) hS 1 rfl qv132 qd134 (fun _ h => (List.mem_cons_of_mem _ (List.mem_cons_of_mem _ (List.mem_cons_of_mem _ (List.mem_cons_of_mem _ (List.mem_cons_of_mem _ (List.mem_cons_of_mem _ (List.mem_cons_of_mem _ (List.mem_cons_of_mem _ (List.mem_cons_of_mem _ (List.mem_cons_of_mem _ (List.mem_cons_of_mem _ (List.mem_cons_of_mem _ (List.mem_cons_of_mem _ (List.mem_cons_of_mem _ (List.mem_cons_of_mem _ (List.mem_append_left _ h))))))))))))))))) (fun _ _ ha hk => sn_it hk ha (fun _ => rfl))) (sm_c (sn_ow hS 2 rfl qv135 (fun _ => rfl)) (sm_c (sn_ow hS 3 rfl qv137 (fun _ => rfl)) (sm_c rfl (sm_n _))))))) (pv_c rfl pv_n)) fun b139 hb139 h => ⟨.tup [.agg [.own 1 (b139.1.Quanta.map (AV.int .i64)), .own 1 (b139.1.Queues.map nd_SInt), .own 1 (b139.1.Credit.map (AV.int .i64)), .own 1 (b139.1.Sent.map (AV.int .i64)), .int .i64 b139.1.At], .bool b139.2], impl_RunTurns_w hb139 (Own.nil _) fun v142 qv142 v143 qv143 d144 qd144 v145 qv145 v146 qv146 H hS => TV_ok rfl (TV_a (TC_ow 0 hS rfl qv142 (fun _ _ => by simp [takeE, takeT, plainA]) fun H hS => TC_owN (d := nd_SInt) (Own.catI_ (bl := [[⟨v143, 1, ouw nm_SInt d144 b139.1.Queues⟩], [⟨v145, 1, b139.1.Credit.map (AV.int .i64)⟩], [⟨v146, 1, b139.1.Sent.map (AV.int .i64)⟩], (inn np_SInt (AV.int .i64) 1 d144 b139.1.Queues)]) (F := []) hS 4 rfl [0, 3, 1, 2] (by decide)) qv143 qd144 nt_SInt fun H hS => TC_ow 0 hS rfl qv145 (fun _ _ => by simp [takeE, takeT, plainA]) fun H hS => TC_ow 0 hS rfl qv146 (fun _ _ => by simp [takeE, takeT, plainA]) fun H hS => TC_sc rfl (TC_nil (TV_p rfl (TV_n rfl))))), (nf_t (nf_c (nf_a (nf_c (noFz_o _ (fun _ => rfl) _) (nf_c (noFz_o _ nf_SInt _) (nf_c (noFz_o _ (fun _ => rfl) _) (nf_c (noFz_o _ (fun _ => rfl) _) (nf_c rfl nf_n)))))) (nf_c rfl nf_n))), ?_⟩
                  obtain ⟨b140, b141⟩ := b139
                  try dsimp only at h
                  dsimp only
                  refine thaw_tup ?_
                  refine TH_a ?_
                  refine TH_o hS (fun _ _ => rfl) (fun _ => rfl) fun v148 H qv148 hS => ?_
                  refine TH_oN (l := b140.Queues) (d := nd_SInt) (m := nm_SInt) (p := np_SInt) (c := (AV.int .i64)) hS nc_SInt nh_SInt fun v150 d151 H qv150 qd151 hS => ?_
                  have hS : Own _ (⟨v150, 1, ouw nm_SInt d151 b140.Queues⟩ :: ⟨v148, 1, b140.Quanta.map (AV.int .i64)⟩ :: ⟨v130, 1, b129.Quanta.map (AV.int .i64)⟩ :: ⟨v132, 1, ouw nm_SInt d134 b129.Queues⟩ :: ⟨v135, 1, b129.Credit.map (AV.int .i64)⟩ :: ⟨v137, 1, b129.Sent.map (AV.int .i64)⟩ :: ⟨v63, 1, b114.map (AV.int .i64)⟩ :: ⟨v65, 1, ouw nm_SInt d118 b115⟩ :: ⟨v68, 1, b116.map (AV.int .i64)⟩ :: ⟨v70, 1, b117.map (AV.int .i64)⟩ :: ⟨v30, 1, b22.Quanta.map (AV.int .i64)⟩ :: ⟨v32, 1, ouw nm_SInt d33 b22.Queues⟩ :: ⟨v35, 1, b22.Credit.map (AV.int .i64)⟩ :: ⟨v37, 1, b22.Sent.map (AV.int .i64)⟩ :: ⟨.ptr ip2 wp2 0 0, 5, [.agg [.fz (a0.Quanta.map (AV.int .i64)), .fz (a0.Queues.map (fzl (AV.int .i64))), .fz (a0.Credit.map (AV.int .i64)), .fz (a0.Sent.map (AV.int .i64)), .int .i64 a0.At]]⟩ :: ⟨.ptr ip38 wp38 0 0, 5, [.agg [v30, v32, v35, v37, .int .i64 b22.At]]⟩ :: ⟨.ptr ip71 wp71 0 0, 5, [.agg [v63, v65, v68, v70, .int .i64 b55.At]]⟩ :: ((inn np_SInt (AV.int .i64) 1 d151 b140.Queues) ++ (((inn np_SInt (AV.int .i64) 1 d134 b129.Queues) ++ (((inn np_SInt (AV.int .i64) 1 d118 b115) ++ (((inn np_SInt (AV.int .i64) 1 d33 b22.Queues) ++ (F))))))))) := Own.catI_ (bl := [[⟨v150, 1, ouw nm_SInt d151 b140.Queues⟩], (inn np_SInt (AV.int .i64) 1 d151 b140.Queues), [⟨v148, 1, b140.Quanta.map (AV.int .i64)⟩], [⟨v130, 1, b129.Quanta.map (AV.int .i64)⟩], [⟨v132, 1, ouw nm_SInt d134 b129.Queues⟩], [⟨v135, 1, b129.Credit.map (AV.int .i64)⟩], [⟨v137, 1, b129.Sent.map (AV.int .i64)⟩], [⟨v63, 1, b114.map (AV.int .i64)⟩], [⟨v65, 1, ouw nm_SInt d118 b115⟩], [⟨v68, 1, b116.map (AV.int .i64)⟩], [⟨v70, 1, b117.map (AV.int .i64)⟩], [⟨v30, 1, b22.Quanta.map (AV.int .i64)⟩], [⟨v32, 1, ouw nm_SInt d33 b22.Queues⟩], [⟨v35, 1, b22.Credit.map (AV.int .i64)⟩], [⟨v37, 1, b22.Sent.map (AV.int .i64)⟩], [⟨.ptr ip2 wp2 0 0, 5, [.agg [.fz (a0.Quanta.map (AV.int .i64)), .fz (a0.Queues.map (fzl (AV.int .i64))), .fz (a0.Credit.map (AV.int .i64)), .fz (a0.Sent.map (AV.int .i64)), .int .i64 a0.At]]⟩], [⟨.ptr ip38 wp38 0 0, 5, [.agg [v30, v32, v35, v37, .int .i64 b22.At]]⟩], [⟨.ptr ip71 wp71 0 0, 5, [.agg [v63, v65, v68, v70, .int .i64 b55.At]]⟩], (inn np_SInt (AV.int .i64) 1 d134 b129.Queues), (inn np_SInt (AV.int .i64) 1 d118 b115), (inn np_SInt (AV.int .i64) 1 d33 b22.Queues)]) (F := F) hS 21 rfl [0, 2, 3, 4, 5, 6, 7, 8, 9, 10, 11, 12, 13, 14, 15, 16, 17, 1, 18, 19, 20] (by decide)
                  refine TH_o hS (fun _ _ => rfl) (fun _ => rfl) fun v153 H qv153 hS => ?_
                  refine TH_o hS (fun _ _ => rfl) (fun _ => rfl) fun v155 H qv155 hS => ?_
                  refine TH_p (fun _ => rfl) ?_
                  refine TH_n ?_
                  refine TH_p (fun _ => rfl) ?_
                  refine TH_n ?_
                  try simp only [List.headD_cons]
                  try simp only [W]
                  refine w_alloc hS rfl rfl fun ip156 wp156 H hS => ?_
                  try simp only [W]
                  refine w_stv (a := .agg [v148, v150, v153, v155, .int .i64 b140.At]) (y' := .agg [v148, v150, v153, v155, .int .i64 b140.At]) 0 hS rfl rfl rfl rfl rfl (by simp only [storA, List.all_cons, List.all_nil, qv148.stor, qv150.stor, qv153.stor, qv155.stor]; rfl) rfl rfl fun H hS => ?_
                  try simp only [W]
                  refine seq_n hK128 ?_
                  refine w_seq fun K158 hK158 => ?_
                  refine w_seq fun K159 hK159 => ?_
                  obtain ⟨y161, h, g162⟩ := Option.bind_eq_some_iff.1 h
                  refine w_join gC (fun s H => ∃ x160 : Bool, y161 = (x160) ∧ s = (u :: u :: u :: u :: u :: u :: u :: u :: u :: .ptr ip71 wp71 0 0 :: u :: u :: .int .i64 b113 :: u :: u :: u :: u :: u :: u :: u :: u :: u :: u :: u :: u :: u :: u :: u :: u :: u :: u :: u :: u :: u :: u :: u :: u :: u :: u :: u :: u :: u :: u :: u :: u :: u :: u :: u :: u :: u :: u :: u :: u :: u :: u :: u :: u :: u :: u :: u :: u :: u :: u :: u :: u :: u :: u :: u :: u :: u :: u :: u :: u :: u :: u :: u :: u :: u :: u :: u :: u :: u :: u :: u :: u :: u :: u :: u :: u :: u :: u :: u :: .bool x160 :: u :: u :: u :: u :: u :: u :: u :: u :: []) ∧ Own H (⟨v63, 1, b114.map (AV.int .i64)⟩ :: ⟨v65, 1, ouw nm_SInt d118 b115⟩ :: ⟨v68, 1, b116.map (AV.int .i64)⟩ :: ⟨v70, 1, b117.map (AV.int .i64)⟩ :: ⟨.ptr ip71 wp71 0 0, 5, [.agg [v63, v65, v68, v70, .int .i64 b55.At]]⟩ :: ((inn np_SInt (AV.int .i64) 1 d118 b115) ++ F))) (fun K163 hK163 => ?_) (fun s H hq => ?_)
                  · refine w_seq fun K164 hK164 => ?_
                    refine w_reg gC ?_
                    try simp only [W, EE, reduceIte, Nat.reduceAdd, Nat.reduceLeDiff, hS.var 0 rfl, hS.var 18 rfl]
                    have hS : Own _ (⟨.ptr ip156 wp156 0 0, 5, [.agg [v148, v150, v153, v155, .int .i64 b140.At]]⟩ :: ⟨v155, 1, b140.Sent.map (AV.int .i64)⟩ :: ⟨v153, 1, b140.Credit.map (AV.int .i64)⟩ :: ⟨v150, 1, ouw nm_SInt d151 b140.Queues⟩ :: ⟨v148, 1, b140.Quanta.map (AV.int .i64)⟩ :: ⟨v130, 1, b129.Quanta.map (AV.int .i64)⟩ :: ⟨v132, 1, ouw nm_SInt d134 b129.Queues⟩ :: ⟨v135, 1, b129.Credit.map (AV.int .i64)⟩ :: ⟨v137, 1, b129.Sent.map (AV.int .i64)⟩ :: ⟨v63, 1, b114.map (AV.int .i64)⟩ :: ⟨v65, 1, ouw nm_SInt d118 b115⟩ :: ⟨v68, 1, b116.map (AV.int .i64)⟩ :: ⟨v70, 1, b117.map (AV.int .i64)⟩ :: ⟨v30, 1, b22.Quanta.map (AV.int .i64)⟩ :: ⟨v32, 1, ouw nm_SInt d33 b22.Queues⟩ :: ⟨v35, 1, b22.Credit.map (AV.int .i64)⟩ :: ⟨v37, 1, b22.Sent.map (AV.int .i64)⟩ :: ⟨.ptr ip2 wp2 0 0, 5, [.agg [.fz (a0.Quanta.map (AV.int .i64)), .fz (a0.Queues.map (fzl (AV.int .i64))), .fz (a0.Credit.map (AV.int .i64)), .fz (a0.Sent.map (AV.int .i64)), .int .i64 a0.At]]⟩ :: ⟨.ptr ip38 wp38 0 0, 5, [.agg [v30, v32, v35, v37, .int .i64 b22.At]]⟩ :: ⟨.ptr ip71 wp71 0 0, 5, [.agg [v63, v65, v68, v70, .int .i64 b55.At]]⟩ :: ((inn np_SInt (AV.int .i64) 1 d151 b140.Queues) ++ ((inn np_SInt (AV.int .i64) 1 d134 b129.Queues) ++ ((inn np_SInt (AV.int .i64) 1 d118 b115) ++ ((inn np_SInt (AV.int .i64) 1 d33 b22.Queues) ++ F))))) := hS
                    refine w_callS (rsh := [[.sc]]) (ys := [.agg [.fz (b140.Quanta.map (AV.int .i64)), .fz (b140.Queues.map (fzl (AV.int .i64))), .fz (b140.Credit.map (AV.int .i64)), .fz (b140.Sent.map (AV.int .i64)), .int .i64 b140.At], .agg [.fz (b22.Quanta.map (AV.int .i64)), .fz (b22.Queues.map (fzl (AV.int .i64))), .fz (b22.Credit.map (AV.int .i64)), .fz (b22.Sent.map (AV.int .i64)), .int .i64 b22.At]]) h rfl (pv_c (sn_agg (sm_c (sn_ow hS 4 rfl qv148 (fun _ => rfl)) (sm_c (sn_owN (enc := (fzl (AV.int .i64))) hS 3 rfl qv150 qd151 (fun _ h => (List.mem_cons_of_mem _ (List.mem_cons_of_mem _ (List.mem_cons_of_mem _ (List.mem_cons_of_mem _ (List.mem_cons_of_mem _ (List.mem_cons_of_mem _ (List.mem_cons_of_mem _ (List.mem_cons_of_mem _ (List.mem_cons_of_mem _ (List.mem_cons_of_mem _ (List.mem_cons_of_mem _ (List.mem_cons_of_mem _ (List.mem_cons_of_mem _ (List.mem_cons_of_mem _ (List.mem_cons_of_mem _ (List.mem_cons_of_mem _ (List.mem_cons_of_mem _ (List.mem_cons_of_mem _ (List.mem_cons_of_mem _ (List.mem_cons_of_mem _ (List.mem_append_left _ h)))))))))))))))))))))) (fun _ _ ha hk => sn_it hk ha (fun _ => rfl))) (sm_c (sn_ow hS 2 rfl qv153 (fun _ => rfl)) (sm_c (sn_ow hS 1 rfl qv155 (fun _ => rfl)) (sm_c rfl (sm_n _))))))) (pv_c (sn_agg (sm_c (sn_ow hS 13 rfl qv30 (fun _ => rfl)) (sm_c (sn_owN (enc := (fzl (AV.int .i64))) hS 14 rfl qv32 qd33 (fun _ h => (List.mem_cons_of_mem _ (List.mem_cons_of_mem _ (List.mem_cons_of_mem _ (List.mem_cons_of_mem _ (List.mem_cons_of_mem _ (List.mem_cons_of_mem _ (List.mem_cons_of_mem _ (List.mem_cons_of_mem _ (List.mem_cons_of_mem _ (List.mem_cons_of_mem _ (List.mem_cons_of_mem _ (List.mem_cons_of_mem _ (List.mem_cons_of_mem _ (List.mem_cons_of_mem _ (List.mem_cons_of_mem _ (List.mem_cons_of_mem _ (List.mem_cons_of_mem _ (List.mem_cons_of_mem _ (List.mem_cons_of_mem _ (List.mem_cons_of_mem _ (List.mem_append_right _ (List.mem_append_right _ (List.mem_append_right _ (List.mem_append_left _ h))))))))))))))))))))))))) (fun _ _ ha hk => sn_it hk ha (fun _ => rfl))) (sm_c (sn_ow hS 15 rfl qv35 (fun _ => rfl)) (sm_c (sn_ow hS 16 rfl qv37 (fun _ => rfl)) (sm_c rfl (sm_n _))))))) pv_n)) fun b165 hb165 h => ⟨.bool b165, laws_eqTurns_w hb165 (Own.nil _) fun H hS => TV_ok rfl (TV_p rfl (TV_n rfl)), ⟨rfl, rfl, fun _ => rfl⟩, ?_⟩
                    try simp only [W]
                    refine w_grdT h (fun hc h => ?_) (fun hc h => ?_)
                    · try simp only [W, hc]
                      refine seq_n hK164 ?_
                      refine w_killE (s' := (u :: u :: u :: u :: u :: u :: u :: u :: u :: .ptr ip71 wp71 0 0 :: u :: u :: .int .i64 b113 :: u :: u :: u :: u :: u :: u :: u :: u :: u :: u :: u :: u :: u :: u :: u :: u :: u :: u :: u :: u :: u :: u :: u :: u :: u :: u :: u :: u :: u :: u :: u :: u :: u :: u :: u :: u :: u :: u :: u :: u :: u :: u :: u :: u :: u :: u :: u :: u :: u :: u :: u :: u :: u :: u :: u :: u :: u :: u :: u :: u :: u :: u :: u :: u :: u :: u :: u :: u :: u :: u :: u :: u :: u :: u :: u :: u :: u :: u :: u :: .bool true :: u :: u :: u :: u :: u :: u :: u :: u :: [])) rfl ?_
                      have hS : Own _ (⟨v63, 1, b114.map (AV.int .i64)⟩ :: ⟨v65, 1, ouw nm_SInt d118 b115⟩ :: ⟨v68, 1, b116.map (AV.int .i64)⟩ :: ⟨v70, 1, b117.map (AV.int .i64)⟩ :: ⟨.ptr ip71 wp71 0 0, 5, [.agg [v63, v65, v68, v70, .int .i64 b55.At]]⟩ :: ((inn np_SInt (AV.int .i64) 1 d118 b115) ++ (F))) := Own.catI_ (bl := [[⟨.ptr ip156 wp156 0 0, 5, [.agg [v148, v150, v153, v155, .int .i64 b140.At]]⟩], [⟨v155, 1, b140.Sent.map (AV.int .i64)⟩], [⟨v153, 1, b140.Credit.map (AV.int .i64)⟩], [⟨v150, 1, ouw nm_SInt d151 b140.Queues⟩], [⟨v148, 1, b140.Quanta.map (AV.int .i64)⟩], [⟨v130, 1, b129.Quanta.map (AV.int .i64)⟩], [⟨v132, 1, ouw nm_SInt d134 b129.Queues⟩], [⟨v135, 1, b129.Credit.map (AV.int .i64)⟩], [⟨v137, 1, b129.Sent.map (AV.int .i64)⟩], [⟨v63, 1, b114.map (AV.int .i64)⟩], [⟨v65, 1, ouw nm_SInt d118 b115⟩], [⟨v68, 1, b116.map (AV.int .i64)⟩], [⟨v70, 1, b117.map (AV.int .i64)⟩], [⟨v30, 1, b22.Quanta.map (AV.int .i64)⟩], [⟨v32, 1, ouw nm_SInt d33 b22.Queues⟩], [⟨v35, 1, b22.Credit.map (AV.int .i64)⟩], [⟨v37, 1, b22.Sent.map (AV.int .i64)⟩], [⟨.ptr ip2 wp2 0 0, 5, [.agg [.fz (a0.Quanta.map (AV.int .i64)), .fz (a0.Queues.map (fzl (AV.int .i64))), .fz (a0.Credit.map (AV.int .i64)), .fz (a0.Sent.map (AV.int .i64)), .int .i64 a0.At]]⟩], [⟨.ptr ip38 wp38 0 0, 5, [.agg [v30, v32, v35, v37, .int .i64 b22.At]]⟩], [⟨.ptr ip71 wp71 0 0, 5, [.agg [v63, v65, v68, v70, .int .i64 b55.At]]⟩], (inn np_SInt (AV.int .i64) 1 d151 b140.Queues), (inn np_SInt (AV.int .i64) 1 d134 b129.Queues), (inn np_SInt (AV.int .i64) 1 d118 b115), (inn np_SInt (AV.int .i64) 1 d33 b22.Queues)]) (F := F) hS 24 rfl [9, 10, 11, 12, 19, 22] (by decide)
                      exact cut_n hK163 ⟨_, (Option.some.inj h).symm, rfl, hS⟩
                    · try simp only [W, EE, hc]
                      rw [b_bneq _ _ _ _ (h := rfl) rfl, resV_s]
                      try simp only [W, reduceIte, Bool.false_eq_true]
                      refine seq_n hK164 ?_
                      refine w_killE (s' := (u :: u :: u :: u :: u :: u :: u :: u :: u :: .ptr ip71 wp71 0 0 :: u :: u :: .int .i64 b113 :: u :: u :: u :: u :: u :: u :: u :: u :: u :: u :: u :: u :: u :: u :: u :: u :: u :: u :: u :: u :: u :: u :: u :: u :: u :: u :: u :: u :: u :: u :: u :: u :: u :: u :: u :: u :: u :: u :: u :: u :: u :: u :: u :: u :: u :: u :: u :: u :: u :: u :: u :: u :: u :: u :: u :: u :: u :: u :: u :: u :: u :: u :: u :: u :: u :: u :: u :: u :: u :: u :: u :: u :: u :: u :: u :: u :: u :: u :: u :: .bool (!(b141 == b23)) :: u :: u :: u :: u :: u :: u :: u :: u :: [])) rfl ?_
                      have hS : Own _ (⟨v63, 1, b114.map (AV.int .i64)⟩ :: ⟨v65, 1, ouw nm_SInt d118 b115⟩ :: ⟨v68, 1, b116.map (AV.int .i64)⟩ :: ⟨v70, 1, b117.map (AV.int .i64)⟩ :: ⟨.ptr ip71 wp71 0 0, 5, [.agg [v63, v65, v68, v70, .int .i64 b55.At]]⟩ :: ((inn np_SInt (AV.int .i64) 1 d118 b115) ++ (F))) := Own.catI_ (bl := [[⟨.ptr ip156 wp156 0 0, 5, [.agg [v148, v150, v153, v155, .int .i64 b140.At]]⟩], [⟨v155, 1, b140.Sent.map (AV.int .i64)⟩], [⟨v153, 1, b140.Credit.map (AV.int .i64)⟩], [⟨v150, 1, ouw nm_SInt d151 b140.Queues⟩], [⟨v148, 1, b140.Quanta.map (AV.int .i64)⟩], [⟨v130, 1, b129.Quanta.map (AV.int .i64)⟩], [⟨v132, 1, ouw nm_SInt d134 b129.Queues⟩], [⟨v135, 1, b129.Credit.map (AV.int .i64)⟩], [⟨v137, 1, b129.Sent.map (AV.int .i64)⟩], [⟨v63, 1, b114.map (AV.int .i64)⟩], [⟨v65, 1, ouw nm_SInt d118 b115⟩], [⟨v68, 1, b116.map (AV.int .i64)⟩], [⟨v70, 1, b117.map (AV.int .i64)⟩], [⟨v30, 1, b22.Quanta.map (AV.int .i64)⟩], [⟨v32, 1, ouw nm_SInt d33 b22.Queues⟩], [⟨v35, 1, b22.Credit.map (AV.int .i64)⟩], [⟨v37, 1, b22.Sent.map (AV.int .i64)⟩], [⟨.ptr ip2 wp2 0 0, 5, [.agg [.fz (a0.Quanta.map (AV.int .i64)), .fz (a0.Queues.map (fzl (AV.int .i64))), .fz (a0.Credit.map (AV.int .i64)), .fz (a0.Sent.map (AV.int .i64)), .int .i64 a0.At]]⟩], [⟨.ptr ip38 wp38 0 0, 5, [.agg [v30, v32, v35, v37, .int .i64 b22.At]]⟩], [⟨.ptr ip71 wp71 0 0, 5, [.agg [v63, v65, v68, v70, .int .i64 b55.At]]⟩], (inn np_SInt (AV.int .i64) 1 d151 b140.Queues), (inn np_SInt (AV.int .i64) 1 d134 b129.Queues), (inn np_SInt (AV.int .i64) 1 d118 b115), (inn np_SInt (AV.int .i64) 1 d33 b22.Queues)]) (F := F) hS 24 rfl [9, 10, 11, 12, 19, 22] (by decide)
                      exact cut_n hK163 ⟨_, (Option.some.inj h).symm, rfl, hS⟩
                  · obtain ⟨x160, ey, rfl, hS⟩ := hq; obtain rfl := ey.symm
                    replace h := g162
                    try dsimp only at h
                    refine seq_n hK159 ?_
                    refine w_if ?_
                    simp only [W]
                    refine w_cnd h (fun hc h => ?_) (fun hc h => ?_)
                    · refine w_seq fun K166 hK166 => ?_
                      refine w_reg gC ?_
                      try simp only [W, Nat.reduceAdd]
                      refine seq_n hK166 ?_
                      refine w_ret ?_
                      refine seq_r hK158 ?_
                      refine fin_r1 hK0 rfl ?_
                      try obtain rfl := Option.some.inj h
                      have hS : Own _ (F) := Own.catI_ (bl := [[⟨v63, 1, b114.map (AV.int .i64)⟩], [⟨v65, 1, ouw nm_SInt d118 b115⟩], [⟨v68, 1, b116.map (AV.int .i64)⟩], [⟨v70, 1, b117.map (AV.int .i64)⟩], [⟨.ptr ip71 wp71 0 0, 5, [.agg [v63, v65, v68, v70, .int .i64 b55.At]]⟩], (inn np_SInt (AV.int .i64) 1 d118 b115)]) (F := F) hS 6 rfl [] (by decide)
                      exact hP _ hS
                    · refine w_skip ?_
                      refine seq_n hK158 ?_
                      refine w_seq fun K167 hK167 => ?_
                      refine w_reg gC ?_
                      try simp only [W, Nat.reduceAdd]
                      refine seq_n hK167 ?_
                      refine w_seq fun K168 hK168 => ?_
                      refine w_reg gC ?_
                      try simp only [W, EE, reduceIte, Nat.reduceAdd, Nat.reduceLeDiff, hS.var 4 rfl]
                      have hS : Own _ (⟨v63, 1, b114.map (AV.int .i64)⟩ :: ⟨v65, 1, ouw nm_SInt d118 b115⟩ :: ⟨v68, 1, b116.map (AV.int .i64)⟩ :: ⟨v70, 1, b117.map (AV.int .i64)⟩ :: ⟨.ptr ip71 wp71 0 0, 5, [.agg [v63, v65, v68, v70, .int .i64 b55.At]]⟩ :: ((inn np_SInt (AV.int .i64) 1 d118 b115) ++ F)) := hS
                      refine w_callS (rsh := [[.sc]]) (ys := [.agg [.fz (b114.map (AV.int .i64)), .fz (b115.map (fzl (AV.int .i64))), .fz (b116.map (AV.int .i64)), .fz (b117.map (AV.int .i64)), .int .i64 b55.At], .int .i64 1]) h rfl (pv_c (sn_agg (sm_c (sn_ow hS 0 rfl qv63 (fun _ => rfl)) (sm_c (sn_owN (enc := (fzl (AV.int .i64))) hS 1 rfl qv65 qd118 (fun _ h => (List.mem_cons_of_mem _ (List.mem_cons_of_mem _ (List.mem_cons_of_mem _ (List.mem_cons_of_mem _ (List.mem_cons_of_mem _ (List.mem_append_left _ h))))))) (fun _ _ ha hk => sn_it hk ha (fun _ => rfl))) (sm_c (sn_ow hS 2 rfl qv68 (fun _ => rfl)) (sm_c (sn_ow hS 3 rfl qv70 (fun _ => rfl)) (sm_c rfl (sm_n _))))))) (pv_c rfl pv_n)) fun b169 hb169 h => ⟨.int .i64 b169, laws_heldTurns_w hb169 (Own.nil _) fun H hS => TV_ok rfl (TV_p rfl (TV_n rfl)), ⟨rfl, rfl, fun _ => rfl⟩, ?_⟩
                      try simp only [W]
                      refine seq_n hK168 ?_
                      refine w_seq fun K170 hK170 => ?_
                      refine w_seq fun K171 hK171 => ?_
                      refine w_reg gC ?_
                      try simp only [W, EE, Nat.reduceAdd]
                      refine seq_n hK171 ?_
                      refine w_if ?_
                      simp only [W]
                      refine w_cnd h (fun hc h => ?_) (fun hc h => ?_)
                      · refine w_seq fun K172 hK172 => ?_
                        refine w_reg gC ?_
                        try simp only [W, Nat.reduceAdd]
                        refine seq_n hK172 ?_
                        refine w_ret ?_
                        refine seq_r hK170 ?_
                        refine fin_r1 hK0 rfl ?_
                        try obtain rfl := Option.some.inj h
                        have hS : Own _ (F) := Own.catI_ (bl := [[⟨v63, 1, b114.map (AV.int .i64)⟩], [⟨v65, 1, ouw nm_SInt d118 b115⟩], [⟨v68, 1, b116.map (AV.int .i64)⟩], [⟨v70, 1, b117.map (AV.int .i64)⟩], [⟨.ptr ip71 wp71 0 0, 5, [.agg [v63, v65, v68, v70, .int .i64 b55.At]]⟩], (inn np_SInt (AV.int .i64) 1 d118 b115)]) (F := F) hS 6 rfl [] (by decide)
                        exact hP _ hS
                      · refine w_skip ?_
                        refine seq_n hK170 ?_
                        refine w_seq fun K173 hK173 => ?_
                        refine w_seq fun K174 hK174 => ?_
                        refine w_reg gC ?_
                        try simp only [W, EE, Nat.reduceAdd]
                        refine seq_n hK174 ?_
                        refine w_if ?_
                        simp only [W]
                        refine w_cnd h (fun hc h => ?_) (fun hc h => ?_)
                        · refine w_seq fun K175 hK175 => ?_
                          refine w_reg gC ?_
                          try simp only [W, Nat.reduceAdd]
                          refine seq_n hK175 ?_
                          refine w_ret ?_
                          refine seq_r hK173 ?_
                          refine fin_r1 hK0 rfl ?_
                          try obtain rfl := Option.some.inj h
                          have hS : Own _ (F) := Own.catI_ (bl := [[⟨v63, 1, b114.map (AV.int .i64)⟩], [⟨v65, 1, ouw nm_SInt d118 b115⟩], [⟨v68, 1, b116.map (AV.int .i64)⟩], [⟨v70, 1, b117.map (AV.int .i64)⟩], [⟨.ptr ip71 wp71 0 0, 5, [.agg [v63, v65, v68, v70, .int .i64 b55.At]]⟩], (inn np_SInt (AV.int .i64) 1 d118 b115)]) (F := F) hS 6 rfl [] (by decide)
                          exact hP _ hS
                        · refine w_skip ?_
                          refine seq_n hK173 ?_
                          refine w_seq fun K176 hK176 => ?_
                          refine w_reg gC ?_
                          try simp only [W, Nat.reduceAdd]
                          refine seq_n hK176 ?_
                          refine w_ret ?_
                          refine fin_r1 hK0 rfl ?_
                          try obtain rfl := Option.some.inj h
                          have hS : Own _ (F) := Own.catI_ (bl := [[⟨v63, 1, b114.map (AV.int .i64)⟩], [⟨v65, 1, ouw nm_SInt d118 b115⟩], [⟨v68, 1, b116.map (AV.int .i64)⟩], [⟨v70, 1, b117.map (AV.int .i64)⟩], [⟨.ptr ip71 wp71 0 0, 5, [.agg [v63, v65, v68, v70, .int .i64 b55.At]]⟩], (inn np_SInt (AV.int .i64) 1 d118 b115)]) (F := F) hS 6 rfl [] (by decide)
                          exact hP _ hS
end Go.VxW
