import Derived.Test.YtcgnkhdeckgaaaaVqG1
import Derived.Test.YtcgnkhdeckgaaaaProg
import Derived.Test.YtcgnkhdeckgaaaaVaE
import Derived.KernelRfl
open Go Go.VS
set_option maxRecDepth 8000
set_option maxHeartbeats 4000000
namespace Go.VxW
theorem impl_Court_tick_w {a0 : Court} {i0 : Nat} {w0 : Nat} {m101 : AV} {m102 : AV} {r : (Court)} (h : impl_Court_tick a0 = some r) {F : List It} {H : Heap} (hS : Own H (⟨.ptr i0 w0 0 0, 3, [.agg [.int .i64 a0.Now, m101, m102]]⟩ :: ⟨m101, 4, a0.Cases.map e_Case⟩ :: ⟨m102, 3, a0.Line.map e_Slip⟩ :: F)) (qm101 : isSl m101) (qm102 : isSl m102) {P : AV → Heap → Prop} (hP : ∀ nm101 : AV, isSl nm101 → ∀ nm102 : AV, isSl nm102 → ∀ H', Own H' (⟨.ptr i0 w0 0 0, 3, [.agg [.int .i64 r.Now, nm101, nm102]]⟩ :: ⟨nm101, 4, r.Cases.map e_Case⟩ :: ⟨nm102, 3, r.Line.map e_Slip⟩ :: F) → P (.tup []) H') : ACall C 226 [.ptr i0 w0 0 0] H P := by
  refine acall_of gC (res := []) (n := 41) rfl rfl rfl rfl fun K0 hK0 => ?_
  simp only [W, Nat.reduceSub, Nat.reduceAdd, List.replicate]
  unfold impl_Court_tick at h
  refine w_seq fun K1 hK1 => ?_
  refine w_reg gC ?_
  try simp only [W, EE, Nat.reduceAdd, Nat.reduceBEq, hS.var 0 rfl]
  refine w_stv (a := .int .i64 (IntKind.i64.wrap (a0.Now + 1))) (y' := .agg [.int .i64 (IntKind.i64.wrap (a0.Now + 1)), m101, m102]) 0 hS rfl rfl rfl rfl rfl rfl rfl rfl fun H hS => ?_
  try simp only [W]
  refine seq_n hK1 ?_
  refine w_seq fun K2 hK2 => ?_
  refine w_reg gC ?_
  try simp only [W, EE, Nat.reduceAdd, Nat.reduceBEq, hS.var 0 rfl]
  refine w_len 1 hS rfl qm101 rfl ?_
  try simp only [W]
  refine seq_n hK2 ?_
  obtain ⟨y6, hw7, g13⟩ := Option.bind_eq_some_iff.1 h
  refine w_join gC (fun s H => ∃ x5 : List Case, y6 = (x5) ∧ s = [u, u, u, u, u, u, u, u, u, u, u, u, u, u, u, u, u, u, u, u, u, u, u, u, u, u, u, u, u, u, u, u, u, u, u, u, u, u, u, u, u] ∧ Own H (⟨m101, 4, x5.map e_Case⟩ :: ⟨m102, 3, a0.Line.map e_Slip⟩ :: ⟨.ptr i0 w0 0 0, 3, [.agg [.int .i64 (IntKind.i64.wrap (a0.Now + 1)), m101, m102]]⟩ :: F)) (fun K8 hK8 => ?_) (fun s H hq => ?_)
  · refine w_blk fun K9 hK9 => ?_
    refine w_loop gC hw7 (fun x s H => match x with | (x3, x4) => s = [.ptr i0 w0 0 0, u, u, u, u, u, u, u, u, u, u, u, u, u, m101, .int .i64 (a0.Cases.length : Int), .int .i64 x4, u, u, u, u, u, u, u, u, u, u, u, u, u, u, u, u, u, u, u, u, u, u, u, u] ∧ Own H (⟨m101, 4, x3.map e_Case⟩ :: ⟨m102, 3, a0.Line.map e_Slip⟩ :: ⟨.ptr i0 w0 0 0, 3, [.agg [.int .i64 (IntKind.i64.wrap (a0.Now + 1)), m101, m102]]⟩ :: F)) ⟨rfl, (hS.sel 3 [1, 2, 0] (by decide))⟩ (fun x y12 s H h hd11 hi K10 hK10 => ?_)
    obtain ⟨x3, x4⟩ := x
    try dsimp only at hi
    obtain ⟨rfl, hS⟩ := hi
    simp only [impl_Court_tick_l0] at h
    refine w_seq fun K14 hK14 => ?_
    refine w_reg gC ?_
    try simp only [W, EE, Nat.reduceAdd]
    refine seq_n hK14 ?_
    refine w_seq fun K15 hK15 => ?_
    refine w_if ?_
    simp only [W]
    refine w_cnd h (fun hc h => ?_) (fun hc h => ?_)
    · refine w_skip ?_
      refine seq_n hK15 ?_
      refine w_seq fun K16 hK16 => ?_
      obtain ⟨y19, h, g20⟩ := Option.bind_eq_some_iff.1 h
      refine w_join gC (fun s H => ∃ x18 : List Case, y19 = (x18) ∧ s = [.ptr i0 w0 0 0, u, u, u, u, u, u, u, u, u, u, u, u, u, m101, .int .i64 (a0.Cases.length : Int), .int .i64 x4, u, u, u, u, u, u, u, u, u, u, u, u, u, u, u, u, u, u, u, u, u, u, u, u] ∧ Own H (⟨m101, 4, x18.map e_Case⟩ :: ⟨m102, 3, a0.Line.map e_Slip⟩ :: ⟨.ptr i0 w0 0 0, 3, [.agg [.int .i64 (IntKind.i64.wrap (a0.Now + 1)), m101, m102]]⟩ :: F)) (fun K21 hK21 => ?_) (fun s H hq => ?_)
      · refine w_blk fun K17 hK17 => ?_
        refine w_seq fun K22 hK22 => ?_
        refine w_reg gC ?_
        try simp only [W, EE, Nat.reduceAdd]
        refine w_ow 0 hS rfl rfl rfl rfl rfl h (fun b23 in24 wn24 on24 hb23 h en24 => ?_) qm101.ne
        obtain ⟨kn24, hbn24, hen24⟩ := hS.elem 0 rfl en24 hb23
        try simp only [W, EE, EN, reduceIte, Nat.reduceAdd, Nat.reduceLeDiff, hbn24, hen24]
        refine w_alloc hS rfl rfl fun ip25 wp25 H hS => ?_
        try simp only [W]
        refine w_stv (a := .agg [.int .i64 b23.End, .bool b23.Asks, .int .i64 b23.Final, .int .i64 b23.Said]) (y' := .agg [.int .i64 b23.End, .bool b23.Asks, .int .i64 b23.Final, .int .i64 b23.Said]) 0 hS rfl rfl rfl rfl rfl rfl rfl rfl fun H hS => ?_
        try simp only [W]
        refine seq_n hK22 ?_
        refine w_seq fun K27 hK27 => ?_
        obtain ⟨y29, h, g30⟩ := Option.bind_eq_some_iff.1 h
        refine w_join gC (fun s H => ∃ x28 : Bool, y29 = (x28) ∧ s = [.ptr i0 w0 0 0, u, .int .i64 x4, u, u, u, u, u, u, u, u, u, u, u, m101, .int .i64 (a0.Cases.length : Int), .int .i64 x4, u, u, u, u, u, u, u, u, u, u, u, u, u, u, u, .bool x28, u, u, u, u, u, u, u, u] ∧ Own H (⟨m101, 4, x3.map e_Case⟩ :: ⟨m102, 3, a0.Line.map e_Slip⟩ :: ⟨.ptr i0 w0 0 0, 3, [.agg [.int .i64 (IntKind.i64.wrap (a0.Now + 1)), m101, m102]]⟩ :: F)) (fun K31 hK31 => ?_) (fun s H hq => ?_)
        · refine w_seq fun K32 hK32 => ?_
          refine w_draw0 gC (by kernel_rfl) ?_
          try simp only [W, EE, Nat.reduceAdd, Nat.reduceBEq, hS.var 0 rfl]
          refine w_grdT h (fun hc h => ?_) (fun hc h => ?_)
          · try simp only [W, EE, reduceIte, Nat.reduceAdd, Nat.reduceBEq, hS.var 3 rfl, hS.var 0 rfl, hc]
            refine seq_n hK32 ?_
            refine w_kill ?_
            exact cut_n hK31 ⟨_, (Option.some.inj h).symm, rfl, (hS.sel 4 [1, 2, 3] (by decide))⟩
          · try simp only [W, hc]
            refine seq_n hK32 ?_
            refine w_kill ?_
            exact cut_n hK31 ⟨_, (Option.some.inj h).symm, rfl, (hS.sel 4 [1, 2, 3] (by decide))⟩
        · obtain ⟨x28, ey, rfl, hS⟩ := hq; obtain rfl := ey.symm
          replace h := g30
          try dsimp only at h
          refine seq_n hK27 ?_
          obtain ⟨y34, h, g35⟩ := Option.bind_eq_some_iff.1 h
          refine w_join gC (fun s H => ∃ x33 : List Case, y34 = (x33) ∧ s = [.ptr i0 w0 0 0, u, u, u, u, u, u, u, u, u, u, u, u, u, m101, .int .i64 (a0.Cases.length : Int), .int .i64 x4, u, u, u, u, u, u, u, u, u, u, u, u, u, u, u, u, u, u, u, u, u, u, u, u] ∧ Own H (⟨m101, 4, x33.map e_Case⟩ :: ⟨m102, 3, a0.Line.map e_Slip⟩ :: ⟨.ptr i0 w0 0 0, 3, [.agg [.int .i64 (IntKind.i64.wrap (a0.Now + 1)), m101, m102]]⟩ :: F)) (fun K36 hK36 => ?_) (fun s H hq => ?_)
          · refine w_seq fun K37 hK37 => ?_
            refine w_if ?_
            simp only [W]
            refine w_cnd h (fun hc h => ?_) (fun hc h => ?_)
            · refine w_reg gC ?_
              try simp only [W, EE, Nat.reduceAdd, Nat.reduceBEq, hS.var 2 rfl]
              refine w_ow 0 hS rfl rfl rfl rfl rfl h (fun b38 in39 wn39 on39 hb38 h en39 => ?_) qm101.ne
              obtain ⟨kn39, hbn39, hen39⟩ := hS.elem 0 rfl en39 hb38
              try simp only [W, EE, Nat.reduceAdd, Nat.reduceBEq, hbn39]
              refine w_ste (a := .int .i64 2) (y' := (⟨b38.End, b38.Asks, b38.Final, 2⟩ : Case)) 0 hS rfl en39 hb38 rfl rfl rfl rfl rfl rfl rfl fun H hS => ?_
              try simp only [W]
              refine seq_n hK37 ?_
              refine w_kill ?_
              exact cut_n hK36 ⟨_, (Option.some.inj h).symm, rfl, hS⟩
            · refine w_skip ?_
              refine seq_n hK37 ?_
              refine w_kill ?_
              exact cut_n hK36 ⟨_, (Option.some.inj h).symm, rfl, hS⟩
          · obtain ⟨x33, ey, rfl, hS⟩ := hq; obtain rfl := ey.symm
            replace h := g35
            try dsimp only at h
            refine blk_n hK17 ?_
            exact cut_n hK21 ⟨_, (Option.some.inj h).symm, rfl, hS⟩
      · obtain ⟨x18, ey, rfl, hS⟩ := hq; obtain rfl := ey.symm
        replace h := g20
        try dsimp only at h
        refine seq_n hK16 ?_
        refine w_reg gC ?_
        try simp only [W, EE, Nat.reduceAdd]
        exact lp_n hK10 h ⟨rfl, hS⟩
    · refine w_exit ?_
      refine seq_x hK15 ?_
      try obtain rfl := Option.some.inj h
      obtain rfl := hd11 _ rfl
      have h : (some (x3) : Option ((List Case))) = some (x3) := rfl
      refine lp_x hK10 ?_
      refine blk_e hK9 ?_
      exact cut_n hK8 ⟨_, (Option.some.inj h).symm, rfl, hS⟩
  · obtain ⟨x5, ey, rfl, hS⟩ := hq; obtain rfl := ey.symm
    replace h := g13
    try dsimp only at h
    refine fin_n0 hK0 ?_
    try obtain rfl := Option.some.inj h
    exact hP _ qm101 _ qm102 _ (hS.sel 3 [2, 0, 1] (by decide))
theorem impl_Court_step_w {a0 : Court} {a1 : CourtStep} {i0 : Nat} {w0 : Nat} {m101 : AV} {m102 : AV} {r : (Bool × Court)} (h : impl_Court_step a0 a1 = some r) {F : List It} {H : Heap} (hS : Own H (⟨.ptr i0 w0 0 0, 3, [.agg [.int .i64 a0.Now, m101, m102]]⟩ :: ⟨m101, 4, a0.Cases.map e_Case⟩ :: ⟨m102, 3, a0.Line.map e_Slip⟩ :: F)) (qm101 : isSl m101) (qm102 : isSl m102) {P : AV → Heap → Prop} (hP : ∀ nm101 : AV, isSl nm101 → ∀ nm102 : AV, isSl nm102 → ∀ H', Own H' (⟨.ptr i0 w0 0 0, 3, [.agg [.int .i64 r.2.Now, nm101, nm102]]⟩ :: ⟨nm101, 4, r.2.Cases.map e_Case⟩ :: ⟨nm102, 3, r.2.Line.map e_Slip⟩ :: F) → P (.bool r.1) H') : ACall C 143 [.ptr i0 w0 0 0, .agg [.int .i64 a1.Kind, .int .i64 a1.K]] H P := by
  refine acall_of gC (res := [.tmp 4]) (n := 155) rfl rfl rfl rfl fun K0 hK0 => ?_
  simp only [W, Nat.reduceSub, Nat.reduceAdd, List.replicate]
  unfold impl_Court_step at h
  refine w_seq fun K1 hK1 => ?_
  refine w_reg gC ?_
  try simp only [W, Nat.reduceAdd]
  refine w_box hS rfl rfl rfl rfl fun ip2 wp2 H hS => ?_
  try simp only [W]
  refine seq_n hK1 ?_
  refine w_seq fun K4 hK4 => ?_
  refine w_seq fun K5 hK5 => ?_
  refine w_reg gC ?_
  try simp only [W, EE, Nat.reduceAdd, Nat.reduceBEq, hS.var 0 rfl]
  refine seq_n hK5 ?_
  obtain ⟨y7, h, g8⟩ := Option.bind_eq_some_iff.1 h
  refine w_join gC (fun s H => y7 = LR.next () ∧ s = (.ptr i0 w0 0 0 :: u :: u :: .ptr ip2 wp2 0 0 :: u :: u :: u :: u :: u :: u :: u :: u :: u :: u :: u :: u :: u :: u :: u :: u :: u :: u :: u :: u :: u :: u :: u :: u :: u :: u :: u :: u :: u :: u :: u :: u :: u :: u :: u :: u :: u :: u :: u :: u :: u :: u :: u :: u :: u :: u :: u :: u :: u :: u :: u :: u :: u :: u :: u :: u :: u :: u :: u :: u :: u :: u :: u :: u :: u :: u :: u :: u :: u :: u :: u :: u :: u :: u :: u :: u :: u :: u :: u :: u :: u :: u :: u :: u :: u :: u :: u :: u :: u :: u :: u :: u :: u :: u :: u :: u :: u :: u :: u :: u :: u :: u :: u :: u :: u :: u :: u :: u :: u :: u :: u :: u :: u :: u :: u :: u :: u :: u :: u :: u :: u :: u :: u :: u :: u :: u :: u :: u :: u :: u :: u :: u :: u :: u :: u :: u :: u :: u :: u :: u :: u :: u :: u :: u :: u :: u :: u :: u :: u :: u :: u :: []) ∧ Own H (⟨m101, 4, a0.Cases.map e_Case⟩ :: ⟨m102, 3, a0.Line.map e_Slip⟩ :: ⟨.ptr i0 w0 0 0, 3, [.agg [.int .i64 a0.Now, m101, m102]]⟩ :: ⟨.ptr ip2 wp2 0 0, 2, [.agg [.int .i64 a1.Kind, .int .i64 a1.K]]⟩ :: F)) (fun K9 hK9 => ?_) (fun s H hq => ?_)
  · refine w_blk fun K6 hK6 => ?_
    refine w_seq fun K10 hK10 => ?_
    refine w_seq fun K11 hK11 => ?_
    refine w_reg gC ?_
    try simp only [W, EE, Nat.reduceAdd]
    refine seq_n hK11 ?_
    obtain ⟨y13, h, g14⟩ := Option.bind_eq_some_iff.1 h
    refine w_join gC (fun s H => ∃ x12 : Bool, y13 = (x12) ∧ s = (.ptr i0 w0 0 0 :: u :: u :: .ptr ip2 wp2 0 0 :: u :: u :: u :: u :: .int .i64 a1.Kind :: .bool x12 :: u :: u :: u :: u :: u :: u :: u :: u :: u :: u :: u :: u :: u :: u :: u :: u :: u :: u :: u :: u :: u :: u :: u :: u :: u :: u :: u :: u :: u :: u :: u :: u :: u :: u :: u :: u :: u :: u :: u :: u :: u :: u :: u :: u :: u :: u :: u :: u :: u :: u :: u :: u :: u :: u :: u :: u :: u :: u :: u :: u :: u :: u :: u :: u :: u :: u :: u :: u :: u :: u :: u :: u :: u :: u :: u :: u :: u :: u :: u :: u :: u :: u :: u :: u :: u :: u :: u :: u :: u :: u :: u :: u :: u :: u :: u :: u :: u :: u :: u :: u :: u :: u :: u :: u :: u :: u :: u :: u :: u :: u :: u :: u :: u :: u :: u :: u :: u :: u :: u :: u :: u :: u :: u :: u :: u :: u :: u :: u :: u :: u :: u :: u :: u :: u :: u :: u :: u :: u :: u :: u :: u :: u :: u :: u :: u :: []) ∧ Own H (⟨m101, 4, a0.Cases.map e_Case⟩ :: ⟨m102, 3, a0.Line.map e_Slip⟩ :: ⟨.ptr i0 w0 0 0, 3, [.agg [.int .i64 a0.Now, m101, m102]]⟩ :: ⟨.ptr ip2 wp2 0 0, 2, [.agg [.int .i64 a1.Kind, .int .i64 a1.K]]⟩ :: F)) (fun K15 hK15 => ?_) (fun s H hq => ?_)
    · refine w_seq fun K16 hK16 => ?_
      refine w_if ?_
      simp only [W]
      refine w_cnd h (fun hc h => ?_) (fun hc h => ?_)
      · refine w_skip ?_
        refine seq_n hK16 ?_
        refine w_killE (s' := (.ptr i0 w0 0 0 :: u :: u :: .ptr ip2 wp2 0 0 :: u :: u :: u :: u :: .int .i64 a1.Kind :: .bool (a1.Kind == 1) :: u :: u :: u :: u :: u :: u :: u :: u :: u :: u :: u :: u :: u :: u :: u :: u :: u :: u :: u :: u :: u :: u :: u :: u :: u :: u :: u :: u :: u :: u :: u :: u :: u :: u :: u :: u :: u :: u :: u :: u :: u :: u :: u :: u :: u :: u :: u :: u :: u :: u :: u :: u :: u :: u :: u :: u :: u :: u :: u :: u :: u :: u :: u :: u :: u :: u :: u :: u :: u :: u :: u :: u :: u :: u :: u :: u :: u :: u :: u :: u :: u :: u :: u :: u :: u :: u :: u :: u :: u :: u :: u :: u :: u :: u :: u :: u :: u :: u :: u :: u :: u :: u :: u :: u :: u :: u :: u :: u :: u :: u :: u :: u :: u :: u :: u :: u :: u :: u :: u :: u :: u :: u :: u :: u :: u :: u :: u :: u :: u :: u :: u :: u :: u :: u :: u :: u :: u :: u :: u :: u :: u :: u :: u :: u :: u :: [])) rfl ?_
        exact cut_n hK15 ⟨_, (Option.some.inj h).symm, rfl, (hS.sel 4 [2, 3, 1, 0] (by decide))⟩
      · refine w_reg gC ?_
        try simp only [W, EE, Nat.reduceAdd]
        refine seq_n hK16 ?_
        refine w_killE (s' := (.ptr i0 w0 0 0 :: u :: u :: .ptr ip2 wp2 0 0 :: u :: u :: u :: u :: .int .i64 a1.Kind :: .bool (a1.Kind == 2) :: u :: u :: u :: u :: u :: u :: u :: u :: u :: u :: u :: u :: u :: u :: u :: u :: u :: u :: u :: u :: u :: u :: u :: u :: u :: u :: u :: u :: u :: u :: u :: u :: u :: u :: u :: u :: u :: u :: u :: u :: u :: u :: u :: u :: u :: u :: u :: u :: u :: u :: u :: u :: u :: u :: u :: u :: u :: u :: u :: u :: u :: u :: u :: u :: u :: u :: u :: u :: u :: u :: u :: u :: u :: u :: u :: u :: u :: u :: u :: u :: u :: u :: u :: u :: u :: u :: u :: u :: u :: u :: u :: u :: u :: u :: u :: u :: u :: u :: u :: u :: u :: u :: u :: u :: u :: u :: u :: u :: u :: u :: u :: u :: u :: u :: u :: u :: u :: u :: u :: u :: u :: u :: u :: u :: u :: u :: u :: u :: u :: u :: u :: u :: u :: u :: u :: u :: u :: u :: u :: u :: u :: u :: u :: u :: u :: [])) rfl ?_
        exact cut_n hK15 ⟨_, (Option.some.inj h).symm, rfl, (hS.sel 4 [2, 3, 1, 0] (by decide))⟩
    · obtain ⟨x12, ey, rfl, hS⟩ := hq; obtain rfl := ey.symm
      replace h := g14
      try dsimp only at h
      refine seq_n hK10 ?_
      obtain ⟨y17, h, g18⟩ := Option.bind_eq_some_iff.1 h
      refine w_join gC (fun s H => y17 = LR.next () ∧ s = (.ptr i0 w0 0 0 :: u :: u :: .ptr ip2 wp2 0 0 :: u :: u :: u :: u :: .int .i64 a1.Kind :: .bool x12 :: u :: u :: u :: u :: u :: u :: u :: u :: u :: u :: u :: u :: u :: u :: u :: u :: u :: u :: u :: u :: u :: u :: u :: u :: u :: u :: u :: u :: u :: u :: u :: u :: u :: u :: u :: u :: u :: u :: u :: u :: u :: u :: u :: u :: u :: u :: u :: u :: u :: u :: u :: u :: u :: u :: u :: u :: u :: u :: u :: u :: u :: u :: u :: u :: u :: u :: u :: u :: u :: u :: u :: u :: u :: u :: u :: u :: u :: u :: u :: u :: u :: u :: u :: u :: u :: u :: u :: u :: u :: u :: u :: u :: u :: u :: u :: u :: u :: u :: u :: u :: u :: u :: u :: u :: u :: u :: u :: u :: u :: u :: u :: u :: u :: u :: u :: u :: u :: u :: u :: u :: u :: u :: u :: u :: u :: u :: u :: u :: u :: u :: u :: u :: u :: u :: u :: u :: u :: u :: u :: u :: u :: u :: u :: u :: u :: []) ∧ Own H (⟨m101, 4, a0.Cases.map e_Case⟩ :: ⟨m102, 3, a0.Line.map e_Slip⟩ :: ⟨.ptr i0 w0 0 0, 3, [.agg [.int .i64 a0.Now, m101, m102]]⟩ :: ⟨.ptr ip2 wp2 0 0, 2, [.agg [.int .i64 a1.Kind, .int .i64 a1.K]]⟩ :: F)) (fun K19 hK19 => ?_) (fun s H hq => ?_)
      · refine w_seq fun K20 hK20 => ?_
        refine w_if ?_
        simp only [W]
        refine w_cnd h (fun hc h => ?_) (fun hc h => ?_)
        · refine w_seq fun K21 hK21 => ?_
          obtain ⟨y23, h, g24⟩ := Option.bind_eq_some_iff.1 h
          refine w_join gC (fun s H => ∃ x22 : Bool, y23 = (x22) ∧ s = (.ptr i0 w0 0 0 :: u :: u :: .ptr ip2 wp2 0 0 :: u :: u :: u :: u :: .int .i64 a1.Kind :: .bool x12 :: u :: u :: u :: u :: u :: u :: u :: u :: u :: u :: u :: u :: u :: u :: u :: u :: u :: u :: u :: u :: u :: u :: u :: .bool x22 :: u :: u :: u :: u :: u :: u :: u :: u :: u :: u :: u :: u :: u :: u :: u :: u :: u :: u :: u :: u :: u :: u :: u :: u :: u :: u :: u :: u :: u :: u :: u :: u :: u :: u :: u :: u :: u :: u :: u :: u :: u :: u :: u :: u :: u :: u :: u :: u :: u :: u :: u :: u :: u :: u :: u :: u :: u :: u :: u :: u :: u :: u :: u :: u :: u :: u :: u :: u :: u :: u :: u :: u :: u :: u :: u :: u :: u :: u :: u :: u :: u :: u :: u :: u :: u :: u :: u :: u :: u :: u :: u :: u :: u :: u :: u :: u :: u :: u :: u :: u :: u :: u :: u :: u :: u :: u :: u :: u :: u :: u :: u :: u :: u :: u :: u :: u :: u :: u :: u :: u :: u :: []) ∧ Own H (⟨m101, 4, a0.Cases.map e_Case⟩ :: ⟨m102, 3, a0.Line.map e_Slip⟩ :: ⟨.ptr i0 w0 0 0, 3, [.agg [.int .i64 a0.Now, m101, m102]]⟩ :: ⟨.ptr ip2 wp2 0 0, 2, [.agg [.int .i64 a1.Kind, .int .i64 a1.K]]⟩ :: F)) (fun K25 hK25 => ?_) (fun s H hq => ?_)
          · refine w_seq fun K26 hK26 => ?_
            refine w_draw0 gC (by kernel_rfl) ?_
            try simp only [W, EE, Nat.reduceAdd, Nat.reduceBEq, hS.var 2 rfl, hS.var 3 rfl]
            refine w_len 0 hS rfl qm101 rfl ?_
            try simp only [W, EE]
            refine w_callS (rsh := [[.sc]]) (ys := [.int .i64 a1.K, .int .i64 0, .int .i64 (IntKind.i64.wrap ((a0.Cases.length : Int) - 1))]) h rfl (by rfl) fun b27 hb27 h => ⟨.bool b27, impl_in_w hb27 (Own.nil _) fun H hS => TV_ok rfl (TV_p rfl (TV_n rfl)), ⟨rfl, rfl, fun _ => rfl⟩, ?_⟩
            try simp only [W]
            refine w_grdT h (fun hc h => ?_) (fun hc h => ?_)
            · try simp only [W, hc]
              refine seq_n hK26 ?_
              refine w_killE (s' := (.ptr i0 w0 0 0 :: u :: u :: .ptr ip2 wp2 0 0 :: u :: u :: u :: u :: .int .i64 a1.Kind :: .bool x12 :: u :: u :: u :: u :: u :: u :: u :: u :: u :: u :: u :: u :: u :: u :: u :: u :: u :: u :: u :: u :: u :: u :: u :: .bool true :: u :: u :: u :: u :: u :: u :: u :: u :: u :: u :: u :: u :: u :: u :: u :: u :: u :: u :: u :: u :: u :: u :: u :: u :: u :: u :: u :: u :: u :: u :: u :: u :: u :: u :: u :: u :: u :: u :: u :: u :: u :: u :: u :: u :: u :: u :: u :: u :: u :: u :: u :: u :: u :: u :: u :: u :: u :: u :: u :: u :: u :: u :: u :: u :: u :: u :: u :: u :: u :: u :: u :: u :: u :: u :: u :: u :: u :: u :: u :: u :: u :: u :: u :: u :: u :: u :: u :: u :: u :: u :: u :: u :: u :: u :: u :: u :: u :: u :: u :: u :: u :: u :: u :: u :: u :: u :: u :: u :: u :: u :: u :: u :: u :: u :: u :: u :: u :: u :: u :: u :: u :: [])) rfl ?_
              exact cut_n hK25 ⟨_, (Option.some.inj h).symm, rfl, hS⟩
            · try simp only [W, EE, Nat.reduceAdd, Nat.reduceBEq, hS.var 2 rfl, hS.var 3 rfl, hc]
              refine w_ow 0 hS rfl rfl rfl rfl rfl h (fun b28 in29 wn29 on29 hb28 h en29 => ?_) qm101.ne
              obtain ⟨kn29, hbn29, hen29⟩ := hS.elem 0 rfl en29 hb28
              try simp only [W, EE, EN, reduceIte, Nat.reduceAdd, Nat.reduceBEq, Bool.false_eq_true, hbn29, hen29]
              refine seq_n hK26 ?_
              refine w_killE (s' := (.ptr i0 w0 0 0 :: u :: u :: .ptr ip2 wp2 0 0 :: u :: u :: u :: u :: .int .i64 a1.Kind :: .bool x12 :: u :: u :: u :: u :: u :: u :: u :: u :: u :: u :: u :: u :: u :: u :: u :: u :: u :: u :: u :: u :: u :: u :: u :: .bool (b28.Final != 0) :: u :: u :: u :: u :: u :: u :: u :: u :: u :: u :: u :: u :: u :: u :: u :: u :: u :: u :: u :: u :: u :: u :: u :: u :: u :: u :: u :: u :: u :: u :: u :: u :: u :: u :: u :: u :: u :: u :: u :: u :: u :: u :: u :: u :: u :: u :: u :: u :: u :: u :: u :: u :: u :: u :: u :: u :: u :: u :: u :: u :: u :: u :: u :: u :: u :: u :: u :: u :: u :: u :: u :: u :: u :: u :: u :: u :: u :: u :: u :: u :: u :: u :: u :: u :: u :: u :: u :: u :: u :: u :: u :: u :: u :: u :: u :: u :: u :: u :: u :: u :: u :: u :: u :: u :: u :: u :: u :: u :: u :: u :: u :: u :: u :: u :: u :: u :: u :: u :: u :: u :: u :: [])) rfl ?_
              exact cut_n hK25 ⟨_, (Option.some.inj h).symm, rfl, hS⟩
          · obtain ⟨x22, ey, rfl, hS⟩ := hq; obtain rfl := ey.symm
            replace h := g24
            try dsimp only at h
            refine seq_n hK21 ?_
            refine w_if ?_
            simp only [W]
            refine w_cnd h (fun hc h => ?_) (fun hc h => ?_)
            · refine w_seq fun K30 hK30 => ?_
              refine w_reg gC ?_
              try simp only [W, Nat.reduceAdd]
              refine seq_n hK30 ?_
              refine w_ret ?_
              refine seq_r hK20 ?_
              try obtain rfl := Option.some.inj h
              obtain rfl := Option.some.inj g18
              have h : (some (LR.done (false, a0)) : Option (LR Unit (Bool × Court))) = some (LR.done (false, a0)) := rfl
              refine cut_r hK19 ?_
              refine blk_r hK6 ?_
              try obtain rfl := Option.some.inj h
              obtain rfl := Option.some.inj g8
              have h : (some (false, a0) : Option (Bool × Court)) = some (false, a0) := rfl
              refine cut_r hK9 ?_
              refine seq_r hK4 ?_
              refine fin_r1 hK0 rfl ?_
              try obtain rfl := Option.some.inj h
              exact hP _ qm101 _ qm102 _ (hS.sel 4 [2, 0, 1] (by decide))
            · refine w_skip ?_
              refine seq_n hK20 ?_
              refine w_killE (s' := (.ptr i0 w0 0 0 :: u :: u :: .ptr ip2 wp2 0 0 :: u :: u :: u :: u :: .int .i64 a1.Kind :: .bool x12 :: u :: u :: u :: u :: u :: u :: u :: u :: u :: u :: u :: u :: u :: u :: u :: u :: u :: u :: u :: u :: u :: u :: u :: u :: u :: u :: u :: u :: u :: u :: u :: u :: u :: u :: u :: u :: u :: u :: u :: u :: u :: u :: u :: u :: u :: u :: u :: u :: u :: u :: u :: u :: u :: u :: u :: u :: u :: u :: u :: u :: u :: u :: u :: u :: u :: u :: u :: u :: u :: u :: u :: u :: u :: u :: u :: u :: u :: u :: u :: u :: u :: u :: u :: u :: u :: u :: u :: u :: u :: u :: u :: u :: u :: u :: u :: u :: u :: u :: u :: u :: u :: u :: u :: u :: u :: u :: u :: u :: u :: u :: u :: u :: u :: u :: u :: u :: u :: u :: u :: u :: u :: u :: u :: u :: u :: u :: u :: u :: u :: u :: u :: u :: u :: u :: u :: u :: u :: u :: u :: u :: u :: u :: u :: u :: u :: [])) rfl ?_
              exact cut_n hK19 ⟨(Option.some.inj h).symm, rfl, hS⟩
        · refine w_seq fun K35 hK35 => ?_
          refine w_seq fun K36 hK36 => ?_
          refine w_reg gC ?_
          try simp only [W, EE, Nat.reduceAdd]
          refine seq_n hK36 ?_
          obtain ⟨y38, h, g39⟩ := Option.bind_eq_some_iff.1 h
          refine w_join gC (fun s H => ∃ x37 : Bool, y38 = (x37) ∧ s = (.ptr i0 w0 0 0 :: u :: u :: .ptr ip2 wp2 0 0 :: u :: u :: u :: u :: .int .i64 a1.Kind :: .bool x12 :: u :: u :: u :: u :: u :: u :: u :: u :: u :: u :: u :: u :: u :: u :: u :: u :: u :: u :: u :: u :: u :: u :: u :: u :: .bool x37 :: u :: u :: u :: u :: u :: u :: u :: u :: u :: u :: u :: u :: u :: u :: u :: u :: u :: u :: u :: u :: u :: u :: u :: u :: u :: u :: u :: u :: u :: u :: u :: u :: u :: u :: u :: u :: u :: u :: u :: u :: u :: u :: u :: u :: u :: u :: u :: u :: u :: u :: u :: u :: u :: u :: u :: u :: u :: u :: u :: u :: u :: u :: u :: u :: u :: u :: u :: u :: u :: u :: u :: u :: u :: u :: u :: u :: u :: u :: u :: u :: u :: u :: u :: u :: u :: u :: u :: u :: u :: u :: u :: u :: u :: u :: u :: u :: u :: u :: u :: u :: u :: u :: u :: u :: u :: u :: u :: u :: u :: u :: u :: u :: u :: u :: u :: u :: u :: u :: u :: u :: []) ∧ Own H (⟨m101, 4, a0.Cases.map e_Case⟩ :: ⟨m102, 3, a0.Line.map e_Slip⟩ :: ⟨.ptr i0 w0 0 0, 3, [.agg [.int .i64 a0.Now, m101, m102]]⟩ :: ⟨.ptr ip2 wp2 0 0, 2, [.agg [.int .i64 a1.Kind, .int .i64 a1.K]]⟩ :: F)) (fun K40 hK40 => ?_) (fun s H hq => ?_)
          · refine w_seq fun K41 hK41 => ?_
            refine w_if ?_
            simp only [W]
            refine w_cnd h (fun hc h => ?_) (fun hc h => ?_)
            · refine w_skip ?_
              refine seq_n hK41 ?_
              refine w_killE (s' := (.ptr i0 w0 0 0 :: u :: u :: .ptr ip2 wp2 0 0 :: u :: u :: u :: u :: .int .i64 a1.Kind :: .bool x12 :: u :: u :: u :: u :: u :: u :: u :: u :: u :: u :: u :: u :: u :: u :: u :: u :: u :: u :: u :: u :: u :: u :: u :: u :: .bool (a1.Kind == 3) :: u :: u :: u :: u :: u :: u :: u :: u :: u :: u :: u :: u :: u :: u :: u :: u :: u :: u :: u :: u :: u :: u :: u :: u :: u :: u :: u :: u :: u :: u :: u :: u :: u :: u :: u :: u :: u :: u :: u :: u :: u :: u :: u :: u :: u :: u :: u :: u :: u :: u :: u :: u :: u :: u :: u :: u :: u :: u :: u :: u :: u :: u :: u :: u :: u :: u :: u :: u :: u :: u :: u :: u :: u :: u :: u :: u :: u :: u :: u :: u :: u :: u :: u :: u :: u :: u :: u :: u :: u :: u :: u :: u :: u :: u :: u :: u :: u :: u :: u :: u :: u :: u :: u :: u :: u :: u :: u :: u :: u :: u :: u :: u :: u :: u :: u :: u :: u :: u :: u :: u :: [])) rfl ?_
              exact cut_n hK40 ⟨_, (Option.some.inj h).symm, rfl, hS⟩
            · refine w_seq fun K42 hK42 => ?_
              refine w_reg gC ?_
              try simp only [W, EE, Nat.reduceAdd]
              refine seq_n hK42 ?_
              obtain ⟨y44, h, g45⟩ := Option.bind_eq_some_iff.1 h
              refine w_join gC (fun s H => ∃ x43 : Bool, y44 = (x43) ∧ s = (.ptr i0 w0 0 0 :: u :: u :: .ptr ip2 wp2 0 0 :: u :: u :: u :: u :: .int .i64 a1.Kind :: .bool x12 :: u :: u :: u :: u :: u :: u :: u :: u :: u :: u :: u :: u :: u :: u :: u :: u :: u :: u :: u :: u :: u :: u :: u :: u :: .bool x43 :: u :: u :: u :: u :: u :: u :: u :: u :: u :: u :: u :: u :: u :: u :: u :: u :: u :: u :: u :: u :: u :: u :: u :: u :: u :: u :: u :: u :: u :: u :: u :: u :: u :: u :: u :: u :: u :: u :: u :: u :: u :: u :: u :: u :: u :: u :: u :: u :: u :: u :: u :: u :: u :: u :: u :: u :: u :: u :: u :: u :: u :: u :: u :: u :: u :: u :: u :: u :: u :: u :: u :: u :: u :: u :: u :: u :: u :: u :: u :: u :: u :: u :: u :: u :: u :: u :: u :: u :: u :: u :: u :: u :: u :: u :: u :: u :: u :: u :: u :: u :: u :: u :: u :: u :: u :: u :: u :: u :: u :: u :: u :: u :: u :: u :: u :: u :: u :: u :: u :: u :: []) ∧ Own H (⟨m101, 4, a0.Cases.map e_Case⟩ :: ⟨m102, 3, a0.Line.map e_Slip⟩ :: ⟨.ptr i0 w0 0 0, 3, [.agg [.int .i64 a0.Now, m101, m102]]⟩ :: ⟨.ptr ip2 wp2 0 0, 2, [.agg [.int .i64 a1.Kind, .int .i64 a1.K]]⟩ :: F)) (fun K46 hK46 => ?_) (fun s H hq => ?_)
              · refine w_seq fun K47 hK47 => ?_
                refine w_if ?_
                simp only [W]
                refine w_cnd h (fun hc h => ?_) (fun hc h => ?_)
                · refine w_skip ?_
                  refine seq_n hK47 ?_
                  refine w_killE (s' := (.ptr i0 w0 0 0 :: u :: u :: .ptr ip2 wp2 0 0 :: u :: u :: u :: u :: .int .i64 a1.Kind :: .bool x12 :: u :: u :: u :: u :: u :: u :: u :: u :: u :: u :: u :: u :: u :: u :: u :: u :: u :: u :: u :: u :: u :: u :: u :: u :: .bool (a1.Kind == 4) :: u :: u :: u :: u :: u :: u :: u :: u :: u :: u :: u :: u :: u :: u :: u :: u :: u :: u :: u :: u :: u :: u :: u :: u :: u :: u :: u :: u :: u :: u :: u :: u :: u :: u :: u :: u :: u :: u :: u :: u :: u :: u :: u :: u :: u :: u :: u :: u :: u :: u :: u :: u :: u :: u :: u :: u :: u :: u :: u :: u :: u :: u :: u :: u :: u :: u :: u :: u :: u :: u :: u :: u :: u :: u :: u :: u :: u :: u :: u :: u :: u :: u :: u :: u :: u :: u :: u :: u :: u :: u :: u :: u :: u :: u :: u :: u :: u :: u :: u :: u :: u :: u :: u :: u :: u :: u :: u :: u :: u :: u :: u :: u :: u :: u :: u :: u :: u :: u :: u :: u :: [])) rfl ?_
                  exact cut_n hK46 ⟨_, (Option.some.inj h).symm, rfl, hS⟩
                · refine w_reg gC ?_
                  try simp only [W, EE, Nat.reduceAdd]
                  refine seq_n hK47 ?_
                  refine w_killE (s' := (.ptr i0 w0 0 0 :: u :: u :: .ptr ip2 wp2 0 0 :: u :: u :: u :: u :: .int .i64 a1.Kind :: .bool x12 :: u :: u :: u :: u :: u :: u :: u :: u :: u :: u :: u :: u :: u :: u :: u :: u :: u :: u :: u :: u :: u :: u :: u :: u :: .bool (a1.Kind == 5) :: u :: u :: u :: u :: u :: u :: u :: u :: u :: u :: u :: u :: u :: u :: u :: u :: u :: u :: u :: u :: u :: u :: u :: u :: u :: u :: u :: u :: u :: u :: u :: u :: u :: u :: u :: u :: u :: u :: u :: u :: u :: u :: u :: u :: u :: u :: u :: u :: u :: u :: u :: u :: u :: u :: u :: u :: u :: u :: u :: u :: u :: u :: u :: u :: u :: u :: u :: u :: u :: u :: u :: u :: u :: u :: u :: u :: u :: u :: u :: u :: u :: u :: u :: u :: u :: u :: u :: u :: u :: u :: u :: u :: u :: u :: u :: u :: u :: u :: u :: u :: u :: u :: u :: u :: u :: u :: u :: u :: u :: u :: u :: u :: u :: u :: u :: u :: u :: u :: u :: u :: [])) rfl ?_
                  exact cut_n hK46 ⟨_, (Option.some.inj h).symm, rfl, hS⟩
              · obtain ⟨x43, ey, rfl, hS⟩ := hq; obtain rfl := ey.symm
                replace h := g45
                try dsimp only at h
                refine seq_n hK41 ?_
                refine w_killE (s' := (.ptr i0 w0 0 0 :: u :: u :: .ptr ip2 wp2 0 0 :: u :: u :: u :: u :: .int .i64 a1.Kind :: .bool x12 :: u :: u :: u :: u :: u :: u :: u :: u :: u :: u :: u :: u :: u :: u :: u :: u :: u :: u :: u :: u :: u :: u :: u :: u :: .bool x43 :: u :: u :: u :: u :: u :: u :: u :: u :: u :: u :: u :: u :: u :: u :: u :: u :: u :: u :: u :: u :: u :: u :: u :: u :: u :: u :: u :: u :: u :: u :: u :: u :: u :: u :: u :: u :: u :: u :: u :: u :: u :: u :: u :: u :: u :: u :: u :: u :: u :: u :: u :: u :: u :: u :: u :: u :: u :: u :: u :: u :: u :: u :: u :: u :: u :: u :: u :: u :: u :: u :: u :: u :: u :: u :: u :: u :: u :: u :: u :: u :: u :: u :: u :: u :: u :: u :: u :: u :: u :: u :: u :: u :: u :: u :: u :: u :: u :: u :: u :: u :: u :: u :: u :: u :: u :: u :: u :: u :: u :: u :: u :: u :: u :: u :: u :: u :: u :: u :: u :: u :: [])) rfl ?_
                exact cut_n hK40 ⟨_, (Option.some.inj h).symm, rfl, hS⟩
          · obtain ⟨x37, ey, rfl, hS⟩ := hq; obtain rfl := ey.symm
            replace h := g39
            try dsimp only at h
            refine seq_n hK35 ?_
            obtain ⟨y48, h, g49⟩ := Option.bind_eq_some_iff.1 h
            refine w_join gC (fun s H => y48 = LR.next () ∧ s = (.ptr i0 w0 0 0 :: u :: u :: .ptr ip2 wp2 0 0 :: u :: u :: u :: u :: .int .i64 a1.Kind :: .bool x12 :: u :: u :: u :: u :: u :: u :: u :: u :: u :: u :: u :: u :: u :: u :: u :: u :: u :: u :: u :: u :: u :: u :: u :: u :: .bool x37 :: u :: u :: u :: u :: u :: u :: u :: u :: u :: u :: u :: u :: u :: u :: u :: u :: u :: u :: u :: u :: u :: u :: u :: u :: u :: u :: u :: u :: u :: u :: u :: u :: u :: u :: u :: u :: u :: u :: u :: u :: u :: u :: u :: u :: u :: u :: u :: u :: u :: u :: u :: u :: u :: u :: u :: u :: u :: u :: u :: u :: u :: u :: u :: u :: u :: u :: u :: u :: u :: u :: u :: u :: u :: u :: u :: u :: u :: u :: u :: u :: u :: u :: u :: u :: u :: u :: u :: u :: u :: u :: u :: u :: u :: u :: u :: u :: u :: u :: u :: u :: u :: u :: u :: u :: u :: u :: u :: u :: u :: u :: u :: u :: u :: u :: u :: u :: u :: u :: u :: u :: []) ∧ Own H (⟨m101, 4, a0.Cases.map e_Case⟩ :: ⟨m102, 3, a0.Line.map e_Slip⟩ :: ⟨.ptr i0 w0 0 0, 3, [.agg [.int .i64 a0.Now, m101, m102]]⟩ :: ⟨.ptr ip2 wp2 0 0, 2, [.agg [.int .i64 a1.Kind, .int .i64 a1.K]]⟩ :: F)) (fun K50 hK50 => ?_) (fun s H hq => ?_)
            · refine w_seq fun K51 hK51 => ?_
              refine w_if ?_
              simp only [W]
              refine w_cnd h (fun hc h => ?_) (fun hc h => ?_)
              · refine w_seq fun K52 hK52 => ?_
                refine w_draw0 gC (by kernel_rfl) ?_
                try simp only [W, EE, Nat.reduceAdd, Nat.reduceBEq, hS.var 2 rfl, hS.var 3 rfl]
                refine w_len 1 hS rfl qm102 rfl ?_
                try simp only [W, EE]
                refine w_callS (rsh := [[.sc]]) (ys := [.int .i64 a1.K, .int .i64 0, .int .i64 (IntKind.i64.wrap ((a0.Line.length : Int) - 1))]) h rfl (by rfl) fun b53 hb53 h => ⟨.bool b53, impl_in_w hb53 (Own.nil _) fun H hS => TV_ok rfl (TV_p rfl (TV_n rfl)), ⟨rfl, rfl, fun _ => rfl⟩, ?_⟩
                try simp only [W]
                refine seq_n hK52 ?_
                refine w_if ?_
                simp only [W]
                refine w_cnd h (fun hc h => ?_) (fun hc h => ?_)
                · refine w_seq fun K54 hK54 => ?_
                  refine w_reg gC ?_
                  try simp only [W, Nat.reduceAdd]
                  refine seq_n hK54 ?_
                  refine w_ret ?_
                  refine seq_r hK51 ?_
                  try obtain rfl := Option.some.inj h
                  obtain rfl := Option.some.inj g49
                  have h : (some (LR.done (LR.done (false, a0))) : Option (LR Unit (LR Unit (Bool × Court)))) = some (LR.done (LR.done (false, a0))) := rfl
                  refine cut_r hK50 ?_
                  refine seq_r hK20 ?_
                  try obtain rfl := Option.some.inj h
                  obtain rfl := Option.some.inj g18
                  have h : (some (LR.done (false, a0)) : Option (LR Unit (Bool × Court))) = some (LR.done (false, a0)) := rfl
                  refine cut_r hK19 ?_
                  refine blk_r hK6 ?_
                  try obtain rfl := Option.some.inj h
                  obtain rfl := Option.some.inj g8
                  have h : (some (false, a0) : Option (Bool × Court)) = some (false, a0) := rfl
                  refine cut_r hK9 ?_
                  refine seq_r hK4 ?_
                  refine fin_r1 hK0 rfl ?_
                  try obtain rfl := Option.some.inj h
                  exact hP _ qm101 _ qm102 _ (hS.sel 4 [2, 0, 1] (by decide))
                · refine w_skip ?_
                  refine seq_n hK51 ?_
                  refine w_killE (s' := (.ptr i0 w0 0 0 :: u :: u :: .ptr ip2 wp2 0 0 :: u :: u :: u :: u :: .int .i64 a1.Kind :: .bool x12 :: u :: u :: u :: u :: u :: u :: u :: u :: u :: u :: u :: u :: u :: u :: u :: u :: u :: u :: u :: u :: u :: u :: u :: u :: .bool x37 :: u :: u :: u :: u :: u :: u :: u :: u :: u :: u :: u :: u :: u :: u :: u :: u :: u :: u :: u :: u :: u :: u :: u :: u :: u :: u :: u :: u :: u :: u :: u :: u :: u :: u :: u :: u :: u :: u :: u :: u :: u :: u :: u :: u :: u :: u :: u :: u :: u :: u :: u :: u :: u :: u :: u :: u :: u :: u :: u :: u :: u :: u :: u :: u :: u :: u :: u :: u :: u :: u :: u :: u :: u :: u :: u :: u :: u :: u :: u :: u :: u :: u :: u :: u :: u :: u :: u :: u :: u :: u :: u :: u :: u :: u :: u :: u :: u :: u :: u :: u :: u :: u :: u :: u :: u :: u :: u :: u :: u :: u :: u :: u :: u :: u :: u :: u :: u :: u :: u :: u :: [])) rfl ?_
                  exact cut_n hK50 ⟨(Option.some.inj h).symm, rfl, hS⟩
              · refine w_skip ?_
                refine seq_n hK51 ?_
                refine w_killE (s' := (.ptr i0 w0 0 0 :: u :: u :: .ptr ip2 wp2 0 0 :: u :: u :: u :: u :: .int .i64 a1.Kind :: .bool x12 :: u :: u :: u :: u :: u :: u :: u :: u :: u :: u :: u :: u :: u :: u :: u :: u :: u :: u :: u :: u :: u :: u :: u :: u :: .bool x37 :: u :: u :: u :: u :: u :: u :: u :: u :: u :: u :: u :: u :: u :: u :: u :: u :: u :: u :: u :: u :: u :: u :: u :: u :: u :: u :: u :: u :: u :: u :: u :: u :: u :: u :: u :: u :: u :: u :: u :: u :: u :: u :: u :: u :: u :: u :: u :: u :: u :: u :: u :: u :: u :: u :: u :: u :: u :: u :: u :: u :: u :: u :: u :: u :: u :: u :: u :: u :: u :: u :: u :: u :: u :: u :: u :: u :: u :: u :: u :: u :: u :: u :: u :: u :: u :: u :: u :: u :: u :: u :: u :: u :: u :: u :: u :: u :: u :: u :: u :: u :: u :: u :: u :: u :: u :: u :: u :: u :: u :: u :: u :: u :: u :: u :: u :: u :: u :: u :: u :: u :: [])) rfl ?_
                exact cut_n hK50 ⟨(Option.some.inj h).symm, rfl, hS⟩
            · obtain ⟨rfl, rfl, hS⟩ := hq
              replace h := g49
              try dsimp only at h
              refine seq_n hK20 ?_
              refine w_killE (s' := (.ptr i0 w0 0 0 :: u :: u :: .ptr ip2 wp2 0 0 :: u :: u :: u :: u :: .int .i64 a1.Kind :: .bool x12 :: u :: u :: u :: u :: u :: u :: u :: u :: u :: u :: u :: u :: u :: u :: u :: u :: u :: u :: u :: u :: u :: u :: u :: u :: u :: u :: u :: u :: u :: u :: u :: u :: u :: u :: u :: u :: u :: u :: u :: u :: u :: u :: u :: u :: u :: u :: u :: u :: u :: u :: u :: u :: u :: u :: u :: u :: u :: u :: u :: u :: u :: u :: u :: u :: u :: u :: u :: u :: u :: u :: u :: u :: u :: u :: u :: u :: u :: u :: u :: u :: u :: u :: u :: u :: u :: u :: u :: u :: u :: u :: u :: u :: u :: u :: u :: u :: u :: u :: u :: u :: u :: u :: u :: u :: u :: u :: u :: u :: u :: u :: u :: u :: u :: u :: u :: u :: u :: u :: u :: u :: u :: u :: u :: u :: u :: u :: u :: u :: u :: u :: u :: u :: u :: u :: u :: u :: u :: u :: u :: u :: u :: u :: u :: u :: u :: [])) rfl ?_
              exact cut_n hK19 ⟨(Option.some.inj h).symm, rfl, hS⟩
      · obtain ⟨rfl, rfl, hS⟩ := hq
        replace h := g18
        try dsimp only at h
        refine blk_n hK6 ?_
        exact cut_n hK9 ⟨(Option.some.inj h).symm, rfl, hS⟩
  · obtain ⟨rfl, rfl, hS⟩ := hq
    replace h := g8
    try dsimp only at h
    refine seq_n hK4 ?_
    refine w_seq fun K61 hK61 => ?_
    refine w_seq fun K62 hK62 => ?_
    refine w_reg gC ?_
    try simp only [W, EE, Nat.reduceAdd, Nat.reduceBEq, hS.var 3 rfl]
    refine seq_n hK62 ?_
    obtain ⟨y69, h, g70⟩ := Option.bind_eq_some_iff.1 h
    refine w_join gC (fun s H => ∃ x64 : Int, ∃ x65 : List Case, ∃ x67 : List Slip, y69 = LR.next (x64, x65, x67) ∧ ∃ v66 : AV, isSl v66 ∧ ∃ v68 : AV, isSl v68 ∧ s = (u :: u :: u :: u :: u :: u :: u :: u :: u :: u :: u :: u :: u :: u :: u :: u :: u :: u :: u :: u :: u :: u :: u :: u :: u :: u :: u :: u :: u :: u :: u :: u :: u :: u :: u :: u :: u :: u :: u :: u :: u :: u :: u :: u :: u :: u :: u :: u :: u :: u :: u :: u :: u :: u :: u :: u :: u :: u :: u :: u :: u :: u :: u :: u :: u :: u :: u :: u :: u :: u :: u :: u :: u :: u :: u :: u :: u :: u :: u :: u :: u :: u :: u :: u :: u :: u :: u :: u :: u :: u :: u :: u :: u :: u :: u :: u :: u :: u :: u :: u :: u :: u :: u :: u :: u :: u :: u :: u :: u :: u :: u :: u :: u :: u :: u :: u :: u :: u :: u :: u :: u :: u :: u :: u :: u :: u :: u :: u :: u :: u :: u :: u :: u :: u :: u :: u :: u :: u :: u :: u :: u :: u :: u :: u :: u :: u :: u :: u :: u :: u :: u :: u :: u :: u :: u :: []) ∧ Own H (⟨v66, 4, x65.map e_Case⟩ :: ⟨v68, 3, x67.map e_Slip⟩ :: ⟨.ptr i0 w0 0 0, 3, [.agg [.int .i64 x64, v66, v68]]⟩ :: F)) (fun K71 hK71 => ?_) (fun s H hq => ?_)
    · refine w_blk fun K63 hK63 => ?_
      refine w_seq fun K72 hK72 => ?_
      refine w_reg gC ?_
      try simp only [W, EE, Nat.reduceAdd]
      refine seq_n hK72 ?_
      obtain ⟨y79, h, g80⟩ := Option.bind_eq_some_iff.1 h
      refine w_join gC (fun s H => ∃ x73 : Int, ∃ x74 : List Case, ∃ x76 : List Slip, y79 = LR.next (x73, x74, x76) ∧ ∃ v75 : AV, isSl v75 ∧ ∃ v77 : AV, isSl v77 ∧ s = (u :: u :: u :: u :: u :: u :: u :: u :: u :: u :: u :: u :: u :: u :: u :: u :: u :: u :: u :: u :: u :: u :: u :: u :: u :: u :: u :: u :: u :: u :: u :: u :: u :: u :: u :: u :: u :: u :: u :: u :: u :: u :: u :: u :: u :: u :: u :: u :: u :: u :: u :: u :: u :: u :: u :: u :: u :: u :: u :: u :: u :: u :: u :: u :: u :: u :: u :: u :: u :: u :: u :: u :: u :: u :: u :: u :: u :: u :: u :: u :: u :: u :: u :: u :: u :: u :: u :: u :: u :: u :: u :: u :: u :: u :: u :: u :: u :: u :: u :: u :: u :: u :: u :: u :: u :: u :: u :: u :: u :: u :: u :: u :: u :: u :: u :: u :: u :: u :: u :: u :: u :: u :: u :: u :: u :: u :: u :: u :: u :: u :: u :: u :: u :: u :: u :: u :: u :: u :: u :: u :: u :: u :: u :: u :: u :: u :: u :: u :: u :: u :: u :: u :: u :: u :: u :: []) ∧ Own H (⟨v75, 4, x74.map e_Case⟩ :: ⟨v77, 3, x76.map e_Slip⟩ :: ⟨.ptr i0 w0 0 0, 3, [.agg [.int .i64 x73, v75, v77]]⟩ :: F)) (fun K81 hK81 => ?_) (fun s H hq => ?_)
      · refine w_seq fun K82 hK82 => ?_
        refine w_if ?_
        simp only [W]
        refine w_cnd h (fun hc h => ?_) (fun hc h => ?_)
        · refine w_seq fun K83 hK83 => ?_
          refine w_reg gC ?_
          try simp only [W, Nat.reduceAdd]
          refine seq_n hK83 ?_
          refine w_seq fun K84 hK84 => ?_
          refine w_seq fun K85 hK85 => ?_
          refine w_draw0 gC (by kernel_rfl) ?_
          try simp only [W, EE, Nat.reduceAdd, Nat.reduceBEq, hS.var 2 rfl, hS.var 3 rfl]
          refine w_ow 0 hS rfl rfl rfl rfl rfl h (fun b86 in87 wn87 on87 hb86 h en87 => ?_) qm101.ne
          obtain ⟨kn87, hbn87, hen87⟩ := hS.elem 0 rfl en87 hb86
          try simp only [W, EE, EN, Nat.reduceAdd, Nat.reduceBEq, hbn87, hen87]
          refine seq_n hK85 ?_
          obtain ⟨y89, h, g90⟩ := Option.bind_eq_some_iff.1 h
          refine w_join gC (fun s H => ∃ x88 : Int, y89 = (x88) ∧ s = (.ptr i0 w0 0 0 :: u :: u :: .ptr ip2 wp2 0 0 :: u :: .int .i64 x88 :: u :: u :: u :: u :: u :: u :: u :: u :: u :: u :: u :: u :: u :: u :: u :: u :: u :: u :: u :: u :: u :: u :: u :: u :: u :: u :: u :: u :: u :: u :: u :: u :: u :: u :: u :: u :: u :: u :: u :: u :: u :: u :: u :: u :: u :: u :: u :: u :: u :: u :: u :: u :: u :: u :: u :: u :: u :: u :: u :: u :: u :: u :: u :: u :: u :: u :: u :: u :: u :: u :: u :: u :: u :: u :: u :: u :: u :: u :: u :: u :: u :: u :: u :: u :: u :: u :: u :: u :: u :: u :: u :: u :: u :: u :: u :: u :: u :: u :: u :: u :: u :: u :: u :: u :: u :: u :: u :: u :: u :: u :: u :: u :: u :: u :: u :: u :: u :: u :: u :: u :: u :: u :: u :: u :: u :: u :: u :: u :: u :: u :: u :: u :: u :: u :: u :: u :: u :: u :: u :: u :: u :: u :: u :: u :: u :: u :: u :: u :: u :: []) ∧ Own H (⟨m101, 4, a0.Cases.map e_Case⟩ :: ⟨m102, 3, a0.Line.map e_Slip⟩ :: ⟨.ptr i0 w0 0 0, 3, [.agg [.int .i64 a0.Now, m101, m102]]⟩ :: ⟨.ptr ip2 wp2 0 0, 2, [.agg [.int .i64 a1.Kind, .int .i64 a1.K]]⟩ :: F)) (fun K91 hK91 => ?_) (fun s H hq => ?_)
          · refine w_seq fun K92 hK92 => ?_
            refine w_if ?_
            simp only [W]
            refine w_cnd h (fun hc h => ?_) (fun hc h => ?_)
            · refine w_reg gC ?_
              try simp only [W, Nat.reduceAdd]
              refine seq_n hK92 ?_
              refine w_killE (s' := (.ptr i0 w0 0 0 :: u :: u :: .ptr ip2 wp2 0 0 :: u :: .int .i64 2 :: u :: u :: u :: u :: u :: u :: u :: u :: u :: u :: u :: u :: u :: u :: u :: u :: u :: u :: u :: u :: u :: u :: u :: u :: u :: u :: u :: u :: u :: u :: u :: u :: u :: u :: u :: u :: u :: u :: u :: u :: u :: u :: u :: u :: u :: u :: u :: u :: u :: u :: u :: u :: u :: u :: u :: u :: u :: u :: u :: u :: u :: u :: u :: u :: u :: u :: u :: u :: u :: u :: u :: u :: u :: u :: u :: u :: u :: u :: u :: u :: u :: u :: u :: u :: u :: u :: u :: u :: u :: u :: u :: u :: u :: u :: u :: u :: u :: u :: u :: u :: u :: u :: u :: u :: u :: u :: u :: u :: u :: u :: u :: u :: u :: u :: u :: u :: u :: u :: u :: u :: u :: u :: u :: u :: u :: u :: u :: u :: u :: u :: u :: u :: u :: u :: u :: u :: u :: u :: u :: u :: u :: u :: u :: u :: u :: u :: u :: u :: u :: [])) rfl ?_
              exact cut_n hK91 ⟨_, (Option.some.inj h).symm, rfl, hS⟩
            · refine w_skip ?_
              refine seq_n hK92 ?_
              refine w_killE (s' := (.ptr i0 w0 0 0 :: u :: u :: .ptr ip2 wp2 0 0 :: u :: .int .i64 1 :: u :: u :: u :: u :: u :: u :: u :: u :: u :: u :: u :: u :: u :: u :: u :: u :: u :: u :: u :: u :: u :: u :: u :: u :: u :: u :: u :: u :: u :: u :: u :: u :: u :: u :: u :: u :: u :: u :: u :: u :: u :: u :: u :: u :: u :: u :: u :: u :: u :: u :: u :: u :: u :: u :: u :: u :: u :: u :: u :: u :: u :: u :: u :: u :: u :: u :: u :: u :: u :: u :: u :: u :: u :: u :: u :: u :: u :: u :: u :: u :: u :: u :: u :: u :: u :: u :: u :: u :: u :: u :: u :: u :: u :: u :: u :: u :: u :: u :: u :: u :: u :: u :: u :: u :: u :: u :: u :: u :: u :: u :: u :: u :: u :: u :: u :: u :: u :: u :: u :: u :: u :: u :: u :: u :: u :: u :: u :: u :: u :: u :: u :: u :: u :: u :: u :: u :: u :: u :: u :: u :: u :: u :: u :: u :: u :: u :: u :: u :: u :: [])) rfl ?_
              exact cut_n hK91 ⟨_, (Option.some.inj h).symm, rfl, hS⟩
          · obtain ⟨x88, ey, rfl, hS⟩ := hq; obtain rfl := ey.symm
            replace h := g90
            try dsimp only at h
            refine seq_n hK84 ?_
            refine w_reg gC ?_
            try simp only [W, EE, Nat.reduceAdd, Nat.reduceBEq, hS.var 3 rfl]
            refine w_bld rfl rfl rfl rfl rfl ?_
            try simp only [W]
            refine w_call h fun b93 hb93 h => ?_
            refine impl_Court_goes_w hb93 (hS.sel 4 [2, 0, 1, 3] (by decide)) qm101 qm102 fun v94 qv94 v95 qv95 H hS => ?_
            try simp only [W]
            refine seq_n hK82 ?_
            refine w_killE (s' := (u :: u :: u :: u :: u :: u :: u :: u :: u :: u :: u :: u :: u :: u :: u :: u :: u :: u :: u :: u :: u :: u :: u :: u :: u :: u :: u :: u :: u :: u :: u :: u :: u :: u :: u :: u :: u :: u :: u :: u :: u :: u :: u :: u :: u :: u :: u :: u :: u :: u :: u :: u :: u :: u :: u :: u :: u :: u :: u :: u :: u :: u :: u :: u :: u :: u :: u :: u :: u :: u :: u :: u :: u :: u :: u :: u :: u :: u :: u :: u :: u :: u :: u :: u :: u :: u :: u :: u :: u :: u :: u :: u :: u :: u :: u :: u :: u :: u :: u :: u :: u :: u :: u :: u :: u :: u :: u :: u :: u :: u :: u :: u :: u :: u :: u :: u :: u :: u :: u :: u :: u :: u :: u :: u :: u :: u :: u :: u :: u :: u :: u :: u :: u :: u :: u :: u :: u :: u :: u :: u :: u :: u :: u :: u :: u :: u :: u :: u :: u :: u :: u :: u :: u :: u :: u :: [])) rfl ?_
            exact cut_n hK81 ⟨_, _, _, (Option.some.inj h).symm, _, qv94, _, qv95, rfl, (hS.sel 4 [1, 2, 0] (by decide))⟩
        · refine w_seq fun K96 hK96 => ?_
          refine w_reg gC ?_
          try simp only [W, EE, Nat.reduceAdd]
          refine seq_n hK96 ?_
          obtain ⟨y103, h, g104⟩ := Option.bind_eq_some_iff.1 h
          refine w_join gC (fun s H => ∃ x97 : Int, ∃ x98 : List Case, ∃ x100 : List Slip, y103 = LR.next (x97, x98, x100) ∧ ∃ v99 : AV, isSl v99 ∧ ∃ v101 : AV, isSl v101 ∧ s = (u :: u :: u :: u :: u :: u :: u :: u :: u :: u :: u :: u :: u :: u :: u :: u :: u :: u :: u :: u :: u :: u :: u :: u :: u :: u :: u :: u :: u :: u :: u :: u :: u :: u :: u :: u :: u :: u :: u :: u :: u :: u :: u :: u :: u :: u :: u :: u :: u :: u :: u :: u :: u :: u :: u :: u :: u :: u :: u :: u :: u :: u :: u :: u :: u :: u :: u :: u :: u :: u :: u :: u :: u :: u :: u :: u :: u :: u :: u :: u :: u :: u :: u :: u :: u :: u :: u :: u :: u :: u :: u :: u :: u :: u :: u :: u :: u :: u :: u :: u :: u :: u :: u :: u :: u :: u :: u :: u :: u :: u :: u :: u :: u :: u :: u :: u :: u :: u :: u :: u :: u :: u :: u :: u :: u :: u :: u :: u :: u :: u :: u :: u :: u :: u :: u :: u :: u :: u :: u :: u :: u :: u :: u :: u :: u :: u :: u :: u :: u :: u :: u :: u :: u :: u :: u :: []) ∧ Own H (⟨v99, 4, x98.map e_Case⟩ :: ⟨v101, 3, x100.map e_Slip⟩ :: ⟨.ptr i0 w0 0 0, 3, [.agg [.int .i64 x97, v99, v101]]⟩ :: F)) (fun K105 hK105 => ?_) (fun s H hq => ?_)
          · refine w_seq fun K106 hK106 => ?_
            refine w_if ?_
            simp only [W]
            refine w_cnd h (fun hc h => ?_) (fun hc h => ?_)
            · refine w_seq fun K107 hK107 => ?_
              refine w_seq fun K108 hK108 => ?_
              refine w_draw0 gC (by kernel_rfl) ?_
              try simp only [W, EE, Nat.reduceAdd, Nat.reduceBEq, hS.var 2 rfl, hS.var 3 rfl]
              refine w_ow 0 hS rfl rfl rfl rfl rfl h (fun b109 in110 wn110 on110 hb109 h en110 => ?_) qm101.ne
              obtain ⟨kn110, hbn110, hen110⟩ := hS.elem 0 rfl en110 hb109
              try simp only [W, EE, EN, Nat.reduceAdd, Nat.reduceBEq, hbn110, hen110]
              refine seq_n hK108 ?_
              refine w_if ?_
              simp only [W]
              refine w_cnd h (fun hc h => ?_) (fun hc h => ?_)
              · refine w_seq fun K111 hK111 => ?_
                refine w_reg gC ?_
                try simp only [W, Nat.reduceAdd]
                refine seq_n hK111 ?_
                refine w_ret ?_
                refine seq_r hK107 ?_
                refine seq_r hK106 ?_
                try obtain rfl := Option.some.inj h
                obtain rfl := Option.some.inj g104
                have h : (some (LR.done (LR.done (false, a0))) : Option (LR (Int × (List Case) × (List Slip)) (LR (Int × (List Case) × (List Slip)) (Bool × Court)))) = some (LR.done (LR.done (false, a0))) := rfl
                refine cut_r hK105 ?_
                refine seq_r hK82 ?_
                try obtain rfl := Option.some.inj h
                obtain rfl := Option.some.inj g80
                have h : (some (LR.done (false, a0)) : Option (LR (Int × (List Case) × (List Slip)) (Bool × Court))) = some (LR.done (false, a0)) := rfl
                refine cut_r hK81 ?_
                refine blk_r hK63 ?_
                try obtain rfl := Option.some.inj h
                obtain rfl := Option.some.inj g70
                have h : (some (false, a0) : Option (Bool × Court)) = some (false, a0) := rfl
                refine cut_r hK71 ?_
                refine seq_r hK61 ?_
                refine fin_r1 hK0 rfl ?_
                try obtain rfl := Option.some.inj h
                exact hP _ qm101 _ qm102 _ (hS.sel 4 [2, 0, 1] (by decide))
              · refine w_skip ?_
                refine seq_n hK107 ?_
                refine w_drawL gC [(8, [])] (by kernel_rfl) rfl (by kernel_rfl) ?_
                try simp only [W, EE, reduceIte, Nat.reduceAdd, Nat.reduceBEq, hS.var 2 rfl, hS.var 3 rfl, tabAt, qAt, Nat.reduceEqDiff]
                refine w_ow 0 hS rfl rfl rfl rfl rfl h (fun b118 in119 wn119 on119 hb118 h en119 => ?_) qm101.ne
                obtain ⟨kn119, hbn119, hen119⟩ := hS.elem 0 rfl en119 hb118
                try simp only [W, EE, Nat.reduceAdd, Nat.reduceBEq, hbn119]
                refine w_ste (a := .bool true) (y' := (⟨b118.End, true, b118.Final, b118.Said⟩ : Case)) 0 hS rfl en119 hb118 rfl rfl rfl rfl rfl rfl rfl fun H hS => ?_
                try simp only [W]
                refine seq_n hK106 ?_
                refine w_killE (s' := (u :: u :: u :: u :: u :: u :: u :: u :: u :: u :: u :: u :: u :: u :: u :: u :: u :: u :: u :: u :: u :: u :: u :: u :: u :: u :: u :: u :: u :: u :: u :: u :: u :: u :: u :: u :: u :: u :: u :: u :: u :: u :: u :: u :: u :: u :: u :: u :: u :: u :: u :: u :: u :: u :: u :: u :: u :: u :: u :: u :: u :: u :: u :: u :: u :: u :: u :: u :: u :: u :: u :: u :: u :: u :: u :: u :: u :: u :: u :: u :: u :: u :: u :: u :: u :: u :: u :: u :: u :: u :: u :: u :: u :: u :: u :: u :: u :: u :: u :: u :: u :: u :: u :: u :: u :: u :: u :: u :: u :: u :: u :: u :: u :: u :: u :: u :: u :: u :: u :: u :: u :: u :: u :: u :: u :: u :: u :: u :: u :: u :: u :: u :: u :: u :: u :: u :: u :: u :: u :: u :: u :: u :: u :: u :: u :: u :: u :: u :: u :: u :: u :: u :: u :: u :: u :: [])) rfl ?_
                exact cut_n hK105 ⟨_, _, _, (Option.some.inj h).symm, _, qm101, _, qm102, rfl, (hS.sel 4 [0, 1, 2] (by decide))⟩
            · refine w_seq fun K120 hK120 => ?_
              refine w_seq fun K121 hK121 => ?_
              refine w_reg gC ?_
              try simp only [W, EE, Nat.reduceAdd]
              refine seq_n hK121 ?_
              obtain ⟨y123, h, g124⟩ := Option.bind_eq_some_iff.1 h
              refine w_join gC (fun s H => ∃ x122 : Bool, y123 = (x122) ∧ s = (.ptr i0 w0 0 0 :: u :: u :: .ptr ip2 wp2 0 0 :: u :: u :: u :: u :: u :: u :: u :: u :: u :: u :: u :: u :: u :: u :: u :: u :: u :: u :: u :: u :: u :: u :: u :: u :: u :: u :: u :: u :: u :: u :: u :: u :: u :: u :: u :: u :: u :: u :: u :: u :: u :: u :: u :: u :: u :: .int .i64 a1.Kind :: u :: u :: u :: u :: u :: u :: u :: u :: u :: u :: u :: u :: u :: u :: u :: u :: u :: u :: u :: u :: u :: u :: u :: u :: u :: u :: u :: u :: u :: u :: u :: u :: u :: u :: u :: u :: .bool x122 :: u :: u :: u :: u :: u :: u :: u :: u :: u :: u :: u :: u :: u :: u :: u :: u :: u :: u :: u :: u :: u :: u :: u :: u :: u :: u :: u :: u :: u :: u :: u :: u :: u :: u :: u :: u :: u :: u :: u :: u :: u :: u :: u :: u :: u :: u :: u :: u :: u :: u :: u :: u :: u :: u :: u :: u :: u :: u :: u :: u :: u :: u :: u :: u :: u :: u :: u :: u :: []) ∧ Own H (⟨m101, 4, a0.Cases.map e_Case⟩ :: ⟨m102, 3, a0.Line.map e_Slip⟩ :: ⟨.ptr i0 w0 0 0, 3, [.agg [.int .i64 a0.Now, m101, m102]]⟩ :: ⟨.ptr ip2 wp2 0 0, 2, [.agg [.int .i64 a1.Kind, .int .i64 a1.K]]⟩ :: F)) (fun K125 hK125 => ?_) (fun s H hq => ?_)
              · refine w_seq fun K126 hK126 => ?_
                refine w_if ?_
                simp only [W]
                refine w_cnd h (fun hc h => ?_) (fun hc h => ?_)
                · refine w_skip ?_
                  refine seq_n hK126 ?_
                  refine w_killE (s' := (.ptr i0 w0 0 0 :: u :: u :: .ptr ip2 wp2 0 0 :: u :: u :: u :: u :: u :: u :: u :: u :: u :: u :: u :: u :: u :: u :: u :: u :: u :: u :: u :: u :: u :: u :: u :: u :: u :: u :: u :: u :: u :: u :: u :: u :: u :: u :: u :: u :: u :: u :: u :: u :: u :: u :: u :: u :: u :: .int .i64 a1.Kind :: u :: u :: u :: u :: u :: u :: u :: u :: u :: u :: u :: u :: u :: u :: u :: u :: u :: u :: u :: u :: u :: u :: u :: u :: u :: u :: u :: u :: u :: u :: u :: u :: u :: u :: u :: u :: .bool (a1.Kind == 3) :: u :: u :: u :: u :: u :: u :: u :: u :: u :: u :: u :: u :: u :: u :: u :: u :: u :: u :: u :: u :: u :: u :: u :: u :: u :: u :: u :: u :: u :: u :: u :: u :: u :: u :: u :: u :: u :: u :: u :: u :: u :: u :: u :: u :: u :: u :: u :: u :: u :: u :: u :: u :: u :: u :: u :: u :: u :: u :: u :: u :: u :: u :: u :: u :: u :: u :: u :: u :: [])) rfl ?_
                  exact cut_n hK125 ⟨_, (Option.some.inj h).symm, rfl, hS⟩
                · refine w_reg gC ?_
                  try simp only [W, EE, Nat.reduceAdd]
                  refine seq_n hK126 ?_
                  refine w_killE (s' := (.ptr i0 w0 0 0 :: u :: u :: .ptr ip2 wp2 0 0 :: u :: u :: u :: u :: u :: u :: u :: u :: u :: u :: u :: u :: u :: u :: u :: u :: u :: u :: u :: u :: u :: u :: u :: u :: u :: u :: u :: u :: u :: u :: u :: u :: u :: u :: u :: u :: u :: u :: u :: u :: u :: u :: u :: u :: u :: .int .i64 a1.Kind :: u :: u :: u :: u :: u :: u :: u :: u :: u :: u :: u :: u :: u :: u :: u :: u :: u :: u :: u :: u :: u :: u :: u :: u :: u :: u :: u :: u :: u :: u :: u :: u :: u :: u :: u :: u :: .bool (a1.Kind == 4) :: u :: u :: u :: u :: u :: u :: u :: u :: u :: u :: u :: u :: u :: u :: u :: u :: u :: u :: u :: u :: u :: u :: u :: u :: u :: u :: u :: u :: u :: u :: u :: u :: u :: u :: u :: u :: u :: u :: u :: u :: u :: u :: u :: u :: u :: u :: u :: u :: u :: u :: u :: u :: u :: u :: u :: u :: u :: u :: u :: u :: u :: u :: u :: u :: u :: u :: u :: u :: [])) rfl ?_
                  exact cut_n hK125 ⟨_, (Option.some.inj h).symm, rfl, hS⟩
              · obtain ⟨x122, ey, rfl, hS⟩ := hq; obtain rfl := ey.symm
                replace h := g124
                try dsimp only at h
                refine seq_n hK120 ?_
                obtain ⟨y133, h, g134⟩ := Option.bind_eq_some_iff.1 h
                refine w_join gC (fun s H => ∃ x127 : Int, ∃ x128 : List Case, ∃ x130 : List Slip, y133 = LR.next (x127, x128, x130) ∧ ∃ v129 : AV, isSl v129 ∧ ∃ v131 : AV, isSl v131 ∧ s = (.ptr i0 w0 0 0 :: u :: u :: .ptr ip2 wp2 0 0 :: u :: u :: u :: u :: u :: u :: u :: u :: u :: u :: u :: u :: u :: u :: u :: u :: u :: u :: u :: u :: u :: u :: u :: u :: u :: u :: u :: u :: u :: u :: u :: u :: u :: u :: u :: u :: u :: u :: u :: u :: u :: u :: u :: u :: u :: .int .i64 a1.Kind :: u :: u :: u :: u :: u :: u :: u :: u :: u :: u :: u :: u :: u :: u :: u :: u :: u :: u :: u :: u :: u :: u :: u :: u :: u :: u :: u :: u :: u :: u :: u :: u :: u :: u :: u :: u :: .bool x122 :: u :: u :: u :: u :: u :: u :: u :: u :: u :: u :: u :: u :: u :: u :: u :: u :: u :: u :: u :: u :: u :: u :: u :: u :: u :: u :: u :: u :: u :: u :: u :: u :: u :: u :: u :: u :: u :: u :: u :: u :: u :: u :: u :: u :: u :: u :: u :: u :: u :: u :: u :: u :: u :: u :: u :: u :: u :: u :: u :: u :: u :: u :: u :: u :: u :: u :: u :: u :: []) ∧ Own H (⟨v129, 4, x128.map e_Case⟩ :: ⟨v131, 3, x130.map e_Slip⟩ :: ⟨.ptr i0 w0 0 0, 3, [.agg [.int .i64 x127, v129, v131]]⟩ :: ⟨.ptr ip2 wp2 0 0, 2, [.agg [.int .i64 a1.Kind, .int .i64 a1.K]]⟩ :: F)) (fun K135 hK135 => ?_) (fun s H hq => ?_)
                · refine w_seq fun K136 hK136 => ?_
                  refine w_if ?_
                  simp only [W]
                  refine w_cnd h (fun hc h => ?_) (fun hc h => ?_)
                  · refine w_seq fun K137 hK137 => ?_
                    refine w_drawL gC [(9, [])] (by kernel_rfl) rfl (by kernel_rfl) ?_
                    try simp only [W, EE, reduceIte, Nat.reduceAdd, Nat.reduceBEq, hS.var 2 rfl, hS.var 3 rfl, tabAt, qAt, Nat.reduceEqDiff]
                    refine w_ow 1 hS rfl rfl rfl rfl rfl h (fun b138 in139 wn139 on139 hb138 h en139 => ?_) qm102.ne
                    obtain ⟨kn139, hbn139, hen139⟩ := hS.elem 1 rfl en139 hb138
                    try simp only [W, EE, EN, reduceIte, Nat.reduceAdd, Nat.reduceLeDiff, hbn139, hen139]
                    refine w_alloc hS rfl rfl fun ip140 wp140 H hS => ?_
                    try simp only [W]
                    refine w_stv (a := .agg [.int .i64 b138.Kind, .int .i64 b138.Case, .int .i64 b138.What]) (y' := .agg [.int .i64 b138.Kind, .int .i64 b138.Case, .int .i64 b138.What]) 0 hS rfl rfl rfl rfl rfl rfl rfl rfl fun H hS => ?_
                    try simp only [W]
                    refine seq_n hK137 ?_
                    refine w_seq fun K142 hK142 => ?_
                    refine w_drawL gC [(10, [0]), (13, [])] (by kernel_rfl) rfl (by kernel_rfl) ?_
                    try simp only [W, EE, reduceIte, Nat.reduceAdd, Nat.reduceBEq, hS.var 3 rfl, hS.var 4 rfl, tabAt, qAt, Nat.reduceEqDiff]
                    refine w_call h fun b143 hb143 h => ?_
                    refine slices_Delete_impl_Slip_w hb143 (hS.sel 5 [2, 0, 1, 3, 4] (by decide)) qm102 fun v144 qv144 H hS => ?_
                    refine goK_late ?_
                    refine lateG_s (by first | rfl | (simp [evalOp, W, EE, EN, rdAt, mkT, subL, AV.cells, hS.var 1 rfl, hS.var 3 rfl, hS.var 4 rfl]; done)) ?_
                    refine lateG_n ?_
                    try simp only [W, EE, Nat.reduceAdd, Nat.reduceBEq, hS.var 3 rfl]
                    refine w_stv (a := v144) (y' := .agg [.int .i64 a0.Now, m101, v144]) 3 hS rfl rfl rfl rfl (by rw [qv144.cells]; rfl) qv144.stora (qv144.wr _ _ (by simp)) rfl fun H hS => ?_
                    try simp only [W]
                    refine seq_n hK142 ?_
                    refine w_seq fun K146 hK146 => ?_
                    refine w_reg gC ?_
                    try simp only [W, EE, Nat.reduceAdd, Nat.reduceBEq, hS.var 4 rfl]
                    refine seq_n hK146 ?_
                    obtain ⟨y152, h, g153⟩ := Option.bind_eq_some_iff.1 h
                    refine w_join gC (fun s H => ∃ x147 : Int, ∃ x148 : List Case, ∃ x150 : List Slip, y152 = (x147, x148, x150) ∧ ∃ v149 : AV, isSl v149 ∧ ∃ v151 : AV, isSl v151 ∧ s = (.ptr i0 w0 0 0 :: u :: u :: .ptr ip2 wp2 0 0 :: u :: u :: u :: u :: u :: u :: u :: u :: u :: u :: u :: u :: u :: u :: u :: u :: u :: u :: u :: u :: u :: u :: u :: u :: u :: u :: u :: u :: u :: u :: u :: u :: u :: u :: u :: u :: u :: u :: u :: u :: u :: u :: u :: u :: u :: .int .i64 a1.Kind :: u :: u :: u :: u :: u :: u :: u :: u :: u :: u :: u :: u :: u :: u :: u :: u :: u :: u :: u :: u :: u :: u :: u :: u :: u :: u :: u :: u :: u :: u :: u :: u :: u :: u :: u :: u :: .bool x122 :: u :: u :: u :: u :: u :: u :: u :: u :: u :: u :: u :: u :: u :: u :: u :: u :: u :: u :: u :: u :: u :: u :: u :: u :: u :: u :: u :: u :: u :: u :: u :: u :: u :: u :: u :: u :: u :: u :: u :: u :: u :: u :: u :: u :: u :: u :: u :: u :: u :: u :: u :: u :: u :: u :: u :: u :: u :: u :: u :: u :: u :: u :: u :: u :: u :: u :: u :: u :: []) ∧ Own H (⟨v149, 4, x148.map e_Case⟩ :: ⟨v151, 3, x150.map e_Slip⟩ :: ⟨.ptr i0 w0 0 0, 3, [.agg [.int .i64 x147, v149, v151]]⟩ :: ⟨.ptr ip2 wp2 0 0, 2, [.agg [.int .i64 a1.Kind, .int .i64 a1.K]]⟩ :: F)) (fun K154 hK154 => ?_) (fun s H hq => ?_)
                    · refine w_seq fun K155 hK155 => ?_
                      refine w_if ?_
                      simp only [W]
                      refine w_cnd h (fun hc h => ?_) (fun hc h => ?_)
                      · refine w_reg gC ?_
                        try simp only [W, EE, reduceIte, Nat.reduceAdd, Nat.reduceLeDiff, hS.var 1 rfl]
                        refine w_call h fun b156 hb156 h => ?_
                        refine impl_Court_take_w hb156 (hS.sel 5 [3, 2, 0, 1, 4] (by decide)) qm101 qv144 fun v157 qv157 v158 qv158 H hS => ?_
                        try simp only [W]
                        refine seq_n hK155 ?_
                        refine w_killE (s' := (.ptr i0 w0 0 0 :: u :: u :: .ptr ip2 wp2 0 0 :: u :: u :: u :: u :: u :: u :: u :: u :: u :: u :: u :: u :: u :: u :: u :: u :: u :: u :: u :: u :: u :: u :: u :: u :: u :: u :: u :: u :: u :: u :: u :: u :: u :: u :: u :: u :: u :: u :: u :: u :: u :: u :: u :: u :: u :: .int .i64 a1.Kind :: u :: u :: u :: u :: u :: u :: u :: u :: u :: u :: u :: u :: u :: u :: u :: u :: u :: u :: u :: u :: u :: u :: u :: u :: u :: u :: u :: u :: u :: u :: u :: u :: u :: u :: u :: u :: .bool x122 :: u :: u :: u :: u :: u :: u :: u :: u :: u :: u :: u :: u :: u :: u :: u :: u :: u :: u :: u :: u :: u :: u :: u :: u :: u :: u :: u :: u :: u :: u :: u :: u :: u :: u :: u :: u :: u :: u :: u :: u :: u :: u :: u :: u :: u :: u :: u :: u :: u :: u :: u :: u :: u :: u :: u :: u :: u :: u :: u :: u :: u :: u :: u :: u :: u :: u :: u :: u :: [])) rfl ?_
                        exact cut_n hK154 ⟨_, _, _, (Option.some.inj h).symm, _, qv157, _, qv158, rfl, (hS.sel 5 [1, 2, 0, 4] (by decide))⟩
                      · refine w_skip ?_
                        refine seq_n hK155 ?_
                        refine w_killE (s' := (.ptr i0 w0 0 0 :: u :: u :: .ptr ip2 wp2 0 0 :: u :: u :: u :: u :: u :: u :: u :: u :: u :: u :: u :: u :: u :: u :: u :: u :: u :: u :: u :: u :: u :: u :: u :: u :: u :: u :: u :: u :: u :: u :: u :: u :: u :: u :: u :: u :: u :: u :: u :: u :: u :: u :: u :: u :: u :: .int .i64 a1.Kind :: u :: u :: u :: u :: u :: u :: u :: u :: u :: u :: u :: u :: u :: u :: u :: u :: u :: u :: u :: u :: u :: u :: u :: u :: u :: u :: u :: u :: u :: u :: u :: u :: u :: u :: u :: u :: .bool x122 :: u :: u :: u :: u :: u :: u :: u :: u :: u :: u :: u :: u :: u :: u :: u :: u :: u :: u :: u :: u :: u :: u :: u :: u :: u :: u :: u :: u :: u :: u :: u :: u :: u :: u :: u :: u :: u :: u :: u :: u :: u :: u :: u :: u :: u :: u :: u :: u :: u :: u :: u :: u :: u :: u :: u :: u :: u :: u :: u :: u :: u :: u :: u :: u :: u :: u :: u :: u :: [])) rfl ?_
                        exact cut_n hK154 ⟨_, _, _, (Option.some.inj h).symm, _, qm101, _, qv144, rfl, (hS.sel 5 [2, 0, 3, 4] (by decide))⟩
                    · obtain ⟨x147, x148, x150, rfl, v149, qv149, v151, qv151, rfl, hS⟩ := hq
                      replace h := g153
                      try dsimp only at h
                      refine seq_n hK136 ?_
                      refine w_killE (s' := (.ptr i0 w0 0 0 :: u :: u :: .ptr ip2 wp2 0 0 :: u :: u :: u :: u :: u :: u :: u :: u :: u :: u :: u :: u :: u :: u :: u :: u :: u :: u :: u :: u :: u :: u :: u :: u :: u :: u :: u :: u :: u :: u :: u :: u :: u :: u :: u :: u :: u :: u :: u :: u :: u :: u :: u :: u :: u :: .int .i64 a1.Kind :: u :: u :: u :: u :: u :: u :: u :: u :: u :: u :: u :: u :: u :: u :: u :: u :: u :: u :: u :: u :: u :: u :: u :: u :: u :: u :: u :: u :: u :: u :: u :: u :: u :: u :: u :: u :: .bool x122 :: u :: u :: u :: u :: u :: u :: u :: u :: u :: u :: u :: u :: u :: u :: u :: u :: u :: u :: u :: u :: u :: u :: u :: u :: u :: u :: u :: u :: u :: u :: u :: u :: u :: u :: u :: u :: u :: u :: u :: u :: u :: u :: u :: u :: u :: u :: u :: u :: u :: u :: u :: u :: u :: u :: u :: u :: u :: u :: u :: u :: u :: u :: u :: u :: u :: u :: u :: u :: [])) rfl ?_
                      exact cut_n hK135 ⟨_, _, _, (Option.some.inj h).symm, _, qv149, _, qv151, rfl, hS⟩
                  · refine w_seq fun K159 hK159 => ?_
                    refine w_reg gC ?_
                    try simp only [W, EE, Nat.reduceAdd]
                    refine seq_n hK159 ?_
                    obtain ⟨y166, h, g167⟩ := Option.bind_eq_some_iff.1 h
                    refine w_join gC (fun s H => ∃ x160 : Int, ∃ x161 : List Case, ∃ x163 : List Slip, y166 = LR.next (x160, x161, x163) ∧ ∃ v162 : AV, isSl v162 ∧ ∃ v164 : AV, isSl v164 ∧ s = (.ptr i0 w0 0 0 :: u :: u :: .ptr ip2 wp2 0 0 :: u :: u :: u :: u :: u :: u :: u :: u :: u :: u :: u :: u :: u :: u :: u :: u :: u :: u :: u :: u :: u :: u :: u :: u :: u :: u :: u :: u :: u :: u :: u :: u :: u :: u :: u :: u :: u :: u :: u :: u :: u :: u :: u :: u :: u :: .int .i64 a1.Kind :: u :: u :: u :: u :: u :: u :: u :: u :: u :: u :: u :: u :: u :: u :: u :: u :: u :: u :: u :: u :: u :: u :: u :: u :: u :: u :: u :: u :: u :: u :: u :: u :: u :: u :: u :: u :: .bool x122 :: u :: u :: u :: u :: u :: u :: u :: u :: u :: u :: u :: u :: u :: u :: u :: u :: u :: u :: u :: u :: u :: u :: u :: u :: u :: u :: u :: u :: u :: u :: u :: u :: u :: u :: u :: u :: u :: u :: u :: u :: u :: u :: u :: u :: u :: u :: u :: u :: u :: u :: u :: u :: u :: u :: u :: u :: u :: u :: u :: u :: u :: u :: u :: u :: u :: u :: u :: u :: []) ∧ Own H (⟨v162, 4, x161.map e_Case⟩ :: ⟨v164, 3, x163.map e_Slip⟩ :: ⟨.ptr i0 w0 0 0, 3, [.agg [.int .i64 x160, v162, v164]]⟩ :: ⟨.ptr ip2 wp2 0 0, 2, [.agg [.int .i64 a1.Kind, .int .i64 a1.K]]⟩ :: F)) (fun K168 hK168 => ?_) (fun s H hq => ?_)
                    · refine w_seq fun K169 hK169 => ?_
                      refine w_if ?_
                      simp only [W]
                      refine w_cnd h (fun hc h => ?_) (fun hc h => ?_)
                      · refine w_seq fun K170 hK170 => ?_
                        refine w_seq fun K171 hK171 => ?_
                        refine w_reg gC ?_
                        try simp only [W, EE, Nat.reduceAdd, Nat.reduceBEq, hS.var 2 rfl]
                        refine w_len 1 hS rfl qm102 rfl ?_
                        try simp only [W, EE]
                        refine seq_n hK171 ?_
                        refine w_if ?_
                        simp only [W]
                        refine w_cnd h (fun hc h => ?_) (fun hc h => ?_)
                        · refine w_seq fun K172 hK172 => ?_
                          refine w_reg gC ?_
                          try simp only [W, Nat.reduceAdd]
                          refine seq_n hK172 ?_
                          refine w_ret ?_
                          refine seq_r hK170 ?_
                          refine seq_r hK169 ?_
                          try obtain rfl := Option.some.inj h
                          obtain rfl := Option.some.inj g167
                          have h : (some (LR.done (LR.done (LR.done (LR.done (false, a0))))) : Option (LR (Int × (List Case) × (List Slip)) (LR (Int × (List Case) × (List Slip)) (LR (Int × (List Case) × (List Slip)) (LR (Int × (List Case) × (List Slip)) (Bool × Court)))))) = some (LR.done (LR.done (LR.done (LR.done (false, a0))))) := rfl
                          refine cut_r hK168 ?_
                          refine seq_r hK136 ?_
                          try obtain rfl := Option.some.inj h
                          obtain rfl := Option.some.inj g134
                          have h : (some (LR.done (LR.done (LR.done (false, a0)))) : Option (LR (Int × (List Case) × (List Slip)) (LR (Int × (List Case) × (List Slip)) (LR (Int × (List Case) × (List Slip)) (Bool × Court))))) = some (LR.done (LR.done (LR.done (false, a0)))) := rfl
                          refine cut_r hK135 ?_
                          refine seq_r hK106 ?_
                          try obtain rfl := Option.some.inj h
                          obtain rfl := Option.some.inj g104
                          have h : (some (LR.done (LR.done (false, a0))) : Option (LR (Int × (List Case) × (List Slip)) (LR (Int × (List Case) × (List Slip)) (Bool × Court)))) = some (LR.done (LR.done (false, a0))) := rfl
                          refine cut_r hK105 ?_
                          refine seq_r hK82 ?_
                          try obtain rfl := Option.some.inj h
                          obtain rfl := Option.some.inj g80
                          have h : (some (LR.done (false, a0)) : Option (LR (Int × (List Case) × (List Slip)) (Bool × Court))) = some (LR.done (false, a0)) := rfl
                          refine cut_r hK81 ?_
                          refine blk_r hK63 ?_
                          try obtain rfl := Option.some.inj h
                          obtain rfl := Option.some.inj g70
                          have h : (some (false, a0) : Option (Bool × Court)) = some (false, a0) := rfl
                          refine cut_r hK71 ?_
                          refine seq_r hK61 ?_
                          refine fin_r1 hK0 rfl ?_
                          try obtain rfl := Option.some.inj h
                          exact hP _ qm101 _ qm102 _ (hS.sel 4 [2, 0, 1] (by decide))
                        · refine w_skip ?_
                          refine seq_n hK170 ?_
                          refine w_drawL gC [(14, [0]), (17, [])] (by kernel_rfl) rfl (by kernel_rfl) ?_
                          try simp only [W, EE, reduceIte, Nat.reduceAdd, Nat.reduceBEq, hS.var 2 rfl, hS.var 3 rfl, tabAt, qAt, Nat.reduceEqDiff]
                          refine w_ow 1 hS rfl rfl rfl rfl rfl h (fun b183 in184 wn184 on184 hb183 h en184 => ?_) qm102.ne
                          obtain ⟨kn184, hbn184, hen184⟩ := hS.elem 1 rfl en184 hb183
                          try simp only [W, EE, EN, reduceIte, Nat.reduceAdd, Nat.reduceLeDiff, hbn184, hen184]
                          refine w_lit (el := ([b183] : List Slip).map e_Slip) hS rfl rfl rfl rfl rfl rfl rfl fun v185 H qv185 hS => ?_
                          try simp only [W, EE]
                          refine w_appV (l := a0.Line) (c := e_Slip) 2 hS rfl qm102 rfl rfl rfl (hS.elems 0 rfl qv185) (fun _ => rfl) rfl h fun v188 H x187 qv188 hm h hS => ?_
                          refine goK_late ?_
                          refine lateG_s (by first | rfl | (simp [evalOp, W, EE, EN, rdAt, mkT, subL, AV.cells, hS.var 3 rfl, hS.var 4 rfl]; done)) ?_
                          refine lateG_n ?_
                          try simp only [W, EE, Nat.reduceAdd, Nat.reduceBEq, hS.var 3 rfl]
                          refine w_stv (a := v188) (y' := .agg [.int .i64 a0.Now, m101, v188]) 3 hS rfl rfl rfl rfl (by rw [qv188.cells]; rfl) qv188.stora (qv188.wr _ _ (by simp)) rfl fun H hS => ?_
                          try simp only [W]
                          refine seq_n hK169 ?_
                          refine w_killE (s' := (.ptr i0 w0 0 0 :: u :: u :: .ptr ip2 wp2 0 0 :: u :: u :: u :: u :: u :: u :: u :: u :: u :: u :: u :: u :: u :: u :: u :: u :: u :: u :: u :: u :: u :: u :: u :: u :: u :: u :: u :: u :: u :: u :: u :: u :: u :: u :: u :: u :: u :: u :: u :: u :: u :: u :: u :: u :: u :: .int .i64 a1.Kind :: u :: u :: u :: u :: u :: u :: u :: u :: u :: u :: u :: u :: u :: u :: u :: u :: u :: u :: u :: u :: u :: u :: u :: u :: u :: u :: u :: u :: u :: u :: u :: u :: u :: u :: u :: u :: .bool x122 :: u :: u :: u :: u :: u :: u :: u :: u :: u :: u :: u :: u :: u :: u :: u :: u :: u :: u :: u :: u :: u :: u :: u :: u :: u :: u :: u :: u :: u :: u :: u :: u :: u :: u :: u :: u :: u :: u :: u :: u :: u :: u :: u :: u :: u :: u :: u :: u :: u :: u :: u :: u :: u :: u :: u :: u :: u :: u :: u :: u :: u :: u :: u :: u :: u :: u :: u :: u :: [])) rfl ?_
                          exact cut_n hK168 ⟨_, _, _, (Option.some.inj h).symm, _, qm101, _, qv188, rfl, (hS.sel 5 [1, 2, 3, 4] (by decide))⟩
                      · refine w_seq fun K190 hK190 => ?_
                        refine w_reg gC ?_
                        try simp only [W, EE, Nat.reduceAdd]
                        refine seq_n hK190 ?_
                        refine w_if ?_
                        simp only [W]
                        refine w_cnd h (fun hc h => ?_) (fun hc h => ?_)
                        · refine w_seq fun K191 hK191 => ?_
                          refine w_seq fun K192 hK192 => ?_
                          obtain ⟨y194, h, g195⟩ := Option.bind_eq_some_iff.1 h
                          refine w_join gC (fun s H => ∃ x193 : Bool, y194 = (x193) ∧ s = (.ptr i0 w0 0 0 :: u :: u :: .ptr ip2 wp2 0 0 :: u :: u :: u :: u :: u :: u :: u :: u :: u :: u :: u :: u :: u :: u :: u :: u :: u :: u :: u :: u :: u :: u :: u :: u :: u :: u :: u :: u :: u :: u :: u :: u :: u :: u :: u :: u :: u :: u :: u :: u :: u :: u :: u :: u :: u :: .int .i64 a1.Kind :: u :: u :: u :: u :: u :: u :: u :: u :: u :: u :: u :: u :: u :: u :: u :: u :: u :: u :: u :: u :: u :: u :: u :: u :: u :: u :: u :: u :: u :: u :: u :: u :: u :: u :: u :: u :: .bool x122 :: u :: u :: u :: u :: u :: u :: u :: u :: u :: u :: u :: u :: u :: u :: u :: u :: u :: u :: u :: u :: u :: u :: u :: u :: u :: u :: u :: u :: u :: u :: u :: u :: u :: u :: u :: u :: u :: u :: u :: u :: u :: u :: u :: u :: u :: u :: u :: u :: u :: u :: u :: u :: u :: u :: u :: u :: u :: u :: u :: u :: u :: u :: u :: u :: u :: .bool x193 :: u :: u :: []) ∧ Own H (⟨m101, 4, a0.Cases.map e_Case⟩ :: ⟨m102, 3, a0.Line.map e_Slip⟩ :: ⟨.ptr i0 w0 0 0, 3, [.agg [.int .i64 a0.Now, m101, m102]]⟩ :: ⟨.ptr ip2 wp2 0 0, 2, [.agg [.int .i64 a1.Kind, .int .i64 a1.K]]⟩ :: F)) (fun K196 hK196 => ?_) (fun s H hq => ?_)
                          · refine w_seq fun K197 hK197 => ?_
                            refine w_reg gC ?_
                            try simp only [W, EE, Nat.reduceAdd, Nat.reduceBEq, hS.var 3 rfl]
                            refine w_grdT h (fun hc h => ?_) (fun hc h => ?_)
                            · try simp only [W, hc]
                              refine seq_n hK197 ?_
                              refine w_killE (s' := (.ptr i0 w0 0 0 :: u :: u :: .ptr ip2 wp2 0 0 :: u :: u :: u :: u :: u :: u :: u :: u :: u :: u :: u :: u :: u :: u :: u :: u :: u :: u :: u :: u :: u :: u :: u :: u :: u :: u :: u :: u :: u :: u :: u :: u :: u :: u :: u :: u :: u :: u :: u :: u :: u :: u :: u :: u :: u :: .int .i64 a1.Kind :: u :: u :: u :: u :: u :: u :: u :: u :: u :: u :: u :: u :: u :: u :: u :: u :: u :: u :: u :: u :: u :: u :: u :: u :: u :: u :: u :: u :: u :: u :: u :: u :: u :: u :: u :: u :: .bool x122 :: u :: u :: u :: u :: u :: u :: u :: u :: u :: u :: u :: u :: u :: u :: u :: u :: u :: u :: u :: u :: u :: u :: u :: u :: u :: u :: u :: u :: u :: u :: u :: u :: u :: u :: u :: u :: u :: u :: u :: u :: u :: u :: u :: u :: u :: u :: u :: u :: u :: u :: u :: u :: u :: u :: u :: u :: u :: u :: u :: u :: u :: u :: u :: u :: u :: .bool true :: u :: u :: [])) rfl ?_
                              exact cut_n hK196 ⟨_, (Option.some.inj h).symm, rfl, hS⟩
                            · try simp only [W, EE, reduceIte, Nat.reduceAdd, Nat.reduceBEq, Bool.false_eq_true, hS.var 2 rfl, hc]
                              refine seq_n hK197 ?_
                              refine w_killE (s' := (.ptr i0 w0 0 0 :: u :: u :: .ptr ip2 wp2 0 0 :: u :: u :: u :: u :: u :: u :: u :: u :: u :: u :: u :: u :: u :: u :: u :: u :: u :: u :: u :: u :: u :: u :: u :: u :: u :: u :: u :: u :: u :: u :: u :: u :: u :: u :: u :: u :: u :: u :: u :: u :: u :: u :: u :: u :: u :: .int .i64 a1.Kind :: u :: u :: u :: u :: u :: u :: u :: u :: u :: u :: u :: u :: u :: u :: u :: u :: u :: u :: u :: u :: u :: u :: u :: u :: u :: u :: u :: u :: u :: u :: u :: u :: u :: u :: u :: u :: .bool x122 :: u :: u :: u :: u :: u :: u :: u :: u :: u :: u :: u :: u :: u :: u :: u :: u :: u :: u :: u :: u :: u :: u :: u :: u :: u :: u :: u :: u :: u :: u :: u :: u :: u :: u :: u :: u :: u :: u :: u :: u :: u :: u :: u :: u :: u :: u :: u :: u :: u :: u :: u :: u :: u :: u :: u :: u :: u :: u :: u :: u :: u :: u :: u :: u :: u :: .bool (a0.Now == 200) :: u :: u :: [])) rfl ?_
                              exact cut_n hK196 ⟨_, (Option.some.inj h).symm, rfl, hS⟩
                          · obtain ⟨x193, ey, rfl, hS⟩ := hq; obtain rfl := ey.symm
                            replace h := g195
                            try dsimp only at h
                            refine seq_n hK192 ?_
                            refine w_if ?_
                            simp only [W]
                            refine w_cnd h (fun hc h => ?_) (fun hc h => ?_)
                            · refine w_seq fun K198 hK198 => ?_
                              refine w_reg gC ?_
                              try simp only [W, Nat.reduceAdd]
                              refine seq_n hK198 ?_
                              refine w_ret ?_
                              refine seq_r hK191 ?_
                              refine seq_r hK169 ?_
                              try obtain rfl := Option.some.inj h
                              obtain rfl := Option.some.inj g167
                              have h : (some (LR.done (LR.done (LR.done (LR.done (false, a0))))) : Option (LR (Int × (List Case) × (List Slip)) (LR (Int × (List Case) × (List Slip)) (LR (Int × (List Case) × (List Slip)) (LR (Int × (List Case) × (List Slip)) (Bool × Court)))))) = some (LR.done (LR.done (LR.done (LR.done (false, a0))))) := rfl
                              refine cut_r hK168 ?_
                              refine seq_r hK136 ?_
                              try obtain rfl := Option.some.inj h
                              obtain rfl := Option.some.inj g134
                              have h : (some (LR.done (LR.done (LR.done (false, a0)))) : Option (LR (Int × (List Case) × (List Slip)) (LR (Int × (List Case) × (List Slip)) (LR (Int × (List Case) × (List Slip)) (Bool × Court))))) = some (LR.done (LR.done (LR.done (false, a0)))) := rfl
                              refine cut_r hK135 ?_
                              refine seq_r hK106 ?_
                              try obtain rfl := Option.some.inj h
                              obtain rfl := Option.some.inj g104
                              have h : (some (LR.done (LR.done (false, a0))) : Option (LR (Int × (List Case) × (List Slip)) (LR (Int × (List Case) × (List Slip)) (Bool × Court)))) = some (LR.done (LR.done (false, a0))) := rfl
                              refine cut_r hK105 ?_
                              refine seq_r hK82 ?_
                              try obtain rfl := Option.some.inj h
                              obtain rfl := Option.some.inj g80
                              have h : (some (LR.done (false, a0)) : Option (LR (Int × (List Case) × (List Slip)) (Bool × Court))) = some (LR.done (false, a0)) := rfl
                              refine cut_r hK81 ?_
                              refine blk_r hK63 ?_
                              try obtain rfl := Option.some.inj h
                              obtain rfl := Option.some.inj g70
                              have h : (some (false, a0) : Option (Bool × Court)) = some (false, a0) := rfl
                              refine cut_r hK71 ?_
                              refine seq_r hK61 ?_
                              refine fin_r1 hK0 rfl ?_
                              try obtain rfl := Option.some.inj h
                              exact hP _ qm101 _ qm102 _ (hS.sel 4 [2, 0, 1] (by decide))
                            · refine w_skip ?_
                              refine seq_n hK191 ?_
                              refine w_reg gC ?_
                              try simp only [W, Nat.reduceAdd]
                              refine w_call h fun b209 hb209 h => ?_
                              refine impl_Court_tick_w hb209 (hS.sel 4 [2, 0, 1, 3] (by decide)) qm101 qm102 fun v210 qv210 v211 qv211 H hS => ?_
                              try simp only [W]
                              refine seq_n hK169 ?_
                              refine w_killE (s' := (.ptr i0 w0 0 0 :: u :: u :: .ptr ip2 wp2 0 0 :: u :: u :: u :: u :: u :: u :: u :: u :: u :: u :: u :: u :: u :: u :: u :: u :: u :: u :: u :: u :: u :: u :: u :: u :: u :: u :: u :: u :: u :: u :: u :: u :: u :: u :: u :: u :: u :: u :: u :: u :: u :: u :: u :: u :: u :: .int .i64 a1.Kind :: u :: u :: u :: u :: u :: u :: u :: u :: u :: u :: u :: u :: u :: u :: u :: u :: u :: u :: u :: u :: u :: u :: u :: u :: u :: u :: u :: u :: u :: u :: u :: u :: u :: u :: u :: u :: .bool x122 :: u :: u :: u :: u :: u :: u :: u :: u :: u :: u :: u :: u :: u :: u :: u :: u :: u :: u :: u :: u :: u :: u :: u :: u :: u :: u :: u :: u :: u :: u :: u :: u :: u :: u :: u :: u :: u :: u :: u :: u :: u :: u :: u :: u :: u :: u :: u :: u :: u :: u :: u :: u :: u :: u :: u :: u :: u :: u :: u :: u :: u :: u :: u :: u :: u :: u :: u :: u :: [])) rfl ?_
                              exact cut_n hK168 ⟨_, _, _, (Option.some.inj h).symm, _, qv210, _, qv211, rfl, (hS.sel 4 [1, 2, 0, 3] (by decide))⟩
                        · refine w_seq fun K212 hK212 => ?_
                          refine w_reg gC ?_
                          try simp only [W, Nat.reduceAdd]
                          refine seq_n hK212 ?_
                          refine w_ret ?_
                          refine seq_r hK169 ?_
                          try obtain rfl := Option.some.inj h
                          obtain rfl := Option.some.inj g167
                          have h : (some (LR.done (LR.done (LR.done (LR.done (false, a0))))) : Option (LR (Int × (List Case) × (List Slip)) (LR (Int × (List Case) × (List Slip)) (LR (Int × (List Case) × (List Slip)) (LR (Int × (List Case) × (List Slip)) (Bool × Court)))))) = some (LR.done (LR.done (LR.done (LR.done (false, a0))))) := rfl
                          refine cut_r hK168 ?_
                          refine seq_r hK136 ?_
                          try obtain rfl := Option.some.inj h
                          obtain rfl := Option.some.inj g134
                          have h : (some (LR.done (LR.done (LR.done (false, a0)))) : Option (LR (Int × (List Case) × (List Slip)) (LR (Int × (List Case) × (List Slip)) (LR (Int × (List Case) × (List Slip)) (Bool × Court))))) = some (LR.done (LR.done (LR.done (false, a0)))) := rfl
                          refine cut_r hK135 ?_
                          refine seq_r hK106 ?_
                          try obtain rfl := Option.some.inj h
                          obtain rfl := Option.some.inj g104
                          have h : (some (LR.done (LR.done (false, a0))) : Option (LR (Int × (List Case) × (List Slip)) (LR (Int × (List Case) × (List Slip)) (Bool × Court)))) = some (LR.done (LR.done (false, a0))) := rfl
                          refine cut_r hK105 ?_
                          refine seq_r hK82 ?_
                          try obtain rfl := Option.some.inj h
                          obtain rfl := Option.some.inj g80
                          have h : (some (LR.done (false, a0)) : Option (LR (Int × (List Case) × (List Slip)) (Bool × Court))) = some (LR.done (false, a0)) := rfl
                          refine cut_r hK81 ?_
                          refine blk_r hK63 ?_
                          try obtain rfl := Option.some.inj h
                          obtain rfl := Option.some.inj g70
                          have h : (some (false, a0) : Option (Bool × Court)) = some (false, a0) := rfl
                          refine cut_r hK71 ?_
                          refine seq_r hK61 ?_
                          refine fin_r1 hK0 rfl ?_
                          try obtain rfl := Option.some.inj h
                          exact hP _ qm101 _ qm102 _ (hS.sel 4 [2, 0, 1] (by decide))
                    · obtain ⟨x160, x161, x163, rfl, v162, qv162, v164, qv164, rfl, hS⟩ := hq
                      replace h := g167
                      try dsimp only at h
                      refine seq_n hK136 ?_
                      refine w_killE (s' := (.ptr i0 w0 0 0 :: u :: u :: .ptr ip2 wp2 0 0 :: u :: u :: u :: u :: u :: u :: u :: u :: u :: u :: u :: u :: u :: u :: u :: u :: u :: u :: u :: u :: u :: u :: u :: u :: u :: u :: u :: u :: u :: u :: u :: u :: u :: u :: u :: u :: u :: u :: u :: u :: u :: u :: u :: u :: u :: .int .i64 a1.Kind :: u :: u :: u :: u :: u :: u :: u :: u :: u :: u :: u :: u :: u :: u :: u :: u :: u :: u :: u :: u :: u :: u :: u :: u :: u :: u :: u :: u :: u :: u :: u :: u :: u :: u :: u :: u :: .bool x122 :: u :: u :: u :: u :: u :: u :: u :: u :: u :: u :: u :: u :: u :: u :: u :: u :: u :: u :: u :: u :: u :: u :: u :: u :: u :: u :: u :: u :: u :: u :: u :: u :: u :: u :: u :: u :: u :: u :: u :: u :: u :: u :: u :: u :: u :: u :: u :: u :: u :: u :: u :: u :: u :: u :: u :: u :: u :: u :: u :: u :: u :: u :: u :: u :: u :: u :: u :: u :: [])) rfl ?_
                      exact cut_n hK135 ⟨_, _, _, (Option.some.inj h).symm, _, qv162, _, qv164, rfl, hS⟩
                · obtain ⟨x127, x128, x130, rfl, v129, qv129, v131, qv131, rfl, hS⟩ := hq
                  replace h := g134
                  try dsimp only at h
                  refine seq_n hK106 ?_
                  refine w_killE (s' := (u :: u :: u :: u :: u :: u :: u :: u :: u :: u :: u :: u :: u :: u :: u :: u :: u :: u :: u :: u :: u :: u :: u :: u :: u :: u :: u :: u :: u :: u :: u :: u :: u :: u :: u :: u :: u :: u :: u :: u :: u :: u :: u :: u :: u :: u :: u :: u :: u :: u :: u :: u :: u :: u :: u :: u :: u :: u :: u :: u :: u :: u :: u :: u :: u :: u :: u :: u :: u :: u :: u :: u :: u :: u :: u :: u :: u :: u :: u :: u :: u :: u :: u :: u :: u :: u :: u :: u :: u :: u :: u :: u :: u :: u :: u :: u :: u :: u :: u :: u :: u :: u :: u :: u :: u :: u :: u :: u :: u :: u :: u :: u :: u :: u :: u :: u :: u :: u :: u :: u :: u :: u :: u :: u :: u :: u :: u :: u :: u :: u :: u :: u :: u :: u :: u :: u :: u :: u :: u :: u :: u :: u :: u :: u :: u :: u :: u :: u :: u :: u :: u :: u :: u :: u :: u :: [])) rfl ?_
                  exact cut_n hK105 ⟨_, _, _, (Option.some.inj h).symm, _, qv129, _, qv131, rfl, (hS.sel 4 [0, 1, 2] (by decide))⟩
          · obtain ⟨x97, x98, x100, rfl, v99, qv99, v101, qv101, rfl, hS⟩ := hq
            replace h := g104
            try dsimp only at h
            refine seq_n hK82 ?_
            refine w_killE (s' := (u :: u :: u :: u :: u :: u :: u :: u :: u :: u :: u :: u :: u :: u :: u :: u :: u :: u :: u :: u :: u :: u :: u :: u :: u :: u :: u :: u :: u :: u :: u :: u :: u :: u :: u :: u :: u :: u :: u :: u :: u :: u :: u :: u :: u :: u :: u :: u :: u :: u :: u :: u :: u :: u :: u :: u :: u :: u :: u :: u :: u :: u :: u :: u :: u :: u :: u :: u :: u :: u :: u :: u :: u :: u :: u :: u :: u :: u :: u :: u :: u :: u :: u :: u :: u :: u :: u :: u :: u :: u :: u :: u :: u :: u :: u :: u :: u :: u :: u :: u :: u :: u :: u :: u :: u :: u :: u :: u :: u :: u :: u :: u :: u :: u :: u :: u :: u :: u :: u :: u :: u :: u :: u :: u :: u :: u :: u :: u :: u :: u :: u :: u :: u :: u :: u :: u :: u :: u :: u :: u :: u :: u :: u :: u :: u :: u :: u :: u :: u :: u :: u :: u :: u :: u :: u :: [])) rfl ?_
            exact cut_n hK81 ⟨_, _, _, (Option.some.inj h).symm, _, qv99, _, qv101, rfl, hS⟩
      · obtain ⟨x73, x74, x76, rfl, v75, qv75, v77, qv77, rfl, hS⟩ := hq
        replace h := g80
        try dsimp only at h
        refine blk_n hK63 ?_
        exact cut_n hK71 ⟨_, _, _, (Option.some.inj h).symm, _, qv75, _, qv77, rfl, hS⟩
    · obtain ⟨x64, x65, x67, rfl, v66, qv66, v68, qv68, rfl, hS⟩ := hq
      replace h := g70
      try dsimp only at h
      refine seq_n hK61 ?_
      refine w_seq fun K223 hK223 => ?_
      refine w_reg gC ?_
      try simp only [W, Nat.reduceAdd]
      refine seq_n hK223 ?_
      refine w_ret ?_
      refine fin_r1 hK0 rfl ?_
      try obtain rfl := Option.some.inj h
      exact hP _ qv66 _ qv68 _ (hS.sel 3 [2, 0, 1] (by decide))
theorem impl_SettleCourt_w {a0 : Court} {r : (Court × Int × Bool)} (h : impl_SettleCourt a0 = some r) {F : List It} {H : Heap} (hS : Own H (F)) {P : AV → Heap → Prop} (hP : ∀ v71 : AV, isSl v71 → ∀ v73 : AV, isSl v73 → ∀ H', Own H' (⟨v71, 4, r.1.Cases.map e_Case⟩ :: ⟨v73, 3, r.1.Line.map e_Slip⟩ :: F) → P (.tup [.agg [.int .i64 r.1.Now, v71, v73], .int .i64 r.2.1, .bool r.2.2]) H') : ACall C 54 [.agg [.int .i64 a0.Now, .fz (a0.Cases.map e_Case), .fz (a0.Line.map e_Slip)]] H P := by
  refine acall_of gC (res := [.cell 2 68, .tmp 3, .tmp 4]) (n := 30) rfl rfl rfl rfl fun K0 hK0 => ?_
  simp only [W, Nat.reduceSub, Nat.reduceAdd, List.replicate]
  unfold impl_SettleCourt at h
  refine w_seq fun K1 hK1 => ?_
  refine w_reg gC ?_
  try simp only [W, Nat.reduceAdd]
  refine w_box hS rfl rfl rfl rfl fun ip2 wp2 H hS => ?_
  try simp only [W]
  refine w_alloc hS rfl rfl fun ip4 wp4 H hS => ?_
  try simp only [W]
  refine seq_n hK1 ?_
  refine w_seq fun K6 hK6 => ?_
  refine w_seq fun K7 hK7 => ?_
  refine w_reg gC ?_
  try simp only [W, EE, reduceIte, Nat.reduceAdd, Nat.reduceLeDiff, hS.var 1 rfl]
  refine w_call h fun b8 hb8 h => ?_
  refine impl_GoodCourt_w hb8 hS fun H hS => ?_
  try simp only [W]
  refine seq_n hK7 ?_
  refine w_if ?_
  simp only [W]
  refine w_cnd h (fun hc h => ?_) (fun hc h => ?_)
  · refine w_seq fun K9 hK9 => ?_
    refine w_reg gC ?_
    try simp only [W, EE, Nat.reduceAdd]
    refine w_bld rfl rfl rfl rfl rfl ?_
    try simp only [W]
    refine w_stv (a := .agg [.int .i64 0, .nil, .nil]) (y' := .agg [.int .i64 0, .nil, .nil]) 0 hS rfl rfl rfl rfl rfl rfl rfl rfl fun H hS => ?_
    try simp only [W]
    refine seq_n hK9 ?_
    refine w_ret ?_
    refine seq_r hK6 ?_
    refine fin_r hK0 (res_c rfl rfl (hS.var 0 rfl) rfl (res_tc rfl (res_tc rfl rfl))) ?_
    try obtain rfl := Option.some.inj h
    exact hP _ isSl_nil _ isSl_nil _ (((hS.nil_ 3).nil_ 4).sel 4 [0, 1] (by decide))
  · refine w_skip ?_
    refine seq_n hK6 ?_
    refine w_seq fun K10 hK10 => ?_
    refine w_reg gC ?_
    try simp only [W, EE, reduceIte, Nat.reduceAdd, Nat.reduceLeDiff, hS.var 1 rfl]
    refine w_call h fun b11 hb11 h => ?_
    refine impl_Court_copied_w hb11 hS fun v12 qv12 v14 qv14 H hS => ?_
    try simp only [W]
    refine w_alloc hS rfl rfl fun ip16 wp16 H hS => ?_
    try simp only [W]
    refine w_stv (a := .agg [.int .i64 b11.Now, v12, v14]) (y' := .agg [.int .i64 b11.Now, v12, v14]) 0 hS rfl rfl rfl rfl rfl (by simp only [storA, List.all_cons, List.all_nil, qv12.stor, qv14.stor]; rfl) rfl rfl fun H hS => ?_
    try simp only [W]
    refine seq_n hK10 ?_
    refine w_seq fun K18 hK18 => ?_
    refine w_seq fun K19 hK19 => ?_
    refine w_reg gC ?_
    try simp only [W, Nat.reduceAdd]
    refine w_callS (rsh := [[.sc]]) (ys := [.fe (.agg [.int .i64 b11.Now, .fz (b11.Cases.map e_Case), .fz (b11.Line.map e_Slip)]) 0]) h rfl (pv_c (sn_pt hS 0 rfl (sn_agg (sm_c rfl (sm_c (sn_ow hS 1 rfl qv12 (fun _ => rfl)) (sm_c (sn_ow hS 2 rfl qv14 (fun _ => rfl)) (sm_n _)))))) pv_n) fun b20 hb20 h => ⟨.int .i64 b20, impl_Court_unsettled_wq hb20 (Own.nil _) fun H hS => TV_ok rfl (TV_p rfl (TV_n rfl)), ⟨rfl, rfl, fun _ => rfl⟩, ?_⟩
    try simp only [W]
    refine seq_n hK19 ?_
    obtain ⟨y35, hw36, g42⟩ := Option.bind_eq_some_iff.1 h
    refine w_join gC (fun s H => ∃ x29 : Int, ∃ x30 : Int, ∃ x31 : List Case, ∃ x33 : List Slip, y35 = (x29, x30, x31, x33) ∧ ∃ v32 : AV, isSl v32 ∧ ∃ v34 : AV, isSl v34 ∧ s = [u, u, .ptr ip4 wp4 0 0, u, u, .ptr ip16 wp16 0 0, .int .i64 x29, u, u, u, u, u, u, u, u, u, u, u, u, u, u, u, u, u, u, u, u, u, u, u] ∧ Own H (⟨v32, 4, x31.map e_Case⟩ :: ⟨v34, 3, x33.map e_Slip⟩ :: ⟨.ptr ip4 wp4 0 0, 3, [.agg [.int .i64 0, .nil, .nil]]⟩ :: ⟨.ptr ip16 wp16 0 0, 3, [.agg [.int .i64 x30, v32, v34]]⟩ :: F)) (fun K37 hK37 => ?_) (fun s H hq => ?_)
    · refine w_blk fun K38 hK38 => ?_
      refine w_loop gC hw36 (fun x s H => match x with | (x21, x22, x23, x24, x26) => ∃ v25 : AV, isSl v25 ∧ ∃ v27 : AV, isSl v27 ∧ s = [u, u, .ptr ip4 wp4 0 0, u, u, .ptr ip16 wp16 0 0, .int .i64 x21, .int .i64 x22, u, u, u, u, u, u, u, u, u, u, u, u, u, u, u, u, u, u, u, u, u, u] ∧ Own H (⟨v25, 4, x24.map e_Case⟩ :: ⟨v27, 3, x26.map e_Slip⟩ :: ⟨.ptr ip4 wp4 0 0, 3, [.agg [.int .i64 0, .nil, .nil]]⟩ :: ⟨.ptr ip16 wp16 0 0, 3, [.agg [.int .i64 x23, v25, v27]]⟩ :: F)) ⟨_, qv12, _, qv14, rfl, (hS.sel 5 [1, 2, 3, 0] (by decide))⟩ (fun x y41 s H h hd40 hi K39 hK39 => ?_)
      obtain ⟨x21, x22, x23, x24, x26⟩ := x
      try dsimp only at hi
      obtain ⟨v25, qv25, v27, qv27, rfl, hS⟩ := hi
      simp only [impl_SettleCourt_l0] at h
      refine w_seq fun K43 hK43 => ?_
      refine w_seq fun K44 hK44 => ?_
      refine w_reg gC ?_
      try simp only [W, EE, Nat.reduceAdd]
      refine seq_n hK44 ?_
      refine w_if ?_
      simp only [W]
      refine w_cnd h (fun hc h => ?_) (fun hc h => ?_)
      · refine w_skip ?_
        refine seq_n hK43 ?_
        refine w_seq fun K45 hK45 => ?_
        refine w_blk fun K46 hK46 => ?_
        refine w_seq fun K47 hK47 => ?_
        refine w_reg gC ?_
        try simp only [W, EE, Nat.reduceAdd, Nat.reduceBEq, hS.var 3 rfl]
        refine w_stv (a := .nil) (y' := .agg [.int .i64 x23, v25, .nil]) 3 hS rfl rfl rfl rfl rfl rfl rfl rfl fun H hS => ?_
        try simp only [W]
        refine seq_n hK47 ?_
        refine w_seq fun K48 hK48 => ?_
        refine w_reg gC ?_
        try simp only [W, EE, Nat.reduceAdd]
        refine w_bld rfl rfl rfl rfl rfl ?_
        try simp only [W]
        have hS := hS.nil_ 3
        refine w_call h fun b50 hb50 h => ?_
        obtain ⟨b51, b52⟩ := b50
        try dsimp only at h
        refine impl_Court_step_w hb50 (hS.sel 5 [4, 1, 0, 2, 3] (by decide)) qv25 isSl_nil fun v53 qv53 v54 qv54 H hS => ?_
        try simp only [W]
        refine seq_n hK48 ?_
        refine w_seq fun K55 hK55 => ?_
        refine w_reg gC ?_
        try simp only [W, EE, Nat.reduceAdd]
        refine w_bld rfl rfl rfl rfl rfl ?_
        try simp only [W]
        refine w_call h fun b56 hb56 h => ?_
        obtain ⟨b57, b58⟩ := b56
        try dsimp only at h
        refine impl_Court_step_w hb56 hS qv53 qv54 fun v59 qv59 v60 qv60 H hS => ?_
        try simp only [W]
        refine seq_n hK55 ?_
        refine w_seq fun K61 hK61 => ?_
        refine w_reg gC ?_
        try simp only [W, EE, Nat.reduceAdd]
        refine w_bld rfl rfl rfl rfl rfl ?_
        try simp only [W]
        refine w_call h fun b62 hb62 h => ?_
        obtain ⟨b63, b64⟩ := b62
        try dsimp only at h
        refine impl_Court_step_w hb62 hS qv59 qv60 fun v65 qv65 v66 qv66 H hS => ?_
        try simp only [W]
        refine seq_n hK61 ?_
        refine w_reg gC ?_
        try simp only [W, EE, Nat.reduceAdd]
        refine blk_n0 hK46 ?_
        refine seq_n hK45 ?_
        refine w_reg gC ?_
        try simp only [W, Nat.reduceAdd]
        refine w_callS (rsh := [[.sc]]) (ys := [.fe (.agg [.int .i64 b64.Now, .fz (b64.Cases.map e_Case), .fz (b64.Line.map e_Slip)]) 0]) h rfl (pv_c (sn_pt hS 0 rfl (sn_agg (sm_c rfl (sm_c (sn_ow hS 1 rfl qv65 (fun _ => rfl)) (sm_c (sn_ow hS 2 rfl qv66 (fun _ => rfl)) (sm_n _)))))) pv_n) fun b67 hb67 h => ⟨.int .i64 b67, impl_Court_unsettled_wq hb67 (Own.nil _) fun H hS => TV_ok rfl (TV_p rfl (TV_n rfl)), ⟨rfl, rfl, fun _ => rfl⟩, ?_⟩
        try simp only [W]
        exact lp_n hK39 h ⟨_, qv65, _, qv66, rfl, (hS.sel 5 [1, 2, 4, 0] (by decide))⟩
      · refine w_exit ?_
        refine seq_x hK43 ?_
        try obtain rfl := Option.some.inj h
        obtain rfl := hd40 _ rfl
        have h : (some (x21, x23, x24, x26) : Option (Int × Int × (List Case) × (List Slip))) = some (x21, x23, x24, x26) := rfl
        refine lp_x hK39 ?_
        refine blk_e hK38 ?_
        exact cut_n hK37 ⟨_, _, _, _, (Option.some.inj h).symm, _, qv25, _, qv27, rfl, hS⟩
    · obtain ⟨x29, x30, x31, x33, rfl, v32, qv32, v34, qv34, rfl, hS⟩ := hq
      replace h := g42
      try dsimp only at h
      refine seq_n hK18 ?_
      refine w_seq fun K70 hK70 => ?_
      refine w_reg gC ?_
      try simp only [W, EE, reduceIte, Nat.reduceAdd, Nat.reduceLeDiff, hS.var 3 rfl]
      refine w_stv (a := .agg [.int .i64 x30, v32, v34]) (y' := .agg [.int .i64 x30, v32, v34]) 2 hS rfl rfl rfl rfl rfl (by simp only [storA, List.all_cons, List.all_nil, qv32.stor, qv34.stor]; rfl) rfl rfl fun H hS => ?_
      try simp only [W]
      refine seq_n hK70 ?_
      refine w_ret ?_
      refine fin_r hK0 (res_c rfl rfl (hS.var 2 rfl) rfl (res_tc rfl (res_tc rfl rfl))) ?_
      try obtain rfl := Option.some.inj h
      exact hP _ qv32 _ qv34 _ (hS.sel 4 [0, 1] (by decide))
theorem laws_eqCase_w {a0 : Case} {a1 : Case} {r : (Bool)} (h : laws_eqCase a0 a1 = some r) {F : List It} {H : Heap} (hS : Own H (F)) {P : AV → Heap → Prop} (hP : ∀ H', Own H' (F) → P (.bool r) H') : ACall C 254 [.agg [.int .i64 a0.End, .bool a0.Asks, .int .i64 a0.Final, .int .i64 a0.Said], .agg [.int .i64 a1.End, .bool a1.Asks, .int .i64 a1.Final, .int .i64 a1.Said]] H P := by
  refine acall_of gC (res := [.tmp 4]) (n := 25) rfl rfl rfl rfl fun K0 hK0 => ?_
  simp only [W, Nat.reduceSub, Nat.reduceAdd, List.replicate]
  unfold laws_eqCase at h
  refine w_seq fun K1 hK1 => ?_
  refine w_reg gC ?_
  try simp only [W, Nat.reduceAdd]
  refine w_box hS rfl rfl rfl rfl fun ip2 wp2 H hS => ?_
  try simp only [W]
  refine w_box hS rfl rfl rfl rfl fun ip4 wp4 H hS => ?_
  try simp only [W]
  refine seq_n hK1 ?_
  refine w_seq fun K6 hK6 => ?_
  refine w_seq fun K7 hK7 => ?_
  refine w_reg gC ?_
  try simp only [W, EE, Nat.reduceAdd, Nat.reduceBEq, hS.var 1 rfl, hS.var 0 rfl]
  refine seq_n hK7 ?_
  refine w_if ?_
  simp only [W]
  refine w_cnd h (fun hc h => ?_) (fun hc h => ?_)
  · refine w_seq fun K8 hK8 => ?_
    refine w_reg gC ?_
    try simp only [W, Nat.reduceAdd]
    refine seq_n hK8 ?_
    refine w_ret ?_
    refine seq_r hK6 ?_
    refine fin_r1 hK0 rfl ?_
    try obtain rfl := Option.some.inj h
    exact hP _ (hS.sel 2 [] (by decide))
  · refine w_skip ?_
    refine seq_n hK6 ?_
    refine w_seq fun K9 hK9 => ?_
    refine w_seq fun K10 hK10 => ?_
    refine w_reg gC ?_
    try simp only [W, EE, Nat.reduceAdd, Nat.reduceBEq, hS.var 1 rfl, hS.var 0 rfl]
    rw [b_bneq _ _ _ _ (h := rfl) rfl, resV_s]
    try simp only [W]
    refine seq_n hK10 ?_
    refine w_if ?_
    simp only [W]
    refine w_cnd h (fun hc h => ?_) (fun hc h => ?_)
    · refine w_seq fun K11 hK11 => ?_
      refine w_reg gC ?_
      try simp only [W, Nat.reduceAdd]
      refine seq_n hK11 ?_
      refine w_ret ?_
      refine seq_r hK9 ?_
      refine fin_r1 hK0 rfl ?_
      try obtain rfl := Option.some.inj h
      exact hP _ (hS.sel 2 [] (by decide))
    · refine w_skip ?_
      refine seq_n hK9 ?_
      refine w_seq fun K12 hK12 => ?_
      refine w_seq fun K13 hK13 => ?_
      refine w_reg gC ?_
      try simp only [W, EE, Nat.reduceAdd, Nat.reduceBEq, hS.var 1 rfl, hS.var 0 rfl]
      refine seq_n hK13 ?_
      refine w_if ?_
      simp only [W]
      refine w_cnd h (fun hc h => ?_) (fun hc h => ?_)
      · refine w_seq fun K14 hK14 => ?_
        refine w_reg gC ?_
        try simp only [W, Nat.reduceAdd]
        refine seq_n hK14 ?_
        refine w_ret ?_
        refine seq_r hK12 ?_
        refine fin_r1 hK0 rfl ?_
        try obtain rfl := Option.some.inj h
        exact hP _ (hS.sel 2 [] (by decide))
      · refine w_skip ?_
        refine seq_n hK12 ?_
        refine w_seq fun K15 hK15 => ?_
        refine w_seq fun K16 hK16 => ?_
        refine w_reg gC ?_
        try simp only [W, EE, Nat.reduceAdd, Nat.reduceBEq, hS.var 1 rfl, hS.var 0 rfl]
        refine seq_n hK16 ?_
        refine w_if ?_
        simp only [W]
        refine w_cnd h (fun hc h => ?_) (fun hc h => ?_)
        · refine w_seq fun K17 hK17 => ?_
          refine w_reg gC ?_
          try simp only [W, Nat.reduceAdd]
          refine seq_n hK17 ?_
          refine w_ret ?_
          refine seq_r hK15 ?_
          refine fin_r1 hK0 rfl ?_
          try obtain rfl := Option.some.inj h
          exact hP _ (hS.sel 2 [] (by decide))
        · refine w_skip ?_
          refine seq_n hK15 ?_
          refine w_seq fun K18 hK18 => ?_
          refine w_reg gC ?_
          try simp only [W, Nat.reduceAdd]
          refine seq_n hK18 ?_
          refine w_ret ?_
          refine fin_r1 hK0 rfl ?_
          try obtain rfl := Option.some.inj h
          exact hP _ (hS.sel 2 [] (by decide))
theorem laws_eqCaseS_w {a0 : List Case} {a1 : List Case} {r : (Bool)} (h : laws_eqCaseS a0 a1 = some r) {F : List It} {H : Heap} (hS : Own H (F)) {P : AV → Heap → Prop} (hP : ∀ H', Own H' (F) → P (.bool r) H') : ACall C 199 [.fz (a0.map e_Case), .fz (a1.map e_Case)] H P := by
  refine acall_of gC (res := [.tmp 4]) (n := 27) rfl rfl rfl rfl fun K0 hK0 => ?_
  simp only [W, Nat.reduceSub, Nat.reduceAdd, List.replicate]
  unfold laws_eqCaseS at h
  refine w_seq fun K1 hK1 => ?_
  refine w_reg gC ?_
  try simp only [W, Nat.reduceAdd]
  refine seq_n hK1 ?_
  refine w_seq fun K2 hK2 => ?_
  refine w_seq fun K3 hK3 => ?_
  refine w_reg gC ?_
  try simp only [W, EE, Nat.reduceAdd]
  refine seq_n hK3 ?_
  refine w_if ?_
  simp only [W]
  refine w_cnd h (fun hc h => ?_) (fun hc h => ?_)
  · refine w_seq fun K4 hK4 => ?_
    refine w_reg gC ?_
    try simp only [W, Nat.reduceAdd]
    refine seq_n hK4 ?_
    refine w_ret ?_
    refine seq_r hK2 ?_
    refine fin_r1 hK0 rfl ?_
    try obtain rfl := Option.some.inj h
    exact hP _ hS
  · refine w_skip ?_
    refine seq_n hK2 ?_
    refine w_seq fun K5 hK5 => ?_
    refine w_seq fun K6 hK6 => ?_
    refine w_reg gC ?_
    try simp only [W, Nat.reduceAdd]
    refine seq_n hK6 ?_
    obtain ⟨y8, hw9, g15⟩ := Option.bind_eq_some_iff.1 h
    refine w_join gC (fun s H => y8 = LR.next () ∧ s = [u, u, u, u, u, u, u, u, u, u, u, u, u, u, u, u, u, u, u, u, u, u, u, u, u, u, u] ∧ Own H (F)) (fun K10 hK10 => ?_) (fun s H hq => ?_)
    · refine w_blk fun K11 hK11 => ?_
      refine w_loop gC hw9 (fun x s H => s = [.fz (a0.map e_Case), .fz (a1.map e_Case), u, u, u, .int .i64 x, u, u, u, u, u, u, u, u, u, u, u, u, u, u, u, u, u, u, u, u, u] ∧ Own H (F)) ⟨rfl, hS⟩ (fun x7 y14 s H h hd13 hi K12 hK12 => ?_)
      skip
      try dsimp only at hi
      obtain ⟨rfl, hS⟩ := hi
      simp only [laws_eqCaseS_l0] at h
      refine w_seq fun K16 hK16 => ?_
      refine w_seq fun K17 hK17 => ?_
      refine w_reg gC ?_
      try simp only [W, EE, Nat.reduceAdd]
      refine seq_n hK17 ?_
      refine w_if ?_
      simp only [W]
      refine w_cnd h (fun hc h => ?_) (fun hc h => ?_)
      · refine w_skip ?_
        refine seq_n hK16 ?_
        refine w_seq fun K18 hK18 => ?_
        refine w_blk fun K19 hK19 => ?_
        refine w_seq fun K20 hK20 => ?_
        refine w_draw0 gC (by kernel_rfl) ?_
        try simp only [W, EE, Nat.reduceAdd]
        refine w_fz rfl rfl rfl (fun _ => rfl) h fun b21 hb21 h => ?_
        try simp only [W, EE, EN, reduceIte, Nat.reduceAdd, Nat.reduceLeDiff]
        refine w_fz rfl rfl rfl (fun _ => rfl) h fun b22 hb22 h => ?_
        try simp only [W, EE, EN, reduceIte, Nat.reduceAdd, Nat.reduceLeDiff]
        refine w_callS (rsh := [[.sc]]) (ys := [.agg [.int .i64 b21.End, .bool b21.Asks, .int .i64 b21.Final, .int .i64 b21.Said], .agg [.int .i64 b22.End, .bool b22.Asks, .int .i64 b22.Final, .int .i64 b22.Said]]) h rfl (by rfl) fun b23 hb23 h => ⟨.bool b23, laws_eqCase_w hb23 (Own.nil _) fun H hS => TV_ok rfl (TV_p rfl (TV_n rfl)), ⟨rfl, rfl, fun _ => rfl⟩, ?_⟩
        try simp only [W]
        refine seq_n hK20 ?_
        refine w_if ?_
        simp only [W]
        refine w_cnd h (fun hc h => ?_) (fun hc h => ?_)
        · refine w_seq fun K24 hK24 => ?_
          refine w_reg gC ?_
          try simp only [W, Nat.reduceAdd]
          refine seq_n hK24 ?_
          refine w_ret ?_
          refine blk_r hK19 ?_
          refine seq_r hK18 ?_
          try obtain rfl := Option.some.inj h
          obtain rfl := hd13 _ rfl
          have h : (some (LR.done false) : Option (LR Unit (Bool))) = some (LR.done false) := rfl
          refine lp_r hK12 ?_
          refine blk_r hK11 ?_
          try obtain rfl := Option.some.inj h
          obtain rfl := Option.some.inj g15
          have h : (some false : Option (Bool)) = some false := rfl
          refine cut_r hK10 ?_
          refine seq_r hK5 ?_
          refine fin_r1 hK0 rfl ?_
          try obtain rfl := Option.some.inj h
          exact hP _ hS
        · refine w_skip ?_
          refine blk_n0 hK19 ?_
          refine seq_n hK18 ?_
          refine w_reg gC ?_
          try simp only [W, EE, Nat.reduceAdd]
          exact lp_n hK12 h ⟨rfl, hS⟩
      · refine w_exit ?_
        refine seq_x hK16 ?_
        try obtain rfl := Option.some.inj h
        obtain rfl := hd13 _ rfl
        have h : (some (LR.next ()) : Option (LR Unit (Bool))) = some (LR.next ()) := rfl
        refine lp_x hK12 ?_
        refine blk_e hK11 ?_
        exact cut_n hK10 ⟨(Option.some.inj h).symm, rfl, hS⟩
    · obtain ⟨rfl, rfl, hS⟩ := hq
      replace h := g15
      try dsimp only at h
      refine seq_n hK5 ?_
      refine w_seq fun K31 hK31 => ?_
      refine w_reg gC ?_
      try simp only [W, Nat.reduceAdd]
      refine seq_n hK31 ?_
      refine w_ret ?_
      refine fin_r1 hK0 rfl ?_
      try obtain rfl := Option.some.inj h
      exact hP _ hS
theorem laws_eqSlip_w {a0 : Slip} {a1 : Slip} {r : (Bool)} (h : laws_eqSlip a0 a1 = some r) {F : List It} {H : Heap} (hS : Own H (F)) {P : AV → Heap → Prop} (hP : ∀ H', Own H' (F) → P (.bool r) H') : ACall C 255 [.agg [.int .i64 a0.Kind, .int .i64 a0.Case, .int .i64 a0.What], .agg [.int .i64 a1.Kind, .int .i64 a1.Case, .int .i64 a1.What]] H P := by
  refine acall_of gC (res := [.tmp 4]) (n := 20) rfl rfl rfl rfl fun K0 hK0 => ?_
  simp only [W, Nat.reduceSub, Nat.reduceAdd, List.replicate]
  unfold laws_eqSlip at h
  refine w_seq fun K1 hK1 => ?_
  refine w_reg gC ?_
  try simp only [W, Nat.reduceAdd]
  refine w_box hS rfl rfl rfl rfl fun ip2 wp2 H hS => ?_
  try simp only [W]
  refine w_box hS rfl rfl rfl rfl fun ip4 wp4 H hS => ?_
  try simp only [W]
  refine seq_n hK1 ?_
  refine w_seq fun K6 hK6 => ?_
  refine w_seq fun K7 hK7 => ?_
  refine w_reg gC ?_
  try simp only [W, EE, Nat.reduceAdd, Nat.reduceBEq, hS.var 1 rfl, hS.var 0 rfl]
  refine seq_n hK7 ?_
  refine w_if ?_
  simp only [W]
  refine w_cnd h (fun hc h => ?_) (fun hc h => ?_)
  · refine w_seq fun K8 hK8 => ?_
    refine w_reg gC ?_
    try simp only [W, Nat.reduceAdd]
    refine seq_n hK8 ?_
    refine w_ret ?_
    refine seq_r hK6 ?_
    refine fin_r1 hK0 rfl ?_
    try obtain rfl := Option.some.inj h
    exact hP _ (hS.sel 2 [] (by decide))
  · refine w_skip ?_
    refine seq_n hK6 ?_
    refine w_seq fun K9 hK9 => ?_
    refine w_seq fun K10 hK10 => ?_
    refine w_reg gC ?_
    try simp only [W, EE, Nat.reduceAdd, Nat.reduceBEq, hS.var 1 rfl, hS.var 0 rfl]
    refine seq_n hK10 ?_
    refine w_if ?_
    simp only [W]
    refine w_cnd h (fun hc h => ?_) (fun hc h => ?_)
    · refine w_seq fun K11 hK11 => ?_
      refine w_reg gC ?_
      try simp only [W, Nat.reduceAdd]
      refine seq_n hK11 ?_
      refine w_ret ?_
      refine seq_r hK9 ?_
      refine fin_r1 hK0 rfl ?_
      try obtain rfl := Option.some.inj h
      exact hP _ (hS.sel 2 [] (by decide))
    · refine w_skip ?_
      refine seq_n hK9 ?_
      refine w_seq fun K12 hK12 => ?_
      refine w_seq fun K13 hK13 => ?_
      refine w_reg gC ?_
      try simp only [W, EE, Nat.reduceAdd, Nat.reduceBEq, hS.var 1 rfl, hS.var 0 rfl]
      refine seq_n hK13 ?_
      refine w_if ?_
      simp only [W]
      refine w_cnd h (fun hc h => ?_) (fun hc h => ?_)
      · refine w_seq fun K14 hK14 => ?_
        refine w_reg gC ?_
        try simp only [W, Nat.reduceAdd]
        refine seq_n hK14 ?_
        refine w_ret ?_
        refine seq_r hK12 ?_
        refine fin_r1 hK0 rfl ?_
        try obtain rfl := Option.some.inj h
        exact hP _ (hS.sel 2 [] (by decide))
      · refine w_skip ?_
        refine seq_n hK12 ?_
        refine w_seq fun K15 hK15 => ?_
        refine w_reg gC ?_
        try simp only [W, Nat.reduceAdd]
        refine seq_n hK15 ?_
        refine w_ret ?_
        refine fin_r1 hK0 rfl ?_
        try obtain rfl := Option.some.inj h
        exact hP _ (hS.sel 2 [] (by decide))
theorem laws_eqSlipS_w {a0 : List Slip} {a1 : List Slip} {r : (Bool)} (h : laws_eqSlipS a0 a1 = some r) {F : List It} {H : Heap} (hS : Own H (F)) {P : AV → Heap → Prop} (hP : ∀ H', Own H' (F) → P (.bool r) H') : ACall C 200 [.fz (a0.map e_Slip), .fz (a1.map e_Slip)] H P := by
  refine acall_of gC (res := [.tmp 4]) (n := 27) rfl rfl rfl rfl fun K0 hK0 => ?_
  simp only [W, Nat.reduceSub, Nat.reduceAdd, List.replicate]
  unfold laws_eqSlipS at h
  refine w_seq fun K1 hK1 => ?_
  refine w_reg gC ?_
  try simp only [W, Nat.reduceAdd]
  refine seq_n hK1 ?_
  refine w_seq fun K2 hK2 => ?_
  refine w_seq fun K3 hK3 => ?_
  refine w_reg gC ?_
  try simp only [W, EE, Nat.reduceAdd]
  refine seq_n hK3 ?_
  refine w_if ?_
  simp only [W]
  refine w_cnd h (fun hc h => ?_) (fun hc h => ?_)
  · refine w_seq fun K4 hK4 => ?_
    refine w_reg gC ?_
    try simp only [W, Nat.reduceAdd]
    refine seq_n hK4 ?_
    refine w_ret ?_
    refine seq_r hK2 ?_
    refine fin_r1 hK0 rfl ?_
    try obtain rfl := Option.some.inj h
    exact hP _ hS
  · refine w_skip ?_
    refine seq_n hK2 ?_
    refine w_seq fun K5 hK5 => ?_
    refine w_seq fun K6 hK6 => ?_
    refine w_reg gC ?_
    try simp only [W, Nat.reduceAdd]
    refine seq_n hK6 ?_
    obtain ⟨y8, hw9, g15⟩ := Option.bind_eq_some_iff.1 h
    refine w_join gC (fun s H => y8 = LR.next () ∧ s = [u, u, u, u, u, u, u, u, u, u, u, u, u, u, u, u, u, u, u, u, u, u, u, u, u, u, u] ∧ Own H (F)) (fun K10 hK10 => ?_) (fun s H hq => ?_)
    · refine w_blk fun K11 hK11 => ?_
      refine w_loop gC hw9 (fun x s H => s = [.fz (a0.map e_Slip), .fz (a1.map e_Slip), u, u, u, .int .i64 x, u, u, u, u, u, u, u, u, u, u, u, u, u, u, u, u, u, u, u, u, u] ∧ Own H (F)) ⟨rfl, hS⟩ (fun x7 y14 s H h hd13 hi K12 hK12 => ?_)
      skip
      try dsimp only at hi
      obtain ⟨rfl, hS⟩ := hi
      simp only [laws_eqSlipS_l0] at h
      refine w_seq fun K16 hK16 => ?_
      refine w_seq fun K17 hK17 => ?_
      refine w_reg gC ?_
      try simp only [W, EE, Nat.reduceAdd]
      refine seq_n hK17 ?_
      refine w_if ?_
      simp only [W]
      refine w_cnd h (fun hc h => ?_) (fun hc h => ?_)
      · refine w_skip ?_
        refine seq_n hK16 ?_
        refine w_seq fun K18 hK18 => ?_
        refine w_blk fun K19 hK19 => ?_
        refine w_seq fun K20 hK20 => ?_
        refine w_draw0 gC (by kernel_rfl) ?_
        try simp only [W, EE, Nat.reduceAdd]
        refine w_fz rfl rfl rfl (fun _ => rfl) h fun b21 hb21 h => ?_
        try simp only [W, EE, EN, reduceIte, Nat.reduceAdd, Nat.reduceLeDiff]
        refine w_fz rfl rfl rfl (fun _ => rfl) h fun b22 hb22 h => ?_
        try simp only [W, EE, EN, reduceIte, Nat.reduceAdd, Nat.reduceLeDiff]
        refine w_callS (rsh := [[.sc]]) (ys := [.agg [.int .i64 b21.Kind, .int .i64 b21.Case, .int .i64 b21.What], .agg [.int .i64 b22.Kind, .int .i64 b22.Case, .int .i64 b22.What]]) h rfl (by rfl) fun b23 hb23 h => ⟨.bool b23, laws_eqSlip_w hb23 (Own.nil _) fun H hS => TV_ok rfl (TV_p rfl (TV_n rfl)), ⟨rfl, rfl, fun _ => rfl⟩, ?_⟩
        try simp only [W]
        refine seq_n hK20 ?_
        refine w_if ?_
        simp only [W]
        refine w_cnd h (fun hc h => ?_) (fun hc h => ?_)
        · refine w_seq fun K24 hK24 => ?_
          refine w_reg gC ?_
          try simp only [W, Nat.reduceAdd]
          refine seq_n hK24 ?_
          refine w_ret ?_
          refine blk_r hK19 ?_
          refine seq_r hK18 ?_
          try obtain rfl := Option.some.inj h
          obtain rfl := hd13 _ rfl
          have h : (some (LR.done false) : Option (LR Unit (Bool))) = some (LR.done false) := rfl
          refine lp_r hK12 ?_
          refine blk_r hK11 ?_
          try obtain rfl := Option.some.inj h
          obtain rfl := Option.some.inj g15
          have h : (some false : Option (Bool)) = some false := rfl
          refine cut_r hK10 ?_
          refine seq_r hK5 ?_
          refine fin_r1 hK0 rfl ?_
          try obtain rfl := Option.some.inj h
          exact hP _ hS
        · refine w_skip ?_
          refine blk_n0 hK19 ?_
          refine seq_n hK18 ?_
          refine w_reg gC ?_
          try simp only [W, EE, Nat.reduceAdd]
          exact lp_n hK12 h ⟨rfl, hS⟩
      · refine w_exit ?_
        refine seq_x hK16 ?_
        try obtain rfl := Option.some.inj h
        obtain rfl := hd13 _ rfl
        have h : (some (LR.next ()) : Option (LR Unit (Bool))) = some (LR.next ()) := rfl
        refine lp_x hK12 ?_
        refine blk_e hK11 ?_
        exact cut_n hK10 ⟨(Option.some.inj h).symm, rfl, hS⟩
    · obtain ⟨rfl, rfl, hS⟩ := hq
      replace h := g15
      try dsimp only at h
      refine seq_n hK5 ?_
      refine w_seq fun K31 hK31 => ?_
      refine w_reg gC ?_
      try simp only [W, Nat.reduceAdd]
      refine seq_n hK31 ?_
      refine w_ret ?_
      refine fin_r1 hK0 rfl ?_
      try obtain rfl := Option.some.inj h
      exact hP _ hS
theorem laws_eqCourt_w {a0 : Court} {a1 : Court} {r : (Bool)} (h : laws_eqCourt a0 a1 = some r) {F : List It} {H : Heap} (hS : Own H (F)) {P : AV → Heap → Prop} (hP : ∀ H', Own H' (F) → P (.bool r) H') : ACall C 97 [.agg [.int .i64 a0.Now, .fz (a0.Cases.map e_Case), .fz (a0.Line.map e_Slip)], .agg [.int .i64 a1.Now, .fz (a1.Cases.map e_Case), .fz (a1.Line.map e_Slip)]] H P := by
  refine acall_of gC (res := [.tmp 4]) (n := 22) rfl rfl rfl rfl fun K0 hK0 => ?_
  simp only [W, Nat.reduceSub, Nat.reduceAdd, List.replicate]
  unfold laws_eqCourt at h
  refine w_seq fun K1 hK1 => ?_
  refine w_reg gC ?_
  try simp only [W, Nat.reduceAdd]
  refine w_box hS rfl rfl rfl rfl fun ip2 wp2 H hS => ?_
  try simp only [W]
  refine w_box hS rfl rfl rfl rfl fun ip4 wp4 H hS => ?_
  try simp only [W]
  refine seq_n hK1 ?_
  refine w_seq fun K6 hK6 => ?_
  refine w_seq fun K7 hK7 => ?_
  refine w_reg gC ?_
  try simp only [W, EE, Nat.reduceAdd, Nat.reduceBEq, hS.var 1 rfl, hS.var 0 rfl]
  refine seq_n hK7 ?_
  refine w_if ?_
  simp only [W]
  refine w_cnd h (fun hc h => ?_) (fun hc h => ?_)
  · refine w_seq fun K8 hK8 => ?_
    refine w_reg gC ?_
    try simp only [W, Nat.reduceAdd]
    refine seq_n hK8 ?_
    refine w_ret ?_
    refine seq_r hK6 ?_
    refine fin_r1 hK0 rfl ?_
    try obtain rfl := Option.some.inj h
    exact hP _ (hS.sel 2 [] (by decide))
  · refine w_skip ?_
    refine seq_n hK6 ?_
    refine w_seq fun K9 hK9 => ?_
    refine w_seq fun K10 hK10 => ?_
    refine w_reg gC ?_
    try simp only [W, EE, Nat.reduceAdd, Nat.reduceBEq, hS.var 1 rfl, hS.var 0 rfl]
    refine w_call h fun b11 hb11 h => ?_
    refine laws_eqCaseS_w hb11 hS fun H hS => ?_
    try simp only [W]
    refine seq_n hK10 ?_
    refine w_if ?_
    simp only [W]
    refine w_cnd h (fun hc h => ?_) (fun hc h => ?_)
    · refine w_seq fun K12 hK12 => ?_
      refine w_reg gC ?_
      try simp only [W, Nat.reduceAdd]
      refine seq_n hK12 ?_
      refine w_ret ?_
      refine seq_r hK9 ?_
      refine fin_r1 hK0 rfl ?_
      try obtain rfl := Option.some.inj h
      exact hP _ (hS.sel 2 [] (by decide))
    · refine w_skip ?_
      refine seq_n hK9 ?_
      refine w_seq fun K13 hK13 => ?_
      refine w_seq fun K14 hK14 => ?_
      refine w_reg gC ?_
      try simp only [W, EE, Nat.reduceAdd, Nat.reduceBEq, hS.var 1 rfl, hS.var 0 rfl]
      refine w_call h fun b15 hb15 h => ?_
      refine laws_eqSlipS_w hb15 hS fun H hS => ?_
      try simp only [W]
      refine seq_n hK14 ?_
      refine w_if ?_
      simp only [W]
      refine w_cnd h (fun hc h => ?_) (fun hc h => ?_)
      · refine w_seq fun K16 hK16 => ?_
        refine w_reg gC ?_
        try simp only [W, Nat.reduceAdd]
        refine seq_n hK16 ?_
        refine w_ret ?_
        refine seq_r hK13 ?_
        refine fin_r1 hK0 rfl ?_
        try obtain rfl := Option.some.inj h
        exact hP _ (hS.sel 2 [] (by decide))
      · refine w_skip ?_
        refine seq_n hK13 ?_
        refine w_seq fun K17 hK17 => ?_
        refine w_reg gC ?_
        try simp only [W, Nat.reduceAdd]
        refine seq_n hK17 ?_
        refine w_ret ?_
        refine fin_r1 hK0 rfl ?_
        try obtain rfl := Option.some.inj h
        exact hP _ (hS.sel 2 [] (by decide))
theorem laws_markCaseS_w {a0 : List Case} {a1 : Int} {m0 : AV} {r : (Int × List Case)} (h : laws_markCaseS a0 a1 = some r) {F : List It} {H : Heap} (hS : Own H (⟨m0, 4, a0.map e_Case⟩ :: F)) (qm0 : isSl m0) {P : AV → Heap → Prop} (hP : ∀ H', Own H' (⟨m0, 4, r.2.map e_Case⟩ :: F) → P (.int .i64 r.1) H') : ACall C 201 [m0, .int .i64 a1] H P := by
  refine acall_of gC (res := [.tmp 4]) (n := 43) rfl rfl rfl rfl fun K0 hK0 => ?_
  simp only [W, Nat.reduceSub, Nat.reduceAdd, List.replicate]
  unfold laws_markCaseS at h
  refine w_seq fun K1 hK1 => ?_
  refine w_reg gC ?_
  try simp only [W, Nat.reduceAdd]
  refine seq_n hK1 ?_
  refine w_seq fun K2 hK2 => ?_
  refine w_seq fun K3 hK3 => ?_
  refine w_reg gC ?_
  try simp only [W, Nat.reduceAdd]
  refine seq_n hK3 ?_
  obtain ⟨y9, hw10, g16⟩ := Option.bind_eq_some_iff.1 h
  refine w_join gC (fun s H => ∃ x7 : Int, ∃ x8 : List Case, y9 = (x7, x8) ∧ s = [u, .int .i64 x7, u, u, u, u, u, u, u, u, u, u, u, u, u, u, u, u, u, u, u, u, u, u, u, u, u, u, u, u, u, u, u, u, u, u, u, u, u, u, u, u, u] ∧ Own H (⟨m0, 4, x8.map e_Case⟩ :: F)) (fun K11 hK11 => ?_) (fun s H hq => ?_)
  · refine w_blk fun K12 hK12 => ?_
    refine w_loop gC hw10 (fun x s H => match x with | (x4, x5, x6) => s = [m0, .int .i64 x5, u, u, u, .int .i64 x6, u, u, u, u, u, u, u, u, u, u, u, u, u, u, u, u, u, u, u, u, u, u, u, u, u, u, u, u, u, u, u, u, u, u, u, u, u] ∧ Own H (⟨m0, 4, x4.map e_Case⟩ :: F)) ⟨rfl, hS⟩ (fun x y15 s H h hd14 hi K13 hK13 => ?_)
    obtain ⟨x4, x5, x6⟩ := x
    try dsimp only at hi
    obtain ⟨rfl, hS⟩ := hi
    simp only [laws_markCaseS_l0] at h
    refine w_seq fun K17 hK17 => ?_
    refine w_seq fun K18 hK18 => ?_
    refine w_reg gC ?_
    try simp only [W, EE, Nat.reduceAdd]
    refine w_len 0 hS rfl qm0 rfl ?_
    try simp only [W, EE]
    refine seq_n hK18 ?_
    refine w_if ?_
    simp only [W]
    refine w_cnd h (fun hc h => ?_) (fun hc h => ?_)
    · refine w_skip ?_
      refine seq_n hK17 ?_
      refine w_seq fun K19 hK19 => ?_
      refine w_blk fun K20 hK20 => ?_
      refine w_seq fun K21 hK21 => ?_
      refine w_reg gC ?_
      try simp only [W, EE, Nat.reduceAdd]
      refine w_ow 0 hS rfl rfl rfl rfl rfl h (fun b22 in23 wn23 on23 hb22 h en23 => ?_) qm0.ne
      obtain ⟨kn23, hbn23, hen23⟩ := hS.elem 0 rfl en23 hb22
      try simp only [W, EE, Nat.reduceAdd, Nat.reduceBEq, hbn23]
      refine w_ste (a := .int .i64 x5) (y' := (⟨x5, b22.Asks, b22.Final, b22.Said⟩ : Case)) 0 hS rfl en23 hb22 rfl rfl rfl rfl rfl rfl rfl fun H hS => ?_
      try simp only [W]
      refine seq_n hK21 ?_
      refine w_seq fun K24 hK24 => ?_
      refine w_reg gC ?_
      try simp only [W, EE, Nat.reduceAdd]
      refine seq_n hK24 ?_
      refine w_seq fun K25 hK25 => ?_
      refine w_reg gC ?_
      try simp only [W, EE, Nat.reduceAdd]
      rw [md_lit _ _ rfl, Option.map_some, resV_s]
      try simp only [W, EE]
      refine w_ow 0 hS rfl rfl rfl rfl rfl h (fun b26 in27 wn27 on27 hb26 h en27 => ?_) qm0.ne
      obtain ⟨kn27, hbn27, hen27⟩ := hS.elem 0 rfl en27 hb26
      try simp only [W, EE, Nat.reduceAdd, Nat.reduceBEq, hbn27]
      refine w_ste (a := .bool ((Int.tmod (IntKind.i64.wrap (x5 + 1)) 3) == 0)) (y' := (⟨b26.End, ((Int.tmod (IntKind.i64.wrap (x5 + 1)) 3) == 0), b26.Final, b26.Said⟩ : Case)) 0 hS rfl en27 hb26 rfl rfl rfl rfl rfl rfl rfl fun H hS => ?_
      try simp only [W]
      refine seq_n hK25 ?_
      refine w_seq fun K28 hK28 => ?_
      refine w_reg gC ?_
      try simp only [W, EE, Nat.reduceAdd]
      refine seq_n hK28 ?_
      refine w_seq fun K29 hK29 => ?_
      refine w_reg gC ?_
      try simp only [W, EE, Nat.reduceAdd]
      refine w_ow 0 hS rfl rfl rfl rfl rfl h (fun b30 in31 wn31 on31 hb30 h en31 => ?_) qm0.ne
      obtain ⟨kn31, hbn31, hen31⟩ := hS.elem 0 rfl en31 hb30
      try simp only [W, EE, Nat.reduceAdd, Nat.reduceBEq, hbn31]
      refine w_ste (a := .int .i64 (IntKind.i64.wrap ((IntKind.i64.wrap (x5 + 1)) + 1))) (y' := (⟨b30.End, b30.Asks, (IntKind.i64.wrap ((IntKind.i64.wrap (x5 + 1)) + 1)), b30.Said⟩ : Case)) 0 hS rfl en31 hb30 rfl rfl rfl rfl rfl rfl rfl fun H hS => ?_
      try simp only [W]
      refine seq_n hK29 ?_
      refine w_seq fun K32 hK32 => ?_
      refine w_reg gC ?_
      try simp only [W, EE, Nat.reduceAdd]
      refine seq_n hK32 ?_
      refine w_seq fun K33 hK33 => ?_
      refine w_reg gC ?_
      try simp only [W, EE, Nat.reduceAdd]
      refine w_ow 0 hS rfl rfl rfl rfl rfl h (fun b34 in35 wn35 on35 hb34 h en35 => ?_) qm0.ne
      obtain ⟨kn35, hbn35, hen35⟩ := hS.elem 0 rfl en35 hb34
      try simp only [W, EE, Nat.reduceAdd, Nat.reduceBEq, hbn35]
      refine w_ste (a := .int .i64 (IntKind.i64.wrap ((IntKind.i64.wrap ((IntKind.i64.wrap (x5 + 1)) + 1)) + 1))) (y' := (⟨b34.End, b34.Asks, b34.Final, (IntKind.i64.wrap ((IntKind.i64.wrap ((IntKind.i64.wrap (x5 + 1)) + 1)) + 1))⟩ : Case)) 0 hS rfl en35 hb34 rfl rfl rfl rfl rfl rfl rfl fun H hS => ?_
      try simp only [W]
      refine seq_n hK33 ?_
      refine w_reg gC ?_
      try simp only [W, EE, Nat.reduceAdd]
      refine blk_n0 hK20 ?_
      refine seq_n hK19 ?_
      refine w_reg gC ?_
      try simp only [W, EE, Nat.reduceAdd]
      exact lp_n hK13 h ⟨rfl, hS⟩
    · refine w_exit ?_
      refine seq_x hK17 ?_
      try obtain rfl := Option.some.inj h
      obtain rfl := hd14 _ rfl
      have h : (some (x5, x4) : Option (Int × (List Case))) = some (x5, x4) := rfl
      refine lp_x hK13 ?_
      refine blk_e hK12 ?_
      exact cut_n hK11 ⟨_, _, (Option.some.inj h).symm, rfl, hS⟩
  · obtain ⟨x7, x8, rfl, rfl, hS⟩ := hq
    replace h := g16
    try dsimp only at h
    refine seq_n hK2 ?_
    refine w_seq fun K38 hK38 => ?_
    refine w_reg gC ?_
    try simp only [W, Nat.reduceAdd]
    refine seq_n hK38 ?_
    refine w_ret ?_
    refine fin_r1 hK0 rfl ?_
    try obtain rfl := Option.some.inj h
    exact hP _ hS
theorem laws_markSlipS_w {a0 : List Slip} {a1 : Int} {m0 : AV} {r : (Int × List Slip)} (h : laws_markSlipS a0 a1 = some r) {F : List It} {H : Heap} (hS : Own H (⟨m0, 3, a0.map e_Slip⟩ :: F)) (qm0 : isSl m0) {P : AV → Heap → Prop} (hP : ∀ H', Own H' (⟨m0, 3, r.2.map e_Slip⟩ :: F) → P (.int .i64 r.1) H') : ACall C 202 [m0, .int .i64 a1] H P := by
  refine acall_of gC (res := [.tmp 4]) (n := 34) rfl rfl rfl rfl fun K0 hK0 => ?_
  simp only [W, Nat.reduceSub, Nat.reduceAdd, List.replicate]
  unfold laws_markSlipS at h
  refine w_seq fun K1 hK1 => ?_
  refine w_reg gC ?_
  try simp only [W, Nat.reduceAdd]
  refine seq_n hK1 ?_
  refine w_seq fun K2 hK2 => ?_
  refine w_seq fun K3 hK3 => ?_
  refine w_reg gC ?_
  try simp only [W, Nat.reduceAdd]
  refine seq_n hK3 ?_
  obtain ⟨y9, hw10, g16⟩ := Option.bind_eq_some_iff.1 h
  refine w_join gC (fun s H => ∃ x7 : Int, ∃ x8 : List Slip, y9 = (x7, x8) ∧ s = [u, .int .i64 x7, u, u, u, u, u, u, u, u, u, u, u, u, u, u, u, u, u, u, u, u, u, u, u, u, u, u, u, u, u, u, u, u] ∧ Own H (⟨m0, 3, x8.map e_Slip⟩ :: F)) (fun K11 hK11 => ?_) (fun s H hq => ?_)
  · refine w_blk fun K12 hK12 => ?_
    refine w_loop gC hw10 (fun x s H => match x with | (x4, x5, x6) => s = [m0, .int .i64 x5, u, u, u, .int .i64 x6, u, u, u, u, u, u, u, u, u, u, u, u, u, u, u, u, u, u, u, u, u, u, u, u, u, u, u, u] ∧ Own H (⟨m0, 3, x4.map e_Slip⟩ :: F)) ⟨rfl, hS⟩ (fun x y15 s H h hd14 hi K13 hK13 => ?_)
    obtain ⟨x4, x5, x6⟩ := x
    try dsimp only at hi
    obtain ⟨rfl, hS⟩ := hi
    simp only [laws_markSlipS_l0] at h
    refine w_seq fun K17 hK17 => ?_
    refine w_seq fun K18 hK18 => ?_
    refine w_reg gC ?_
    try simp only [W, EE, Nat.reduceAdd]
    refine w_len 0 hS rfl qm0 rfl ?_
    try simp only [W, EE]
    refine seq_n hK18 ?_
    refine w_if ?_
    simp only [W]
    refine w_cnd h (fun hc h => ?_) (fun hc h => ?_)
    · refine w_skip ?_
      refine seq_n hK17 ?_
      refine w_seq fun K19 hK19 => ?_
      refine w_blk fun K20 hK20 => ?_
      refine w_seq fun K21 hK21 => ?_
      refine w_reg gC ?_
      try simp only [W, EE, Nat.reduceAdd]
      refine w_ow 0 hS rfl rfl rfl rfl rfl h (fun b22 in23 wn23 on23 hb22 h en23 => ?_) qm0.ne
      obtain ⟨kn23, hbn23, hen23⟩ := hS.elem 0 rfl en23 hb22
      try simp only [W, EE, Nat.reduceAdd, Nat.reduceBEq, hbn23]
      refine w_ste (a := .int .i64 x5) (y' := (⟨x5, b22.Case, b22.What⟩ : Slip)) 0 hS rfl en23 hb22 rfl rfl rfl rfl rfl rfl rfl fun H hS => ?_
      try simp only [W]
      refine seq_n hK21 ?_
      refine w_seq fun K24 hK24 => ?_
      refine w_reg gC ?_
      try simp only [W, EE, Nat.reduceAdd]
      refine seq_n hK24 ?_
      refine w_seq fun K25 hK25 => ?_
      refine w_reg gC ?_
      try simp only [W, EE, Nat.reduceAdd]
      refine w_ow 0 hS rfl rfl rfl rfl rfl h (fun b26 in27 wn27 on27 hb26 h en27 => ?_) qm0.ne
      obtain ⟨kn27, hbn27, hen27⟩ := hS.elem 0 rfl en27 hb26
      try simp only [W, EE, Nat.reduceAdd, Nat.reduceBEq, hbn27]
      refine w_ste (a := .int .i64 (IntKind.i64.wrap (x5 + 1))) (y' := (⟨b26.Kind, (IntKind.i64.wrap (x5 + 1)), b26.What⟩ : Slip)) 0 hS rfl en27 hb26 rfl rfl rfl rfl rfl rfl rfl fun H hS => ?_
      try simp only [W]
      refine seq_n hK25 ?_
      refine w_seq fun K28 hK28 => ?_
      refine w_reg gC ?_
      try simp only [W, EE, Nat.reduceAdd]
      refine seq_n hK28 ?_
      refine w_seq fun K29 hK29 => ?_
      refine w_reg gC ?_
      try simp only [W, EE, Nat.reduceAdd]
      refine w_ow 0 hS rfl rfl rfl rfl rfl h (fun b30 in31 wn31 on31 hb30 h en31 => ?_) qm0.ne
      obtain ⟨kn31, hbn31, hen31⟩ := hS.elem 0 rfl en31 hb30
      try simp only [W, EE, Nat.reduceAdd, Nat.reduceBEq, hbn31]
      refine w_ste (a := .int .i64 (IntKind.i64.wrap ((IntKind.i64.wrap (x5 + 1)) + 1))) (y' := (⟨b30.Kind, b30.Case, (IntKind.i64.wrap ((IntKind.i64.wrap (x5 + 1)) + 1))⟩ : Slip)) 0 hS rfl en31 hb30 rfl rfl rfl rfl rfl rfl rfl fun H hS => ?_
      try simp only [W]
      refine seq_n hK29 ?_
      refine w_reg gC ?_
      try simp only [W, EE, Nat.reduceAdd]
      refine blk_n0 hK20 ?_
      refine seq_n hK19 ?_
      refine w_reg gC ?_
      try simp only [W, EE, Nat.reduceAdd]
      exact lp_n hK13 h ⟨rfl, hS⟩
    · refine w_exit ?_
      refine seq_x hK17 ?_
      try obtain rfl := Option.some.inj h
      obtain rfl := hd14 _ rfl
      have h : (some (x5, x4) : Option (Int × (List Slip))) = some (x5, x4) := rfl
      refine lp_x hK13 ?_
      refine blk_e hK12 ?_
      exact cut_n hK11 ⟨_, _, (Option.some.inj h).symm, rfl, hS⟩
  · obtain ⟨x7, x8, rfl, rfl, hS⟩ := hq
    replace h := g16
    try dsimp only at h
    refine seq_n hK2 ?_
    refine w_seq fun K34 hK34 => ?_
    refine w_reg gC ?_
    try simp only [W, Nat.reduceAdd]
    refine seq_n hK34 ?_
    refine w_ret ?_
    refine fin_r1 hK0 rfl ?_
    try obtain rfl := Option.some.inj h
    exact hP _ hS
theorem laws_markCourt_w {a0 : Court} {a1 : Int} {m1 : AV} {m2 : AV} {r : (Int × List Case × List Slip)} (h : laws_markCourt a0 a1 = some r) {F : List It} {H : Heap} (hS : Own H (⟨m1, 4, a0.Cases.map e_Case⟩ :: ⟨m2, 3, a0.Line.map e_Slip⟩ :: F)) (qm1 : isSl m1) (qm2 : isSl m2) {P : AV → Heap → Prop} (hP : ∀ H', Own H' (⟨m1, 4, r.2.1.map e_Case⟩ :: ⟨m2, 3, r.2.2.map e_Slip⟩ :: F) → P (.int .i64 r.1) H') : ACall C 98 [.agg [.int .i64 a0.Now, m1, m2], .int .i64 a1] H P := by
  refine acall_of gC (res := [.tmp 4]) (n := 14) rfl rfl rfl rfl fun K0 hK0 => ?_
  simp only [W, Nat.reduceSub, Nat.reduceAdd, List.replicate]
  unfold laws_markCourt at h
  refine w_seq fun K1 hK1 => ?_
  refine w_reg gC ?_
  try simp only [W, Nat.reduceAdd]
  refine w_box hS rfl rfl rfl (by simp only [W, storA, List.all_cons, List.all_nil, qm1.stor, qm2.stor]; rfl) fun ip2 wp2 H hS => ?_
  try simp only [W]
  refine seq_n hK1 ?_
  refine w_seq fun K4 hK4 => ?_
  refine w_reg gC ?_
  try simp only [W, EE, Nat.reduceAdd, Nat.reduceBEq, hS.var 0 rfl]
  refine w_call h fun b5 hb5 h => ?_
  obtain ⟨b6, b7⟩ := b5
  try dsimp only at h
  refine laws_markCaseS_w hb5 (hS.sel 3 [1, 0, 2] (by decide)) qm1 fun H hS => ?_
  try simp only [W]
  refine seq_n hK4 ?_
  refine w_seq fun K8 hK8 => ?_
  refine w_reg gC ?_
  try simp only [W, EE, Nat.reduceAdd, Nat.reduceBEq, hS.var 1 rfl]
  refine w_call h fun b9 hb9 h => ?_
  obtain ⟨b10, b11⟩ := b9
  try dsimp only at h
  refine laws_markSlipS_w hb9 (hS.sel 3 [2, 0, 1] (by decide)) qm2 fun H hS => ?_
  try simp only [W]
  refine seq_n hK8 ?_
  refine w_seq fun K12 hK12 => ?_
  refine w_reg gC ?_
  try simp only [W, Nat.reduceAdd]
  refine seq_n hK12 ?_
  refine w_ret ?_
  refine fin_r1 hK0 rfl ?_
  try obtain rfl := Option.some.inj h
  exact hP _ (hS.sel 3 [1, 0] (by decide))
theorem laws_heldCaseS_w {a0 : List Case} {a1 : Int} {r : (Int)} (h : laws_heldCaseS a0 a1 = some r) {F : List It} {H : Heap} (hS : Own H (F)) {P : AV → Heap → Prop} (hP : ∀ H', Own H' (F) → P (.int .i64 r) H') : ACall C 203 [.fz (a0.map e_Case), .int .i64 a1] H P := by
  refine acall_of gC (res := [.tmp 4]) (n := 51) rfl rfl rfl rfl fun K0 hK0 => ?_
  simp only [W, Nat.reduceSub, Nat.reduceAdd, List.replicate]
  unfold laws_heldCaseS at h
  refine w_seq fun K1 hK1 => ?_
  refine w_reg gC ?_
  try simp only [W, Nat.reduceAdd]
  refine seq_n hK1 ?_
  refine w_seq fun K2 hK2 => ?_
  refine w_seq fun K3 hK3 => ?_
  refine w_reg gC ?_
  try simp only [W, Nat.reduceAdd]
  refine seq_n hK3 ?_
  obtain ⟨y7, hw8, g14⟩ := Option.bind_eq_some_iff.1 h
  refine w_join gC (fun s H => ∃ x6 : Int, y7 = LR.next (x6) ∧ s = [u, .int .i64 x6, u, u, u, u, u, u, u, u, u, u, u, u, u, u, u, u, u, u, u, u, u, u, u, u, u, u, u, u, u, u, u, u, u, u, u, u, u, u, u, u, u, u, u, u, u, u, u, u, u] ∧ Own H (F)) (fun K9 hK9 => ?_) (fun s H hq => ?_)
  · refine w_blk fun K10 hK10 => ?_
    refine w_loop gC hw8 (fun x s H => match x with | (x4, x5) => s = [.fz (a0.map e_Case), .int .i64 x4, u, u, u, .int .i64 x5, u, u, u, u, u, u, u, u, u, u, u, u, u, u, u, u, u, u, u, u, u, u, u, u, u, u, u, u, u, u, u, u, u, u, u, u, u, u, u, u, u, u, u, u, u] ∧ Own H (F)) ⟨rfl, hS⟩ (fun x y13 s H h hd12 hi K11 hK11 => ?_)
    obtain ⟨x4, x5⟩ := x
    try dsimp only at hi
    obtain ⟨rfl, hS⟩ := hi
    simp only [laws_heldCaseS_l0] at h
    refine w_seq fun K15 hK15 => ?_
    refine w_seq fun K16 hK16 => ?_
    refine w_reg gC ?_
    try simp only [W, EE, Nat.reduceAdd]
    refine seq_n hK16 ?_
    refine w_if ?_
    simp only [W]
    refine w_cnd h (fun hc h => ?_) (fun hc h => ?_)
    · refine w_skip ?_
      refine seq_n hK15 ?_
      refine w_seq fun K17 hK17 => ?_
      refine w_blk fun K18 hK18 => ?_
      refine w_seq fun K19 hK19 => ?_
      refine w_seq fun K20 hK20 => ?_
      refine w_reg gC ?_
      try simp only [W, EE, Nat.reduceAdd]
      refine w_fz rfl rfl rfl (fun _ => rfl) h fun b21 hb21 h => ?_
      try simp only [W, EE, EN, Nat.reduceAdd, Nat.reduceBEq]
      refine seq_n hK20 ?_
      refine w_if ?_
      simp only [W]
      refine w_cnd h (fun hc h => ?_) (fun hc h => ?_)
      · refine w_seq fun K22 hK22 => ?_
        refine w_reg gC ?_
        try simp only [W, Nat.reduceAdd]
        refine seq_n hK22 ?_
        refine w_ret ?_
        refine seq_r hK19 ?_
        refine blk_r hK18 ?_
        refine seq_r hK17 ?_
        try obtain rfl := Option.some.inj h
        obtain rfl := hd12 _ rfl
        have h : (some (LR.done (-1)) : Option (LR (Int) (Int))) = some (LR.done (-1)) := rfl
        refine lp_r hK11 ?_
        refine blk_r hK10 ?_
        try obtain rfl := Option.some.inj h
        obtain rfl := Option.some.inj g14
        have h : (some (-1) : Option (Int)) = some (-1) := rfl
        refine cut_r hK9 ?_
        refine seq_r hK2 ?_
        refine fin_r1 hK0 rfl ?_
        try obtain rfl := Option.some.inj h
        exact hP _ hS
      · refine w_skip ?_
        refine seq_n hK19 ?_
        refine w_seq fun K27 hK27 => ?_
        refine w_reg gC ?_
        try simp only [W, EE, Nat.reduceAdd]
        refine seq_n hK27 ?_
        refine w_seq fun K28 hK28 => ?_
        refine w_seq fun K29 hK29 => ?_
        refine w_reg gC ?_
        try simp only [W, EE, Nat.reduceAdd]
        refine w_fz rfl rfl rfl (fun _ => rfl) h fun b30 hb30 h => ?_
        try simp only [W, EE, EN, Nat.reduceAdd, Nat.reduceBEq]
        rw [md_lit _ _ rfl, Option.map_some, resV_s]
        try simp only [W, EE]
        rw [b_bneq _ _ _ _ (h := rfl) rfl, resV_s]
        try simp only [W]
        refine seq_n hK29 ?_
        refine w_if ?_
        simp only [W]
        refine w_cnd h (fun hc h => ?_) (fun hc h => ?_)
        · refine w_seq fun K31 hK31 => ?_
          refine w_reg gC ?_
          try simp only [W, Nat.reduceAdd]
          refine seq_n hK31 ?_
          refine w_ret ?_
          refine seq_r hK28 ?_
          refine blk_r hK18 ?_
          refine seq_r hK17 ?_
          try obtain rfl := Option.some.inj h
          obtain rfl := hd12 _ rfl
          have h : (some (LR.done (-1)) : Option (LR (Int) (Int))) = some (LR.done (-1)) := rfl
          refine lp_r hK11 ?_
          refine blk_r hK10 ?_
          try obtain rfl := Option.some.inj h
          obtain rfl := Option.some.inj g14
          have h : (some (-1) : Option (Int)) = some (-1) := rfl
          refine cut_r hK9 ?_
          refine seq_r hK2 ?_
          refine fin_r1 hK0 rfl ?_
          try obtain rfl := Option.some.inj h
          exact hP _ hS
        · refine w_skip ?_
          refine seq_n hK28 ?_
          refine w_seq fun K36 hK36 => ?_
          refine w_reg gC ?_
          try simp only [W, EE, Nat.reduceAdd]
          refine seq_n hK36 ?_
          refine w_seq fun K37 hK37 => ?_
          refine w_seq fun K38 hK38 => ?_
          refine w_reg gC ?_
          try simp only [W, EE, Nat.reduceAdd]
          refine w_fz rfl rfl rfl (fun _ => rfl) h fun b39 hb39 h => ?_
          try simp only [W, EE, EN, Nat.reduceAdd, Nat.reduceBEq]
          refine seq_n hK38 ?_
          refine w_if ?_
          simp only [W]
          refine w_cnd h (fun hc h => ?_) (fun hc h => ?_)
          · refine w_seq fun K40 hK40 => ?_
            refine w_reg gC ?_
            try simp only [W, Nat.reduceAdd]
            refine seq_n hK40 ?_
            refine w_ret ?_
            refine seq_r hK37 ?_
            refine blk_r hK18 ?_
            refine seq_r hK17 ?_
            try obtain rfl := Option.some.inj h
            obtain rfl := hd12 _ rfl
            have h : (some (LR.done (-1)) : Option (LR (Int) (Int))) = some (LR.done (-1)) := rfl
            refine lp_r hK11 ?_
            refine blk_r hK10 ?_
            try obtain rfl := Option.some.inj h
            obtain rfl := Option.some.inj g14
            have h : (some (-1) : Option (Int)) = some (-1) := rfl
            refine cut_r hK9 ?_
            refine seq_r hK2 ?_
            refine fin_r1 hK0 rfl ?_
            try obtain rfl := Option.some.inj h
            exact hP _ hS
          · refine w_skip ?_
            refine seq_n hK37 ?_
            refine w_seq fun K45 hK45 => ?_
            refine w_reg gC ?_
            try simp only [W, EE, Nat.reduceAdd]
            refine seq_n hK45 ?_
            refine w_seq fun K46 hK46 => ?_
            refine w_seq fun K47 hK47 => ?_
            refine w_reg gC ?_
            try simp only [W, EE, Nat.reduceAdd]
            refine w_fz rfl rfl rfl (fun _ => rfl) h fun b48 hb48 h => ?_
            try simp only [W, EE, EN, Nat.reduceAdd, Nat.reduceBEq]
            refine seq_n hK47 ?_
            refine w_if ?_
            simp only [W]
            refine w_cnd h (fun hc h => ?_) (fun hc h => ?_)
            · refine w_seq fun K49 hK49 => ?_
              refine w_reg gC ?_
              try simp only [W, Nat.reduceAdd]
              refine seq_n hK49 ?_
              refine w_ret ?_
              refine seq_r hK46 ?_
              refine blk_r hK18 ?_
              refine seq_r hK17 ?_
              try obtain rfl := Option.some.inj h
              obtain rfl := hd12 _ rfl
              have h : (some (LR.done (-1)) : Option (LR (Int) (Int))) = some (LR.done (-1)) := rfl
              refine lp_r hK11 ?_
              refine blk_r hK10 ?_
              try obtain rfl := Option.some.inj h
              obtain rfl := Option.some.inj g14
              have h : (some (-1) : Option (Int)) = some (-1) := rfl
              refine cut_r hK9 ?_
              refine seq_r hK2 ?_
              refine fin_r1 hK0 rfl ?_
              try obtain rfl := Option.some.inj h
              exact hP _ hS
            · refine w_skip ?_
              refine seq_n hK46 ?_
              refine w_reg gC ?_
              try simp only [W, EE, Nat.reduceAdd]
              refine blk_n0 hK18 ?_
              refine seq_n hK17 ?_
              refine w_reg gC ?_
              try simp only [W, EE, Nat.reduceAdd]
              exact lp_n hK11 h ⟨rfl, hS⟩
    · refine w_exit ?_
      refine seq_x hK15 ?_
      try obtain rfl := Option.some.inj h
      obtain rfl := hd12 _ rfl
      have h : (some (LR.next (x4)) : Option (LR (Int) (Int))) = some (LR.next (x4)) := rfl
      refine lp_x hK11 ?_
      refine blk_e hK10 ?_
      exact cut_n hK9 ⟨_, (Option.some.inj h).symm, rfl, hS⟩
  · obtain ⟨x6, ey, rfl, hS⟩ := hq; obtain rfl := ey.symm
    replace h := g14
    try dsimp only at h
    refine seq_n hK2 ?_
    refine w_seq fun K56 hK56 => ?_
    refine w_reg gC ?_
    try simp only [W, Nat.reduceAdd]
    refine seq_n hK56 ?_
    refine w_ret ?_
    refine fin_r1 hK0 rfl ?_
    try obtain rfl := Option.some.inj h
    exact hP _ hS
theorem laws_heldSlipS_w {a0 : List Slip} {a1 : Int} {r : (Int)} (h : laws_heldSlipS a0 a1 = some r) {F : List It} {H : Heap} (hS : Own H (F)) {P : AV → Heap → Prop} (hP : ∀ H', Own H' (F) → P (.int .i64 r) H') : ACall C 204 [.fz (a0.map e_Slip), .int .i64 a1] H P := by
  refine acall_of gC (res := [.tmp 4]) (n := 40) rfl rfl rfl rfl fun K0 hK0 => ?_
  simp only [W, Nat.reduceSub, Nat.reduceAdd, List.replicate]
  unfold laws_heldSlipS at h
  refine w_seq fun K1 hK1 => ?_
  refine w_reg gC ?_
  try simp only [W, Nat.reduceAdd]
  refine seq_n hK1 ?_
  refine w_seq fun K2 hK2 => ?_
  refine w_seq fun K3 hK3 => ?_
  refine w_reg gC ?_
  try simp only [W, Nat.reduceAdd]
  refine seq_n hK3 ?_
  obtain ⟨y7, hw8, g14⟩ := Option.bind_eq_some_iff.1 h
  refine w_join gC (fun s H => ∃ x6 : Int, y7 = LR.next (x6) ∧ s = [u, .int .i64 x6, u, u, u, u, u, u, u, u, u, u, u, u, u, u, u, u, u, u, u, u, u, u, u, u, u, u, u, u, u, u, u, u, u, u, u, u, u, u] ∧ Own H (F)) (fun K9 hK9 => ?_) (fun s H hq => ?_)
  · refine w_blk fun K10 hK10 => ?_
    refine w_loop gC hw8 (fun x s H => match x with | (x4, x5) => s = [.fz (a0.map e_Slip), .int .i64 x4, u, u, u, .int .i64 x5, u, u, u, u, u, u, u, u, u, u, u, u, u, u, u, u, u, u, u, u, u, u, u, u, u, u, u, u, u, u, u, u, u, u] ∧ Own H (F)) ⟨rfl, hS⟩ (fun x y13 s H h hd12 hi K11 hK11 => ?_)
    obtain ⟨x4, x5⟩ := x
    try dsimp only at hi
    obtain ⟨rfl, hS⟩ := hi
    simp only [laws_heldSlipS_l0] at h
    refine w_seq fun K15 hK15 => ?_
    refine w_seq fun K16 hK16 => ?_
    refine w_reg gC ?_
    try simp only [W, EE, Nat.reduceAdd]
    refine seq_n hK16 ?_
    refine w_if ?_
    simp only [W]
    refine w_cnd h (fun hc h => ?_) (fun hc h => ?_)
    · refine w_skip ?_
      refine seq_n hK15 ?_
      refine w_seq fun K17 hK17 => ?_
      refine w_blk fun K18 hK18 => ?_
      refine w_seq fun K19 hK19 => ?_
      refine w_seq fun K20 hK20 => ?_
      refine w_reg gC ?_
      try simp only [W, EE, Nat.reduceAdd]
      refine w_fz rfl rfl rfl (fun _ => rfl) h fun b21 hb21 h => ?_
      try simp only [W, EE, EN, Nat.reduceAdd, Nat.reduceBEq]
      refine seq_n hK20 ?_
      refine w_if ?_
      simp only [W]
      refine w_cnd h (fun hc h => ?_) (fun hc h => ?_)
      · refine w_seq fun K22 hK22 => ?_
        refine w_reg gC ?_
        try simp only [W, Nat.reduceAdd]
        refine seq_n hK22 ?_
        refine w_ret ?_
        refine seq_r hK19 ?_
        refine blk_r hK18 ?_
        refine seq_r hK17 ?_
        try obtain rfl := Option.some.inj h
        obtain rfl := hd12 _ rfl
        have h : (some (LR.done (-1)) : Option (LR (Int) (Int))) = some (LR.done (-1)) := rfl
        refine lp_r hK11 ?_
        refine blk_r hK10 ?_
        try obtain rfl := Option.some.inj h
        obtain rfl := Option.some.inj g14
        have h : (some (-1) : Option (Int)) = some (-1) := rfl
        refine cut_r hK9 ?_
        refine seq_r hK2 ?_
        refine fin_r1 hK0 rfl ?_
        try obtain rfl := Option.some.inj h
        exact hP _ hS
      · refine w_skip ?_
        refine seq_n hK19 ?_
        refine w_seq fun K27 hK27 => ?_
        refine w_reg gC ?_
        try simp only [W, EE, Nat.reduceAdd]
        refine seq_n hK27 ?_
        refine w_seq fun K28 hK28 => ?_
        refine w_seq fun K29 hK29 => ?_
        refine w_reg gC ?_
        try simp only [W, EE, Nat.reduceAdd]
        refine w_fz rfl rfl rfl (fun _ => rfl) h fun b30 hb30 h => ?_
        try simp only [W, EE, EN, Nat.reduceAdd, Nat.reduceBEq]
        refine seq_n hK29 ?_
        refine w_if ?_
        simp only [W]
        refine w_cnd h (fun hc h => ?_) (fun hc h => ?_)
        · refine w_seq fun K31 hK31 => ?_
          refine w_reg gC ?_
          try simp only [W, Nat.reduceAdd]
          refine seq_n hK31 ?_
          refine w_ret ?_
          refine seq_r hK28 ?_
          refine blk_r hK18 ?_
          refine seq_r hK17 ?_
          try obtain rfl := Option.some.inj h
          obtain rfl := hd12 _ rfl
          have h : (some (LR.done (-1)) : Option (LR (Int) (Int))) = some (LR.done (-1)) := rfl
          refine lp_r hK11 ?_
          refine blk_r hK10 ?_
          try obtain rfl := Option.some.inj h
          obtain rfl := Option.some.inj g14
          have h : (some (-1) : Option (Int)) = some (-1) := rfl
          refine cut_r hK9 ?_
          refine seq_r hK2 ?_
          refine fin_r1 hK0 rfl ?_
          try obtain rfl := Option.some.inj h
          exact hP _ hS
        · refine w_skip ?_
          refine seq_n hK28 ?_
          refine w_seq fun K36 hK36 => ?_
          refine w_reg gC ?_
          try simp only [W, EE, Nat.reduceAdd]
          refine seq_n hK36 ?_
          refine w_seq fun K37 hK37 => ?_
          refine w_seq fun K38 hK38 => ?_
          refine w_reg gC ?_
          try simp only [W, EE, Nat.reduceAdd]
          refine w_fz rfl rfl rfl (fun _ => rfl) h fun b39 hb39 h => ?_
          try simp only [W, EE, EN, Nat.reduceAdd, Nat.reduceBEq]
          refine seq_n hK38 ?_
          refine w_if ?_
          simp only [W]
          refine w_cnd h (fun hc h => ?_) (fun hc h => ?_)
          · refine w_seq fun K40 hK40 => ?_
            refine w_reg gC ?_
            try simp only [W, Nat.reduceAdd]
            refine seq_n hK40 ?_
            refine w_ret ?_
            refine seq_r hK37 ?_
            refine blk_r hK18 ?_
            refine seq_r hK17 ?_
            try obtain rfl := Option.some.inj h
            obtain rfl := hd12 _ rfl
            have h : (some (LR.done (-1)) : Option (LR (Int) (Int))) = some (LR.done (-1)) := rfl
            refine lp_r hK11 ?_
            refine blk_r hK10 ?_
            try obtain rfl := Option.some.inj h
            obtain rfl := Option.some.inj g14
            have h : (some (-1) : Option (Int)) = some (-1) := rfl
            refine cut_r hK9 ?_
            refine seq_r hK2 ?_
            refine fin_r1 hK0 rfl ?_
            try obtain rfl := Option.some.inj h
            exact hP _ hS
          · refine w_skip ?_
            refine seq_n hK37 ?_
            refine w_reg gC ?_
            try simp only [W, EE, Nat.reduceAdd]
            refine blk_n0 hK18 ?_
            refine seq_n hK17 ?_
            refine w_reg gC ?_
            try simp only [W, EE, Nat.reduceAdd]
            exact lp_n hK11 h ⟨rfl, hS⟩
    · refine w_exit ?_
      refine seq_x hK15 ?_
      try obtain rfl := Option.some.inj h
      obtain rfl := hd12 _ rfl
      have h : (some (LR.next (x4)) : Option (LR (Int) (Int))) = some (LR.next (x4)) := rfl
      refine lp_x hK11 ?_
      refine blk_e hK10 ?_
      exact cut_n hK9 ⟨_, (Option.some.inj h).symm, rfl, hS⟩
  · obtain ⟨x6, ey, rfl, hS⟩ := hq; obtain rfl := ey.symm
    replace h := g14
    try dsimp only at h
    refine seq_n hK2 ?_
    refine w_seq fun K47 hK47 => ?_
    refine w_reg gC ?_
    try simp only [W, Nat.reduceAdd]
    refine seq_n hK47 ?_
    refine w_ret ?_
    refine fin_r1 hK0 rfl ?_
    try obtain rfl := Option.some.inj h
    exact hP _ hS
theorem laws_heldCourt_w {a0 : Court} {a1 : Int} {r : (Int)} (h : laws_heldCourt a0 a1 = some r) {F : List It} {H : Heap} (hS : Own H (F)) {P : AV → Heap → Prop} (hP : ∀ H', Own H' (F) → P (.int .i64 r) H') : ACall C 99 [.agg [.int .i64 a0.Now, .fz (a0.Cases.map e_Case), .fz (a0.Line.map e_Slip)], .int .i64 a1] H P := by
  refine acall_of gC (res := [.tmp 4]) (n := 18) rfl rfl rfl rfl fun K0 hK0 => ?_
  simp only [W, Nat.reduceSub, Nat.reduceAdd, List.replicate]
  unfold laws_heldCourt at h
  refine w_seq fun K1 hK1 => ?_
  refine w_reg gC ?_
  try simp only [W, Nat.reduceAdd]
  refine w_box hS rfl rfl rfl rfl fun ip2 wp2 H hS => ?_
  try simp only [W]
  refine seq_n hK1 ?_
  refine w_seq fun K4 hK4 => ?_
  refine w_reg gC ?_
  try simp only [W, EE, Nat.reduceAdd, Nat.reduceBEq, hS.var 0 rfl]
  refine w_call h fun b5 hb5 h => ?_
  refine laws_heldCaseS_w hb5 hS fun H hS => ?_
  try simp only [W]
  refine seq_n hK4 ?_
  refine w_seq fun K6 hK6 => ?_
  refine w_seq fun K7 hK7 => ?_
  refine w_reg gC ?_
  try simp only [W, EE, Nat.reduceAdd]
  refine seq_n hK7 ?_
  refine w_if ?_
  simp only [W]
  refine w_cnd h (fun hc h => ?_) (fun hc h => ?_)
  · refine w_seq fun K8 hK8 => ?_
    refine w_reg gC ?_
    try simp only [W, Nat.reduceAdd]
    refine seq_n hK8 ?_
    refine w_ret ?_
    refine seq_r hK6 ?_
    refine fin_r1 hK0 rfl ?_
    try obtain rfl := Option.some.inj h
    exact hP _ (hS.sel 1 [] (by decide))
  · refine w_skip ?_
    refine seq_n hK6 ?_
    refine w_seq fun K9 hK9 => ?_
    refine w_reg gC ?_
    try simp only [W, EE, Nat.reduceAdd, Nat.reduceBEq, hS.var 0 rfl]
    refine w_call h fun b10 hb10 h => ?_
    refine laws_heldSlipS_w hb10 hS fun H hS => ?_
    try simp only [W]
    refine seq_n hK9 ?_
    refine w_seq fun K11 hK11 => ?_
    refine w_seq fun K12 hK12 => ?_
    refine w_reg gC ?_
    try simp only [W, EE, Nat.reduceAdd]
    refine seq_n hK12 ?_
    refine w_if ?_
    simp only [W]
    refine w_cnd h (fun hc h => ?_) (fun hc h => ?_)
    · refine w_seq fun K13 hK13 => ?_
      refine w_reg gC ?_
      try simp only [W, Nat.reduceAdd]
      refine seq_n hK13 ?_
      refine w_ret ?_
      refine seq_r hK11 ?_
      refine fin_r1 hK0 rfl ?_
      try obtain rfl := Option.some.inj h
      exact hP _ (hS.sel 1 [] (by decide))
    · refine w_skip ?_
      refine seq_n hK11 ?_
      refine w_seq fun K14 hK14 => ?_
      refine w_reg gC ?_
      try simp only [W, Nat.reduceAdd]
      refine seq_n hK14 ?_
      refine w_ret ?_
      refine fin_r1 hK0 rfl ?_
      try obtain rfl := Option.some.inj h
      exact hP _ (hS.sel 1 [] (by decide))
theorem laws_FnExactSettleCourt_w {a0 : Court} {r : (Bool)} (h : laws_FnExactSettleCourt a0 = some r) {F : List It} {H : Heap} (hS : Own H (F)) {P : AV → Heap → Prop} (hP : ∀ H', Own H' (F) → P (.bool r) H') : ACall C 13 [.agg [.int .i64 a0.Now, .fz (a0.Cases.map e_Case), .fz (a0.Line.map e_Slip)]] H P := by
  refine acall_of gC (res := [.tmp 2]) (n := 117) rfl rfl rfl rfl fun K0 hK0 => ?_
  simp only [W, Nat.reduceSub, Nat.reduceAdd, List.replicate]
  unfold laws_FnExactSettleCourt at h
  refine w_seq fun K1 hK1 => ?_
  refine w_reg gC ?_
  try simp only [W, Nat.reduceAdd]
  refine w_box hS rfl rfl rfl rfl fun ip2 wp2 H hS => ?_
  try simp only [W]
  refine seq_n hK1 ?_
  refine w_seq fun K4 hK4 => ?_
  refine w_reg gC ?_
  try simp only [W, Nat.reduceAdd]
  refine seq_n hK4 ?_
  refine w_seq fun K5 hK5 => ?_
  refine w_reg gC ?_
  try simp only [W, EE, reduceIte, Nat.reduceAdd, Nat.reduceLeDiff, hS.var 0 rfl]
  refine w_call h fun b6 hb6 h => ?_
  refine laws_szCourt_w hb6 hS fun H hS => ?_
  try simp only [W]
  refine seq_n hK5 ?_
  refine w_seq fun K7 hK7 => ?_
  refine w_seq fun K8 hK8 => ?_
  refine w_reg gC ?_
  try simp only [W, EE, Nat.reduceAdd]
  refine seq_n hK8 ?_
  refine w_if ?_
  simp only [W]
  refine w_cnd h (fun hc h => ?_) (fun hc h => ?_)
  · refine w_seq fun K9 hK9 => ?_
    refine w_reg gC ?_
    try simp only [W, Nat.reduceAdd]
    refine seq_n hK9 ?_
    refine w_ret ?_
    refine seq_r hK7 ?_
    refine fin_r1 hK0 rfl ?_
    try obtain rfl := Option.some.inj h
    exact hP _ (hS.sel 1 [] (by decide))
  · refine w_skip ?_
    refine seq_n hK7 ?_
    refine w_seq fun K10 hK10 => ?_
    refine w_reg gC ?_
    try simp only [W, EE, reduceIte, Nat.reduceAdd, Nat.reduceLeDiff, Nat.reduceBEq, hS.var 0 rfl, List.contains_cons, Nat.reduceBEq, Bool.or_self]
    refine w_call h fun b11 hb11 h => ?_
    refine laws_toCourt_w hb11 hS fun v12 qv12 v14 qv14 H hS => ?_
    try simp only [W]
    refine w_callO (rsh := [[.sc, .sl [.sc, .sc, .sc, .sc], .sl [.sc, .sc, .sc]], [.sc], [.sc]]) (ys := [.agg [.int .i64 b11.Now, .fz (b11.Cases.map e_Case), .fz (b11.Line.map e_Slip)]]) h rfl (pv_c (sn_agg (sm_c rfl (sm_c (sn_ow hS 0 rfl qv12 (fun _ => rfl)) (sm_c (sn_ow hS 1 rfl qv14 (fun _ => rfl)) (sm_n _))))) pv_n) fun b16 hb16 h => ⟨.tup [.agg [.int .i64 b16.1.Now, .own 4 (b16.1.Cases.map e_Case), .own 3 (b16.1.Line.map e_Slip)], .int .i64 b16.2.1, .bool b16.2.2], spec_SettleCourt_w hb16 (Own.nil _) fun v20 qv20 v21 qv21 H hS => TV_ok rfl (TV_a (TC_sc rfl (TC_ow 0 hS rfl qv20 (fun _ _ => by simp [takeE, takeT, takeC, plainA, e_Case]) fun H hS => TC_ow 0 hS rfl qv21 (fun _ _ => by simp [takeE, takeT, takeC, plainA, e_Slip]) fun H hS => TC_nil (TV_p rfl (TV_p rfl (TV_n rfl)))))), (nf_t (nf_c (nf_a (nf_c rfl (nf_c (noFz_o _ (fun _ => rfl) _) (nf_c (noFz_o _ (fun _ => rfl) _) nf_n)))) (nf_c rfl (nf_c rfl nf_n)))), ?_⟩
    refine thaw_tup ?_
    refine TH_a ?_
    refine TH_p (fun _ => rfl) ?_
    refine TH_o hS (fun _ _ => rfl) (fun _ => rfl) fun v23 H qv23 hS => ?_
    refine TH_o hS (fun _ _ => rfl) (fun _ => rfl) fun v25 H qv25 hS => ?_
    refine TH_n ?_
    refine TH_p (fun _ => rfl) ?_
    refine TH_p (fun _ => rfl) ?_
    refine TH_n ?_
    try simp only [List.headD_cons]
    obtain ⟨b17, b18, b19⟩ := b16
    try dsimp only at h
    try simp only [W]
    refine w_alloc hS rfl rfl fun ip26 wp26 H hS => ?_
    try simp only [W]
    refine w_stv (a := .agg [.int .i64 b17.Now, v23, v25]) (y' := .agg [.int .i64 b17.Now, v23, v25]) 0 hS rfl rfl rfl rfl rfl (by simp only [storA, List.all_cons, List.all_nil, qv23.stor, qv25.stor]; rfl) rfl rfl fun H hS => ?_
    try simp only [W]
    refine seq_n hK10 ?_
    refine w_seq fun K28 hK28 => ?_
    refine w_reg gC ?_
    try simp only [W, EE, reduceIte, Nat.reduceAdd, Nat.reduceLeDiff, hS.var 5 rfl]
    refine w_call h fun b29 hb29 h => ?_
    refine laws_toCourt_w hb29 hS fun v30 qv30 v32 qv32 H hS => ?_
    try simp only [W]
    refine w_alloc hS rfl rfl fun ip34 wp34 H hS => ?_
    try simp only [W]
    refine w_stv (a := .agg [.int .i64 b29.Now, v30, v32]) (y' := .agg [.int .i64 b29.Now, v30, v32]) 0 hS rfl rfl rfl rfl rfl (by simp only [storA, List.all_cons, List.all_nil, qv30.stor, qv32.stor]; rfl) rfl rfl fun H hS => ?_
    try simp only [W]
    refine seq_n hK28 ?_
    refine w_seq fun K36 hK36 => ?_
    refine w_reg gC ?_
    try simp only [W, EE, reduceIte, Nat.reduceAdd, Nat.reduceLeDiff, Nat.reduceBEq, hS.var 0 rfl, List.contains_cons, Nat.reduceBEq, Bool.or_self]
    refine w_callO (rsh := [[.sc, .sl [.sc, .sc, .sc, .sc], .sl [.sc, .sc, .sc]], [.sc], [.sc]]) (ys := [.agg [.int .i64 b29.Now, .fz (b29.Cases.map e_Case), .fz (b29.Line.map e_Slip)]]) h rfl (pv_c (sn_agg (sm_c rfl (sm_c (sn_ow hS 1 rfl qv30 (fun _ => rfl)) (sm_c (sn_ow hS 2 rfl qv32 (fun _ => rfl)) (sm_n _))))) pv_n) fun b37 hb37 h => ⟨.tup [.agg [.int .i64 b37.1.Now, .own 4 (b37.1.Cases.map e_Case), .own 3 (b37.1.Line.map e_Slip)], .int .i64 b37.2.1, .bool b37.2.2], impl_SettleCourt_w hb37 (Own.nil _) fun v41 qv41 v42 qv42 H hS => TV_ok rfl (TV_a (TC_sc rfl (TC_ow 0 hS rfl qv41 (fun _ _ => by simp [takeE, takeT, takeC, plainA, e_Case]) fun H hS => TC_ow 0 hS rfl qv42 (fun _ _ => by simp [takeE, takeT, takeC, plainA, e_Slip]) fun H hS => TC_nil (TV_p rfl (TV_p rfl (TV_n rfl)))))), (nf_t (nf_c (nf_a (nf_c rfl (nf_c (noFz_o _ (fun _ => rfl) _) (nf_c (noFz_o _ (fun _ => rfl) _) nf_n)))) (nf_c rfl (nf_c rfl nf_n)))), ?_⟩
    refine thaw_tup ?_
    refine TH_a ?_
    refine TH_p (fun _ => rfl) ?_
    refine TH_o hS (fun _ _ => rfl) (fun _ => rfl) fun v44 H qv44 hS => ?_
    refine TH_o hS (fun _ _ => rfl) (fun _ => rfl) fun v46 H qv46 hS => ?_
    refine TH_n ?_
    refine TH_p (fun _ => rfl) ?_
    refine TH_p (fun _ => rfl) ?_
    refine TH_n ?_
    try simp only [List.headD_cons]
    obtain ⟨b38, b39, b40⟩ := b37
    try dsimp only at h
    try simp only [W]
    refine w_alloc hS rfl rfl fun ip47 wp47 H hS => ?_
    try simp only [W]
    refine w_stv (a := .agg [.int .i64 b38.Now, v44, v46]) (y' := .agg [.int .i64 b38.Now, v44, v46]) 0 hS rfl rfl rfl rfl rfl (by simp only [storA, List.all_cons, List.all_nil, qv44.stor, qv46.stor]; rfl) rfl rfl fun H hS => ?_
    try simp only [W]
    refine seq_n hK36 ?_
    refine w_seq fun K49 hK49 => ?_
    refine w_seq fun K50 hK50 => ?_
    obtain ⟨y52, h, g53⟩ := Option.bind_eq_some_iff.1 h
    refine w_join gC (fun s H => ∃ x51 : Bool, y52 = (x51) ∧ s = (u :: .ptr ip2 wp2 0 0 :: u :: u :: .ptr ip26 wp26 0 0 :: .int .i64 b18 :: .bool b19 :: .ptr ip34 wp34 0 0 :: .ptr ip47 wp47 0 0 :: .int .i64 b39 :: .bool b40 :: u :: u :: u :: u :: u :: u :: u :: u :: u :: u :: u :: u :: u :: u :: u :: u :: u :: u :: u :: u :: u :: u :: u :: u :: u :: u :: u :: u :: u :: u :: u :: u :: u :: u :: u :: u :: u :: u :: u :: .bool x51 :: u :: u :: u :: u :: u :: u :: u :: u :: u :: u :: u :: u :: u :: u :: u :: u :: u :: u :: u :: u :: u :: u :: u :: u :: u :: u :: u :: u :: u :: u :: u :: u :: u :: u :: u :: u :: u :: u :: u :: u :: u :: u :: u :: u :: u :: u :: u :: u :: u :: u :: u :: u :: u :: u :: u :: u :: u :: u :: u :: u :: u :: u :: u :: u :: u :: u :: []) ∧ Own H (⟨v23, 4, b17.Cases.map e_Case⟩ :: ⟨v25, 3, b17.Line.map e_Slip⟩ :: ⟨v30, 4, b29.Cases.map e_Case⟩ :: ⟨v32, 3, b29.Line.map e_Slip⟩ :: ⟨v44, 4, b38.Cases.map e_Case⟩ :: ⟨v46, 3, b38.Line.map e_Slip⟩ :: ⟨.ptr ip2 wp2 0 0, 3, [.agg [.int .i64 a0.Now, .fz (a0.Cases.map e_Case), .fz (a0.Line.map e_Slip)]]⟩ :: ⟨.ptr ip26 wp26 0 0, 3, [.agg [.int .i64 b17.Now, v23, v25]]⟩ :: ⟨.ptr ip34 wp34 0 0, 3, [.agg [.int .i64 b29.Now, v30, v32]]⟩ :: ⟨.ptr ip47 wp47 0 0, 3, [.agg [.int .i64 b38.Now, v44, v46]]⟩ :: F)) (fun K54 hK54 => ?_) (fun s H hq => ?_)
    · refine w_seq fun K55 hK55 => ?_
      refine w_reg gC ?_
      try simp only [W, EE, reduceIte, Nat.reduceAdd, Nat.reduceLeDiff, hS.var 6 rfl, hS.var 0 rfl]
      refine w_callS (rsh := [[.sc]]) (ys := [.agg [.int .i64 b38.Now, .fz (b38.Cases.map e_Case), .fz (b38.Line.map e_Slip)], .agg [.int .i64 b17.Now, .fz (b17.Cases.map e_Case), .fz (b17.Line.map e_Slip)]]) h rfl (pv_c (sn_agg (sm_c rfl (sm_c (sn_ow hS 2 rfl qv44 (fun _ => rfl)) (sm_c (sn_ow hS 1 rfl qv46 (fun _ => rfl)) (sm_n _))))) (pv_c (sn_agg (sm_c rfl (sm_c (sn_ow hS 8 rfl qv23 (fun _ => rfl)) (sm_c (sn_ow hS 7 rfl qv25 (fun _ => rfl)) (sm_n _))))) pv_n)) fun b56 hb56 h => ⟨.bool b56, laws_eqCourt_w hb56 (Own.nil _) fun H hS => TV_ok rfl (TV_p rfl (TV_n rfl)), ⟨rfl, rfl, fun _ => rfl⟩, ?_⟩
      try simp only [W]
      refine w_grdT h (fun hc h => ?_) (fun hc h => ?_)
      · try simp only [W, hc]
        refine seq_n hK55 ?_
        refine w_killE (s' := (u :: .ptr ip2 wp2 0 0 :: u :: u :: .ptr ip26 wp26 0 0 :: .int .i64 b18 :: .bool b19 :: .ptr ip34 wp34 0 0 :: .ptr ip47 wp47 0 0 :: .int .i64 b39 :: .bool b40 :: u :: u :: u :: u :: u :: u :: u :: u :: u :: u :: u :: u :: u :: u :: u :: u :: u :: u :: u :: u :: u :: u :: u :: u :: u :: u :: u :: u :: u :: u :: u :: u :: u :: u :: u :: u :: u :: u :: u :: .bool true :: u :: u :: u :: u :: u :: u :: u :: u :: u :: u :: u :: u :: u :: u :: u :: u :: u :: u :: u :: u :: u :: u :: u :: u :: u :: u :: u :: u :: u :: u :: u :: u :: u :: u :: u :: u :: u :: u :: u :: u :: u :: u :: u :: u :: u :: u :: u :: u :: u :: u :: u :: u :: u :: u :: u :: u :: u :: u :: u :: u :: u :: u :: u :: u :: u :: u :: [])) rfl ?_
        exact cut_n hK54 ⟨_, (Option.some.inj h).symm, rfl, (hS.sel 12 [8, 7, 4, 5, 2, 1, 11, 6, 3, 0] (by decide))⟩
      · try simp only [W, EE, reduceIte, Bool.false_eq_true, hc]
        refine w_grdT h (fun hc h => ?_) (fun hc h => ?_)
        · try simp only [W, hc]
          refine seq_n hK55 ?_
          refine w_killE (s' := (u :: .ptr ip2 wp2 0 0 :: u :: u :: .ptr ip26 wp26 0 0 :: .int .i64 b18 :: .bool b19 :: .ptr ip34 wp34 0 0 :: .ptr ip47 wp47 0 0 :: .int .i64 b39 :: .bool b40 :: u :: u :: u :: u :: u :: u :: u :: u :: u :: u :: u :: u :: u :: u :: u :: u :: u :: u :: u :: u :: u :: u :: u :: u :: u :: u :: u :: u :: u :: u :: u :: u :: u :: u :: u :: u :: u :: u :: u :: .bool true :: u :: u :: u :: u :: u :: u :: u :: u :: u :: u :: u :: u :: u :: u :: u :: u :: u :: u :: u :: u :: u :: u :: u :: u :: u :: u :: u :: u :: u :: u :: u :: u :: u :: u :: u :: u :: u :: u :: u :: u :: u :: u :: u :: u :: u :: u :: u :: u :: u :: u :: u :: u :: u :: u :: u :: u :: u :: u :: u :: u :: u :: u :: u :: u :: u :: u :: [])) rfl ?_
          exact cut_n hK54 ⟨_, (Option.some.inj h).symm, rfl, (hS.sel 12 [8, 7, 4, 5, 2, 1, 11, 6, 3, 0] (by decide))⟩
        · try simp only [W, EE, hc]
          rw [b_bneq _ _ _ _ (h := rfl) rfl, resV_s]
          try simp only [W, reduceIte, Bool.false_eq_true]
          refine seq_n hK55 ?_
          refine w_killE (s' := (u :: .ptr ip2 wp2 0 0 :: u :: u :: .ptr ip26 wp26 0 0 :: .int .i64 b18 :: .bool b19 :: .ptr ip34 wp34 0 0 :: .ptr ip47 wp47 0 0 :: .int .i64 b39 :: .bool b40 :: u :: u :: u :: u :: u :: u :: u :: u :: u :: u :: u :: u :: u :: u :: u :: u :: u :: u :: u :: u :: u :: u :: u :: u :: u :: u :: u :: u :: u :: u :: u :: u :: u :: u :: u :: u :: u :: u :: u :: .bool (!(b40 == b19)) :: u :: u :: u :: u :: u :: u :: u :: u :: u :: u :: u :: u :: u :: u :: u :: u :: u :: u :: u :: u :: u :: u :: u :: u :: u :: u :: u :: u :: u :: u :: u :: u :: u :: u :: u :: u :: u :: u :: u :: u :: u :: u :: u :: u :: u :: u :: u :: u :: u :: u :: u :: u :: u :: u :: u :: u :: u :: u :: u :: u :: u :: u :: u :: u :: u :: u :: [])) rfl ?_
          exact cut_n hK54 ⟨_, (Option.some.inj h).symm, rfl, (hS.sel 12 [8, 7, 4, 5, 2, 1, 11, 6, 3, 0] (by decide))⟩
    · obtain ⟨x51, ey, rfl, hS⟩ := hq; obtain rfl := ey.symm
      replace h := g53
      try dsimp only at h
      refine seq_n hK50 ?_
      refine w_if ?_
      simp only [W]
      refine w_cnd h (fun hc h => ?_) (fun hc h => ?_)
      · refine w_seq fun K57 hK57 => ?_
        refine w_reg gC ?_
        try simp only [W, Nat.reduceAdd]
        refine seq_n hK57 ?_
        refine w_ret ?_
        refine seq_r hK49 ?_
        refine fin_r1 hK0 rfl ?_
        try obtain rfl := Option.some.inj h
        exact hP _ (hS.sel 10 [] (by decide))
      · refine w_skip ?_
        refine seq_n hK49 ?_
        refine w_seq fun K58 hK58 => ?_
        refine w_seq fun K59 hK59 => ?_
        refine w_draw0 gC (by kernel_rfl) ?_
        try simp only [W, EE, reduceIte, Nat.reduceAdd, Nat.reduceLeDiff, hS.var 6 rfl, hS.var 8 rfl]
        refine w_callF (rsh := [[.sc, .sl [.sc, .sc, .sc, .sc], .sl [.sc, .sc, .sc]]]) (ys := [.agg [.int .i64 a0.Now, .fz (a0.Cases.map e_Case), .fz (a0.Line.map e_Slip)]]) h rfl (by rfl) fun b60 hb60 h => ⟨.agg [.int .i64 b60.Now, .own 4 (b60.Cases.map e_Case), .own 3 (b60.Line.map e_Slip)], laws_toCourt_w hb60 (Own.nil _) fun v61 qv61 v62 qv62 H hS => TV_ok rfl (TV_a (TC_sc rfl (TC_ow 0 hS rfl qv61 (fun _ _ => by simp [takeE, takeT, takeC, plainA, e_Case]) fun H hS => TC_ow 0 hS rfl qv62 (fun _ _ => by simp [takeE, takeT, takeC, plainA, e_Slip]) fun H hS => TC_nil (TV_n rfl)))), ?_⟩
        simp only [W, frzL_map (c := e_Case) (fun _ => rfl), frzL_map (c := e_Slip) (fun _ => rfl)]
        try simp only [W, EE, EN, reduceIte, Nat.reduceAdd, Nat.reduceLeDiff, Nat.reduceBEq, Nat.reduceMul, Bool.false_eq_true]
        refine w_callS (rsh := [[.sc]]) (ys := [.agg [.int .i64 b29.Now, .fz (b29.Cases.map e_Case), .fz (b29.Line.map e_Slip)], .agg [.int .i64 b60.Now, .fz (b60.Cases.map e_Case), .fz (b60.Line.map e_Slip)]]) h rfl (pv_c (sn_agg (sm_c rfl (sm_c (sn_ow hS 2 rfl qv30 (fun _ => rfl)) (sm_c (sn_ow hS 3 rfl qv32 (fun _ => rfl)) (sm_n _))))) (pv_c rfl pv_n)) fun b63 hb63 h => ⟨.bool b63, laws_eqCourt_w hb63 (Own.nil _) fun H hS => TV_ok rfl (TV_p rfl (TV_n rfl)), ⟨rfl, rfl, fun _ => rfl⟩, ?_⟩
        try simp only [W]
        refine seq_n hK59 ?_
        refine w_if ?_
        simp only [W]
        refine w_cnd h (fun hc h => ?_) (fun hc h => ?_)
        · refine w_seq fun K64 hK64 => ?_
          refine w_reg gC ?_
          try simp only [W, Nat.reduceAdd]
          refine seq_n hK64 ?_
          refine w_ret ?_
          refine seq_r hK58 ?_
          refine fin_r1 hK0 rfl ?_
          try obtain rfl := Option.some.inj h
          exact hP _ (hS.sel 10 [] (by decide))
        · refine w_skip ?_
          refine seq_n hK58 ?_
          refine w_seq fun K65 hK65 => ?_
          refine w_reg gC ?_
          try simp only [W, Nat.reduceAdd]
          refine seq_n hK65 ?_
          refine w_seq fun K66 hK66 => ?_
          refine w_reg gC ?_
          try simp only [W, EE, reduceIte, Nat.reduceAdd, Nat.reduceLeDiff, hS.var 8 rfl]
          refine w_call h fun b67 hb67 h => ?_
          obtain ⟨b68, b69, b70⟩ := b67
          try dsimp only at h
          refine laws_markCourt_w hb67 (hS.sel 10 [2, 3, 0, 1, 4, 5, 6, 7, 8, 9] (by decide)) qv30 qv32 fun H hS => ?_
          try simp only [W]
          refine seq_n hK66 ?_
          refine w_seq fun K71 hK71 => ?_
          refine w_seq fun K72 hK72 => ?_
          obtain ⟨y74, h, g75⟩ := Option.bind_eq_some_iff.1 h
          refine w_join gC (fun s H => ∃ x73 : Bool, y74 = (x73) ∧ s = (u :: .ptr ip2 wp2 0 0 :: u :: u :: .ptr ip26 wp26 0 0 :: .int .i64 b18 :: .bool b19 :: u :: .ptr ip47 wp47 0 0 :: u :: u :: u :: u :: u :: u :: u :: u :: u :: u :: u :: u :: u :: u :: u :: u :: u :: u :: u :: u :: u :: u :: u :: u :: u :: u :: u :: u :: u :: u :: u :: u :: u :: u :: u :: u :: u :: u :: u :: u :: u :: u :: u :: u :: u :: u :: u :: u :: u :: u :: u :: u :: u :: u :: u :: u :: u :: u :: u :: u :: u :: u :: u :: u :: u :: u :: u :: .bool x73 :: u :: u :: u :: u :: u :: u :: u :: u :: u :: u :: u :: u :: u :: u :: u :: u :: u :: u :: u :: u :: u :: u :: u :: u :: u :: u :: u :: u :: u :: u :: u :: u :: u :: u :: u :: u :: u :: u :: u :: u :: []) ∧ Own H (⟨v23, 4, b17.Cases.map e_Case⟩ :: ⟨v25, 3, b17.Line.map e_Slip⟩ :: ⟨v44, 4, b38.Cases.map e_Case⟩ :: ⟨v46, 3, b38.Line.map e_Slip⟩ :: ⟨.ptr ip2 wp2 0 0, 3, [.agg [.int .i64 a0.Now, .fz (a0.Cases.map e_Case), .fz (a0.Line.map e_Slip)]]⟩ :: ⟨.ptr ip26 wp26 0 0, 3, [.agg [.int .i64 b17.Now, v23, v25]]⟩ :: ⟨.ptr ip47 wp47 0 0, 3, [.agg [.int .i64 b38.Now, v44, v46]]⟩ :: F)) (fun K76 hK76 => ?_) (fun s H hq => ?_)
          · refine w_seq fun K77 hK77 => ?_
            refine w_reg gC ?_
            try simp only [W, EE, Nat.reduceAdd]
            refine w_grdT h (fun hc h => ?_) (fun hc h => ?_)
            · try simp only [W, hc]
              refine seq_n hK77 ?_
              refine w_killE (s' := (u :: .ptr ip2 wp2 0 0 :: u :: u :: .ptr ip26 wp26 0 0 :: .int .i64 b18 :: .bool b19 :: u :: .ptr ip47 wp47 0 0 :: u :: u :: u :: u :: u :: u :: u :: u :: u :: u :: u :: u :: u :: u :: u :: u :: u :: u :: u :: u :: u :: u :: u :: u :: u :: u :: u :: u :: u :: u :: u :: u :: u :: u :: u :: u :: u :: u :: u :: u :: u :: u :: u :: u :: u :: u :: u :: u :: u :: u :: u :: u :: u :: u :: u :: u :: u :: u :: u :: u :: u :: u :: u :: u :: u :: u :: u :: .bool true :: u :: u :: u :: u :: u :: u :: u :: u :: u :: u :: u :: u :: u :: u :: u :: u :: u :: u :: u :: u :: u :: u :: u :: u :: u :: u :: u :: u :: u :: u :: u :: u :: u :: u :: u :: u :: u :: u :: u :: u :: [])) rfl ?_
              exact cut_n hK76 ⟨_, (Option.some.inj h).symm, rfl, (hS.sel 10 [2, 3, 4, 5, 6, 7, 9] (by decide))⟩
            · try simp only [W, EE, reduceIte, Nat.reduceAdd, Nat.reduceLeDiff, hS.var 7 rfl, hS.var 9 rfl, hc]
              refine w_callS (rsh := [[.sc]]) (ys := [.agg [.int .i64 b38.Now, .fz (b38.Cases.map e_Case), .fz (b38.Line.map e_Slip)], .agg [.int .i64 b17.Now, .fz (b17.Cases.map e_Case), .fz (b17.Line.map e_Slip)]]) h rfl (pv_c (sn_agg (sm_c rfl (sm_c (sn_ow hS 4 rfl qv44 (fun _ => rfl)) (sm_c (sn_ow hS 5 rfl qv46 (fun _ => rfl)) (sm_n _))))) (pv_c (sn_agg (sm_c rfl (sm_c (sn_ow hS 2 rfl qv23 (fun _ => rfl)) (sm_c (sn_ow hS 3 rfl qv25 (fun _ => rfl)) (sm_n _))))) pv_n)) fun b78 hb78 h => ⟨.bool b78, laws_eqCourt_w hb78 (Own.nil _) fun H hS => TV_ok rfl (TV_p rfl (TV_n rfl)), ⟨rfl, rfl, fun _ => rfl⟩, ?_⟩
              try simp only [W, reduceIte, Bool.false_eq_true]
              refine w_grdT h (fun hc h => ?_) (fun hc h => ?_)
              · try simp only [W, hc]
                refine seq_n hK77 ?_
                refine w_killE (s' := (u :: .ptr ip2 wp2 0 0 :: u :: u :: .ptr ip26 wp26 0 0 :: .int .i64 b18 :: .bool b19 :: u :: .ptr ip47 wp47 0 0 :: u :: u :: u :: u :: u :: u :: u :: u :: u :: u :: u :: u :: u :: u :: u :: u :: u :: u :: u :: u :: u :: u :: u :: u :: u :: u :: u :: u :: u :: u :: u :: u :: u :: u :: u :: u :: u :: u :: u :: u :: u :: u :: u :: u :: u :: u :: u :: u :: u :: u :: u :: u :: u :: u :: u :: u :: u :: u :: u :: u :: u :: u :: u :: u :: u :: u :: u :: .bool true :: u :: u :: u :: u :: u :: u :: u :: u :: u :: u :: u :: u :: u :: u :: u :: u :: u :: u :: u :: u :: u :: u :: u :: u :: u :: u :: u :: u :: u :: u :: u :: u :: u :: u :: u :: u :: u :: u :: u :: u :: [])) rfl ?_
                exact cut_n hK76 ⟨_, (Option.some.inj h).symm, rfl, (hS.sel 10 [2, 3, 4, 5, 6, 7, 9] (by decide))⟩
              · try simp only [W, EE, reduceIte, Bool.false_eq_true, hc]
                refine w_grdT h (fun hc h => ?_) (fun hc h => ?_)
                · try simp only [W, hc]
                  refine seq_n hK77 ?_
                  refine w_killE (s' := (u :: .ptr ip2 wp2 0 0 :: u :: u :: .ptr ip26 wp26 0 0 :: .int .i64 b18 :: .bool b19 :: u :: .ptr ip47 wp47 0 0 :: u :: u :: u :: u :: u :: u :: u :: u :: u :: u :: u :: u :: u :: u :: u :: u :: u :: u :: u :: u :: u :: u :: u :: u :: u :: u :: u :: u :: u :: u :: u :: u :: u :: u :: u :: u :: u :: u :: u :: u :: u :: u :: u :: u :: u :: u :: u :: u :: u :: u :: u :: u :: u :: u :: u :: u :: u :: u :: u :: u :: u :: u :: u :: u :: u :: u :: u :: .bool true :: u :: u :: u :: u :: u :: u :: u :: u :: u :: u :: u :: u :: u :: u :: u :: u :: u :: u :: u :: u :: u :: u :: u :: u :: u :: u :: u :: u :: u :: u :: u :: u :: u :: u :: u :: u :: u :: u :: u :: u :: [])) rfl ?_
                  exact cut_n hK76 ⟨_, (Option.some.inj h).symm, rfl, (hS.sel 10 [2, 3, 4, 5, 6, 7, 9] (by decide))⟩
                · try simp only [W, EE, hc]
                  rw [b_bneq _ _ _ _ (h := rfl) rfl, resV_s]
                  try simp only [W, reduceIte, Bool.false_eq_true]
                  refine seq_n hK77 ?_
                  refine w_killE (s' := (u :: .ptr ip2 wp2 0 0 :: u :: u :: .ptr ip26 wp26 0 0 :: .int .i64 b18 :: .bool b19 :: u :: .ptr ip47 wp47 0 0 :: u :: u :: u :: u :: u :: u :: u :: u :: u :: u :: u :: u :: u :: u :: u :: u :: u :: u :: u :: u :: u :: u :: u :: u :: u :: u :: u :: u :: u :: u :: u :: u :: u :: u :: u :: u :: u :: u :: u :: u :: u :: u :: u :: u :: u :: u :: u :: u :: u :: u :: u :: u :: u :: u :: u :: u :: u :: u :: u :: u :: u :: u :: u :: u :: u :: u :: u :: .bool (!(b40 == b19)) :: u :: u :: u :: u :: u :: u :: u :: u :: u :: u :: u :: u :: u :: u :: u :: u :: u :: u :: u :: u :: u :: u :: u :: u :: u :: u :: u :: u :: u :: u :: u :: u :: u :: u :: u :: u :: u :: u :: u :: u :: [])) rfl ?_
                  exact cut_n hK76 ⟨_, (Option.some.inj h).symm, rfl, (hS.sel 10 [2, 3, 4, 5, 6, 7, 9] (by decide))⟩
          · obtain ⟨x73, ey, rfl, hS⟩ := hq; obtain rfl := ey.symm
            replace h := g75
            try dsimp only at h
            refine seq_n hK72 ?_
            refine w_if ?_
            simp only [W]
            refine w_cnd h (fun hc h => ?_) (fun hc h => ?_)
            · refine w_seq fun K79 hK79 => ?_
              refine w_reg gC ?_
              try simp only [W, Nat.reduceAdd]
              refine seq_n hK79 ?_
              refine w_ret ?_
              refine seq_r hK71 ?_
              refine fin_r1 hK0 rfl ?_
              try obtain rfl := Option.some.inj h
              exact hP _ (hS.sel 7 [] (by decide))
            · refine w_skip ?_
              refine seq_n hK71 ?_
              refine w_seq fun K80 hK80 => ?_
              refine w_reg gC ?_
              try simp only [W, Nat.reduceAdd]
              refine seq_n hK80 ?_
              refine w_seq fun K81 hK81 => ?_
              refine w_reg gC ?_
              try simp only [W, EE, reduceIte, Nat.reduceAdd, Nat.reduceLeDiff, hS.var 6 rfl]
              refine w_call h fun b82 hb82 h => ?_
              obtain ⟨b83, b84, b85⟩ := b82
              try dsimp only at h
              refine laws_markCourt_w hb82 (hS.sel 7 [2, 3, 0, 1, 4, 5, 6] (by decide)) qv44 qv46 fun H hS => ?_
              try simp only [W]
              refine seq_n hK81 ?_
              refine w_seq fun K86 hK86 => ?_
              refine w_reg gC ?_
              try simp only [W, Nat.reduceAdd]
              refine seq_n hK86 ?_
              refine w_seq fun K87 hK87 => ?_
              refine w_reg gC ?_
              try simp only [W, EE, reduceIte, Nat.reduceAdd, Nat.reduceLeDiff, hS.var 6 rfl]
              refine w_callS (rsh := [[.sc]]) (ys := [.agg [.int .i64 b38.Now, .fz (b84.map e_Case), .fz (b85.map e_Slip)], .int .i64 1]) h rfl (pv_c (sn_agg (sm_c rfl (sm_c (sn_ow hS 0 rfl qv44 (fun _ => rfl)) (sm_c (sn_ow hS 1 rfl qv46 (fun _ => rfl)) (sm_n _))))) (pv_c rfl pv_n)) fun b88 hb88 h => ⟨.int .i64 b88, laws_heldCourt_w hb88 (Own.nil _) fun H hS => TV_ok rfl (TV_p rfl (TV_n rfl)), ⟨rfl, rfl, fun _ => rfl⟩, ?_⟩
              try simp only [W]
              refine seq_n hK87 ?_
              refine w_seq fun K89 hK89 => ?_
              refine w_seq fun K90 hK90 => ?_
              refine w_reg gC ?_
              try simp only [W, EE, Nat.reduceAdd]
              refine seq_n hK90 ?_
              refine w_if ?_
              simp only [W]
              refine w_cnd h (fun hc h => ?_) (fun hc h => ?_)
              · refine w_seq fun K91 hK91 => ?_
                refine w_reg gC ?_
                try simp only [W, Nat.reduceAdd]
                refine seq_n hK91 ?_
                refine w_ret ?_
                refine seq_r hK89 ?_
                refine fin_r1 hK0 rfl ?_
                try obtain rfl := Option.some.inj h
                exact hP _ (hS.sel 7 [] (by decide))
              · refine w_skip ?_
                refine seq_n hK89 ?_
                refine w_seq fun K92 hK92 => ?_
                refine w_seq fun K93 hK93 => ?_
                refine w_reg gC ?_
                try simp only [W, EE, Nat.reduceAdd]
                refine seq_n hK93 ?_
                refine w_if ?_
                simp only [W]
                refine w_cnd h (fun hc h => ?_) (fun hc h => ?_)
                · refine w_seq fun K94 hK94 => ?_
                  refine w_reg gC ?_
                  try simp only [W, Nat.reduceAdd]
                  refine seq_n hK94 ?_
                  refine w_ret ?_
                  refine seq_r hK92 ?_
                  refine fin_r1 hK0 rfl ?_
                  try obtain rfl := Option.some.inj h
                  exact hP _ (hS.sel 7 [] (by decide))
                · refine w_skip ?_
                  refine seq_n hK92 ?_
                  refine w_seq fun K95 hK95 => ?_
                  refine w_reg gC ?_
                  try simp only [W, EE, reduceIte, Nat.reduceAdd, Nat.reduceLeDiff, Nat.reduceBEq, hS.var 4 rfl, List.contains_cons, Nat.reduceBEq, Bool.or_self]
                  refine w_call h fun b96 hb96 h => ?_
                  refine laws_toCourt_w hb96 hS fun v97 qv97 v99 qv99 H hS => ?_
                  try simp only [W]
                  refine w_callO (rsh := [[.sc, .sl [.sc, .sc, .sc, .sc], .sl [.sc, .sc, .sc]], [.sc], [.sc]]) (ys := [.agg [.int .i64 b96.Now, .fz (b96.Cases.map e_Case), .fz (b96.Line.map e_Slip)]]) h rfl (pv_c (sn_agg (sm_c rfl (sm_c (sn_ow hS 0 rfl qv97 (fun _ => rfl)) (sm_c (sn_ow hS 1 rfl qv99 (fun _ => rfl)) (sm_n _))))) pv_n) fun b101 hb101 h => ⟨.tup [.agg [.int .i64 b101.1.Now, .own 4 (b101.1.Cases.map e_Case), .own 3 (b101.1.Line.map e_Slip)], .int .i64 b101.2.1, .bool b101.2.2], impl_SettleCourt_w hb101 (Own.nil _) fun v105 qv105 v106 qv106 H hS => TV_ok rfl (TV_a (TC_sc rfl (TC_ow 0 hS rfl qv105 (fun _ _ => by simp [takeE, takeT, takeC, plainA, e_Case]) fun H hS => TC_ow 0 hS rfl qv106 (fun _ _ => by simp [takeE, takeT, takeC, plainA, e_Slip]) fun H hS => TC_nil (TV_p rfl (TV_p rfl (TV_n rfl)))))), (nf_t (nf_c (nf_a (nf_c rfl (nf_c (noFz_o _ (fun _ => rfl) _) (nf_c (noFz_o _ (fun _ => rfl) _) nf_n)))) (nf_c rfl (nf_c rfl nf_n)))), ?_⟩
                  refine thaw_tup ?_
                  refine TH_a ?_
                  refine TH_p (fun _ => rfl) ?_
                  refine TH_o hS (fun _ _ => rfl) (fun _ => rfl) fun v108 H qv108 hS => ?_
                  refine TH_o hS (fun _ _ => rfl) (fun _ => rfl) fun v110 H qv110 hS => ?_
                  refine TH_n ?_
                  refine TH_p (fun _ => rfl) ?_
                  refine TH_p (fun _ => rfl) ?_
                  refine TH_n ?_
                  try simp only [List.headD_cons]
                  obtain ⟨b102, b103, b104⟩ := b101
                  try dsimp only at h
                  try simp only [W]
                  refine w_alloc hS rfl rfl fun ip111 wp111 H hS => ?_
                  try simp only [W]
                  refine w_stv (a := .agg [.int .i64 b102.Now, v108, v110]) (y' := .agg [.int .i64 b102.Now, v108, v110]) 0 hS rfl rfl rfl rfl rfl (by simp only [storA, List.all_cons, List.all_nil, qv108.stor, qv110.stor]; rfl) rfl rfl fun H hS => ?_
                  try simp only [W]
                  refine seq_n hK95 ?_
                  refine w_seq fun K113 hK113 => ?_
                  refine w_seq fun K114 hK114 => ?_
                  obtain ⟨y116, h, g117⟩ := Option.bind_eq_some_iff.1 h
                  refine w_join gC (fun s H => ∃ x115 : Bool, y116 = (x115) ∧ s = (u :: u :: u :: u :: u :: u :: u :: u :: .ptr ip47 wp47 0 0 :: u :: u :: u :: .int .i64 b83 :: u :: u :: u :: u :: u :: u :: u :: u :: u :: u :: u :: u :: u :: u :: u :: u :: u :: u :: u :: u :: u :: u :: u :: u :: u :: u :: u :: u :: u :: u :: u :: u :: u :: u :: u :: u :: u :: u :: u :: u :: u :: u :: u :: u :: u :: u :: u :: u :: u :: u :: u :: u :: u :: u :: u :: u :: u :: u :: u :: u :: u :: u :: u :: u :: u :: u :: u :: u :: u :: u :: u :: u :: u :: u :: u :: u :: u :: u :: u :: u :: u :: u :: u :: u :: u :: u :: u :: u :: u :: u :: u :: u :: u :: u :: u :: .bool x115 :: u :: u :: u :: u :: u :: u :: u :: u :: []) ∧ Own H (⟨v44, 4, b84.map e_Case⟩ :: ⟨v46, 3, b85.map e_Slip⟩ :: ⟨.ptr ip47 wp47 0 0, 3, [.agg [.int .i64 b38.Now, v44, v46]]⟩ :: F)) (fun K118 hK118 => ?_) (fun s H hq => ?_)
                  · refine w_seq fun K119 hK119 => ?_
                    refine w_reg gC ?_
                    try simp only [W, EE, reduceIte, Nat.reduceAdd, Nat.reduceLeDiff, hS.var 0 rfl, hS.var 10 rfl]
                    refine w_callS (rsh := [[.sc]]) (ys := [.agg [.int .i64 b102.Now, .fz (b102.Cases.map e_Case), .fz (b102.Line.map e_Slip)], .agg [.int .i64 b17.Now, .fz (b17.Cases.map e_Case), .fz (b17.Line.map e_Slip)]]) h rfl (pv_c (sn_agg (sm_c rfl (sm_c (sn_ow hS 2 rfl qv108 (fun _ => rfl)) (sm_c (sn_ow hS 1 rfl qv110 (fun _ => rfl)) (sm_n _))))) (pv_c (sn_agg (sm_c rfl (sm_c (sn_ow hS 7 rfl qv23 (fun _ => rfl)) (sm_c (sn_ow hS 8 rfl qv25 (fun _ => rfl)) (sm_n _))))) pv_n)) fun b120 hb120 h => ⟨.bool b120, laws_eqCourt_w hb120 (Own.nil _) fun H hS => TV_ok rfl (TV_p rfl (TV_n rfl)), ⟨rfl, rfl, fun _ => rfl⟩, ?_⟩
                    try simp only [W]
                    refine w_grdT h (fun hc h => ?_) (fun hc h => ?_)
                    · try simp only [W, hc]
                      refine seq_n hK119 ?_
                      refine w_killE (s' := (u :: u :: u :: u :: u :: u :: u :: u :: .ptr ip47 wp47 0 0 :: u :: u :: u :: .int .i64 b83 :: u :: u :: u :: u :: u :: u :: u :: u :: u :: u :: u :: u :: u :: u :: u :: u :: u :: u :: u :: u :: u :: u :: u :: u :: u :: u :: u :: u :: u :: u :: u :: u :: u :: u :: u :: u :: u :: u :: u :: u :: u :: u :: u :: u :: u :: u :: u :: u :: u :: u :: u :: u :: u :: u :: u :: u :: u :: u :: u :: u :: u :: u :: u :: u :: u :: u :: u :: u :: u :: u :: u :: u :: u :: u :: u :: u :: u :: u :: u :: u :: u :: u :: u :: u :: u :: u :: u :: u :: u :: u :: u :: u :: u :: u :: u :: .bool true :: u :: u :: u :: u :: u :: u :: u :: u :: [])) rfl ?_
                      exact cut_n hK118 ⟨_, (Option.some.inj h).symm, rfl, (hS.sel 12 [5, 6, 11] (by decide))⟩
                    · try simp only [W, EE, reduceIte, Bool.false_eq_true, hc]
                      refine w_grdT h (fun hc h => ?_) (fun hc h => ?_)
                      · try simp only [W, hc]
                        refine seq_n hK119 ?_
                        refine w_killE (s' := (u :: u :: u :: u :: u :: u :: u :: u :: .ptr ip47 wp47 0 0 :: u :: u :: u :: .int .i64 b83 :: u :: u :: u :: u :: u :: u :: u :: u :: u :: u :: u :: u :: u :: u :: u :: u :: u :: u :: u :: u :: u :: u :: u :: u :: u :: u :: u :: u :: u :: u :: u :: u :: u :: u :: u :: u :: u :: u :: u :: u :: u :: u :: u :: u :: u :: u :: u :: u :: u :: u :: u :: u :: u :: u :: u :: u :: u :: u :: u :: u :: u :: u :: u :: u :: u :: u :: u :: u :: u :: u :: u :: u :: u :: u :: u :: u :: u :: u :: u :: u :: u :: u :: u :: u :: u :: u :: u :: u :: u :: u :: u :: u :: u :: u :: u :: .bool true :: u :: u :: u :: u :: u :: u :: u :: u :: [])) rfl ?_
                        exact cut_n hK118 ⟨_, (Option.some.inj h).symm, rfl, (hS.sel 12 [5, 6, 11] (by decide))⟩
                      · try simp only [W, EE, hc]
                        rw [b_bneq _ _ _ _ (h := rfl) rfl, resV_s]
                        try simp only [W, reduceIte, Bool.false_eq_true]
                        refine seq_n hK119 ?_
                        refine w_killE (s' := (u :: u :: u :: u :: u :: u :: u :: u :: .ptr ip47 wp47 0 0 :: u :: u :: u :: .int .i64 b83 :: u :: u :: u :: u :: u :: u :: u :: u :: u :: u :: u :: u :: u :: u :: u :: u :: u :: u :: u :: u :: u :: u :: u :: u :: u :: u :: u :: u :: u :: u :: u :: u :: u :: u :: u :: u :: u :: u :: u :: u :: u :: u :: u :: u :: u :: u :: u :: u :: u :: u :: u :: u :: u :: u :: u :: u :: u :: u :: u :: u :: u :: u :: u :: u :: u :: u :: u :: u :: u :: u :: u :: u :: u :: u :: u :: u :: u :: u :: u :: u :: u :: u :: u :: u :: u :: u :: u :: u :: u :: u :: u :: u :: u :: u :: u :: .bool (!(b104 == b19)) :: u :: u :: u :: u :: u :: u :: u :: u :: [])) rfl ?_
                        exact cut_n hK118 ⟨_, (Option.some.inj h).symm, rfl, (hS.sel 12 [5, 6, 11] (by decide))⟩
                  · obtain ⟨x115, ey, rfl, hS⟩ := hq; obtain rfl := ey.symm
                    replace h := g117
                    try dsimp only at h
                    refine seq_n hK114 ?_
                    refine w_if ?_
                    simp only [W]
                    refine w_cnd h (fun hc h => ?_) (fun hc h => ?_)
                    · refine w_seq fun K121 hK121 => ?_
                      refine w_reg gC ?_
                      try simp only [W, Nat.reduceAdd]
                      refine seq_n hK121 ?_
                      refine w_ret ?_
                      refine seq_r hK113 ?_
                      refine fin_r1 hK0 rfl ?_
                      try obtain rfl := Option.some.inj h
                      exact hP _ (hS.sel 3 [] (by decide))
                    · refine w_skip ?_
                      refine seq_n hK113 ?_
                      refine w_seq fun K122 hK122 => ?_
                      refine w_reg gC ?_
                      try simp only [W, Nat.reduceAdd]
                      refine seq_n hK122 ?_
                      refine w_seq fun K123 hK123 => ?_
                      refine w_reg gC ?_
                      try simp only [W, EE, reduceIte, Nat.reduceAdd, Nat.reduceLeDiff, hS.var 2 rfl]
                      refine w_callS (rsh := [[.sc]]) (ys := [.agg [.int .i64 b38.Now, .fz (b84.map e_Case), .fz (b85.map e_Slip)], .int .i64 1]) h rfl (pv_c (sn_agg (sm_c rfl (sm_c (sn_ow hS 0 rfl qv44 (fun _ => rfl)) (sm_c (sn_ow hS 1 rfl qv46 (fun _ => rfl)) (sm_n _))))) (pv_c rfl pv_n)) fun b124 hb124 h => ⟨.int .i64 b124, laws_heldCourt_w hb124 (Own.nil _) fun H hS => TV_ok rfl (TV_p rfl (TV_n rfl)), ⟨rfl, rfl, fun _ => rfl⟩, ?_⟩
                      try simp only [W]
                      refine seq_n hK123 ?_
                      refine w_seq fun K125 hK125 => ?_
                      refine w_seq fun K126 hK126 => ?_
                      refine w_reg gC ?_
                      try simp only [W, EE, Nat.reduceAdd]
                      refine seq_n hK126 ?_
                      refine w_if ?_
                      simp only [W]
                      refine w_cnd h (fun hc h => ?_) (fun hc h => ?_)
                      · refine w_seq fun K127 hK127 => ?_
                        refine w_reg gC ?_
                        try simp only [W, Nat.reduceAdd]
                        refine seq_n hK127 ?_
                        refine w_ret ?_
                        refine seq_r hK125 ?_
                        refine fin_r1 hK0 rfl ?_
                        try obtain rfl := Option.some.inj h
                        exact hP _ (hS.sel 3 [] (by decide))
                      · refine w_skip ?_
                        refine seq_n hK125 ?_
                        refine w_seq fun K128 hK128 => ?_
                        refine w_seq fun K129 hK129 => ?_
                        refine w_reg gC ?_
                        try simp only [W, EE, Nat.reduceAdd]
                        refine seq_n hK129 ?_
                        refine w_if ?_
                        simp only [W]
                        refine w_cnd h (fun hc h => ?_) (fun hc h => ?_)
                        · refine w_seq fun K130 hK130 => ?_
                          refine w_reg gC ?_
                          try simp only [W, Nat.reduceAdd]
                          refine seq_n hK130 ?_
                          refine w_ret ?_
                          refine seq_r hK128 ?_
                          refine fin_r1 hK0 rfl ?_
                          try obtain rfl := Option.some.inj h
                          exact hP _ (hS.sel 3 [] (by decide))
                        · refine w_skip ?_
                          refine seq_n hK128 ?_
                          refine w_seq fun K131 hK131 => ?_
                          refine w_reg gC ?_
                          try simp only [W, Nat.reduceAdd]
                          refine seq_n hK131 ?_
                          refine w_ret ?_
                          refine fin_r1 hK0 rfl ?_
                          try obtain rfl := Option.some.inj h
                          exact hP _ (hS.sel 3 [] (by decide))
end Go.VxW
