import Derived.Test.YtcgnkhdeckgaaaaVgG1
import Derived.Test.YtcgnkhdeckgaaaaProg
import Derived.Test.YtcgnkhdeckgaaaaVaE
import Derived.KernelRfl
open Go Go.VS
set_option maxRecDepth 8000
set_option maxHeartbeats 4000000
namespace Go.VxW
theorem impl_Court_take_w {a0 : Court} {a1 : Slip} {i0 : Nat} {w0 : Nat} {m101 : AV} {m102 : AV} {r : (Court)} (h : impl_Court_take a0 a1 = some r) {F : List It} {H : Heap} (hS : Own H (⟨.ptr i0 w0 0 0, 3, [.agg [.int .i64 a0.Now, m101, m102]]⟩ :: ⟨m101, 4, a0.Cases.map e_Case⟩ :: ⟨m102, 3, a0.Line.map e_Slip⟩ :: F)) (qm101 : isSl m101) (qm102 : isSl m102) {P : AV → Heap → Prop} (hP : ∀ nm101 : AV, isSl nm101 → ∀ nm102 : AV, isSl nm102 → ∀ H', Own H' (⟨.ptr i0 w0 0 0, 3, [.agg [.int .i64 r.Now, nm101, nm102]]⟩ :: ⟨nm101, 4, r.Cases.map e_Case⟩ :: ⟨nm102, 3, r.Line.map e_Slip⟩ :: F) → P (.tup []) H') : ACall C 225 [.ptr i0 w0 0 0, .agg [.int .i64 a1.Kind, .int .i64 a1.Case, .int .i64 a1.What]] H P := by
  refine acall_of gC (res := []) (n := 43) rfl rfl rfl rfl fun K0 hK0 => ?_
  simp only [W, Nat.reduceSub, Nat.reduceAdd, List.replicate]
  unfold impl_Court_take at h
  refine w_seq fun K1 hK1 => ?_
  refine w_reg gC ?_
  try simp only [W, Nat.reduceAdd]
  refine w_box hS rfl rfl rfl rfl fun ip2 wp2 H hS => ?_
  try simp only [W]
  refine seq_n hK1 ?_
  refine w_seq fun K4 hK4 => ?_
  refine w_draw0 gC (by kernel_rfl) ?_
  try simp only [W, EE, Nat.reduceAdd, Nat.reduceBEq, hS.var 1 rfl, hS.var 0 rfl]
  refine w_ow 2 hS rfl rfl rfl rfl rfl h (fun b5 in6 wn6 on6 hb5 h en6 => ?_) qm101.ne
  obtain ⟨kn6, hbn6, hen6⟩ := hS.elem 2 rfl en6 hb5
  try simp only [W]
  refine seq_n hK4 ?_
  refine w_seq fun K7 hK7 => ?_
  refine w_seq fun K8 hK8 => ?_
  refine w_reg gC ?_
  try simp only [W, EE, Nat.reduceAdd, Nat.reduceBEq, hS.var 0 rfl]
  refine seq_n hK8 ?_
  refine w_if ?_
  simp only [W]
  refine w_cnd h (fun hc h => ?_) (fun hc h => ?_)
  · refine w_seq fun K9 hK9 => ?_
    refine w_reg gC ?_
    try simp only [W, EE, Nat.reduceAdd, Nat.reduceBEq, hS.var 0 rfl, hbn6]
    refine w_ste (a := .int .i64 a1.What) (y' := (⟨b5.End, b5.Asks, a1.What, b5.Said⟩ : Case)) 2 hS rfl en6 hb5 rfl rfl rfl rfl rfl rfl rfl fun H hS => ?_
    try simp only [W]
    refine seq_n hK9 ?_
    refine w_ret ?_
    refine seq_r hK7 ?_
    refine fin_r0 hK0 ?_
    try obtain rfl := Option.some.inj h
    exact hP _ qm101 _ qm102 _ (hS.sel 4 [1, 2, 3] (by decide))
  · refine w_skip ?_
    refine seq_n hK7 ?_
    refine w_seq fun K10 hK10 => ?_
    refine w_seq fun K11 hK11 => ?_
    refine w_reg gC ?_
    try simp only [W, EE, EN, Nat.reduceAdd, Nat.reduceBEq, hbn6, hen6]
    refine seq_n hK11 ?_
    obtain ⟨y13, h, g14⟩ := Option.bind_eq_some_iff.1 h
    refine w_join gC (fun s H => ∃ x12 : List Case, y13 = (x12) ∧ s = [.ptr i0 w0 0 0, u, u, .ptr ip2 wp2 0 0, .ptr in6 wn6 (on6 + a1.Case.toNat) 0, u, u, u, u, u, u, u, u, u, u, u, u, u, u, u, u, u, u, u, u, u, u, u, u, u, u, u, u, u, u, u, u, u, u, u, u, u, u] ∧ Own H (⟨m101, 4, x12.map e_Case⟩ :: ⟨m102, 3, a0.Line.map e_Slip⟩ :: ⟨.ptr i0 w0 0 0, 3, [.agg [.int .i64 a0.Now, m101, m102]]⟩ :: ⟨.ptr ip2 wp2 0 0, 3, [.agg [.int .i64 a1.Kind, .int .i64 a1.Case, .int .i64 a1.What]]⟩ :: F)) (fun K15 hK15 => ?_) (fun s H hq => ?_)
    · refine w_seq fun K16 hK16 => ?_
      refine w_if ?_
      simp only [W]
      refine w_cnd h (fun hc h => ?_) (fun hc h => ?_)
      · refine w_seq fun K17 hK17 => ?_
        refine w_reg gC ?_
        try simp only [W, EE, Nat.reduceAdd, Nat.reduceBEq, hbn6]
        refine w_ste (a := .int .i64 1) (y' := (⟨b5.End, b5.Asks, b5.Final, 1⟩ : Case)) 2 hS rfl en6 hb5 rfl rfl rfl rfl rfl rfl rfl fun H hS => ?_
        try simp only [W]
        refine seq_n hK17 ?_
        refine w_seq fun K18 hK18 => ?_
        refine w_reg gC ?_
        try simp only [W, EE, Nat.reduceAdd, Nat.reduceBEq, hS.var 0 rfl]
        refine seq_n hK18 ?_
        obtain ⟨y20, h, g21⟩ := Option.bind_eq_some_iff.1 h
        refine w_join gC (fun s H => ∃ x19 : List Case, y20 = (x19) ∧ s = [.ptr i0 w0 0 0, u, u, .ptr ip2 wp2 0 0, .ptr in6 wn6 (on6 + a1.Case.toNat) 0, u, u, u, u, u, u, u, u, u, u, u, u, u, u, u, u, u, u, u, u, u, u, u, u, u, u, u, u, u, u, u, u, u, u, u, u, u, u] ∧ Own H (⟨m101, 4, x19.map e_Case⟩ :: ⟨m102, 3, a0.Line.map e_Slip⟩ :: ⟨.ptr i0 w0 0 0, 3, [.agg [.int .i64 a0.Now, m101, m102]]⟩ :: ⟨.ptr ip2 wp2 0 0, 3, [.agg [.int .i64 a1.Kind, .int .i64 a1.Case, .int .i64 a1.What]]⟩ :: F)) (fun K22 hK22 => ?_) (fun s H hq => ?_)
        · refine w_seq fun K23 hK23 => ?_
          refine w_if ?_
          simp only [W]
          refine w_cnd h (fun hc h => ?_) (fun hc h => ?_)
          · refine w_reg gC ?_
            try simp only [W, EE, Nat.reduceAdd, Nat.reduceBEq]
            obtain ⟨b25, hb25, h⟩ := Option.bind_eq_some_iff.1 h
            obtain ⟨kn24, hbn24, hen24⟩ := hS.elem 2 rfl en6 hb25
            try simp only [W, EE, EN, reduceIte, Nat.reduceAdd, Nat.reduceLeDiff, Nat.reduceBEq, Nat.reduceMul, Bool.false_eq_true]
            try simp only [W, hbn24]
            refine w_ste (a := .int .i64 2) (y' := (⟨b25.End, b25.Asks, b25.Final, 2⟩ : Case)) 2 hS rfl en6 hb25 rfl rfl rfl rfl rfl rfl rfl fun H hS => ?_
            try simp only [W]
            refine seq_n hK23 ?_
            refine w_kill ?_
            exact cut_n hK22 ⟨_, (Option.some.inj h).symm, rfl, (hS.sel 4 [2, 3, 1, 0] (by decide))⟩
          · refine w_skip ?_
            refine seq_n hK23 ?_
            refine w_kill ?_
            exact cut_n hK22 ⟨_, (Option.some.inj h).symm, rfl, (hS.sel 4 [2, 3, 1, 0] (by decide))⟩
        · obtain ⟨x19, ey, rfl, hS⟩ := hq; obtain rfl := ey.symm
          replace h := g21
          try dsimp only at h
          refine seq_n hK16 ?_
          refine w_kill ?_
          exact cut_n hK15 ⟨_, (Option.some.inj h).symm, rfl, hS⟩
      · refine w_skip ?_
        refine seq_n hK16 ?_
        refine w_kill ?_
        exact cut_n hK15 ⟨_, (Option.some.inj h).symm, rfl, (hS.sel 4 [2, 3, 1, 0] (by decide))⟩
    · obtain ⟨x12, ey, rfl, hS⟩ := hq; obtain rfl := ey.symm
      replace h := g14
      try dsimp only at h
      refine seq_n hK10 ?_
      refine w_drawL gC [(8, [])] (by kernel_rfl) rfl (by kernel_rfl) ?_
      try simp only [W, EE, reduceIte, Nat.reduceAdd, Nat.reduceBEq, hS.var 3 rfl, tabAt, qAt, Nat.reduceEqDiff]
      obtain ⟨b27, hb27, h⟩ := Option.bind_eq_some_iff.1 h
      obtain ⟨kn26, hbn26, hen26⟩ := hS.elem 0 rfl en6 hb27
      try simp only [W, EE, EN, reduceIte, Nat.reduceAdd, Nat.reduceLeDiff, Nat.reduceBEq, Nat.reduceMul, Bool.false_eq_true, tabAt, qAt, Nat.reduceEqDiff]
      try simp only [W, EE, EN, hbn26, hen26]
      refine w_bld rfl rfl rfl rfl rfl ?_
      try simp only [W]
      refine w_call h fun b28 hb28 h => ?_
      refine impl_Court_goes_w hb28 (hS.sel 4 [2, 0, 1, 3] (by decide)) qm101 qm102 fun v29 qv29 v30 qv30 H hS => ?_
      try simp only [W]
      refine fin_n0 hK0 ?_
      try obtain rfl := Option.some.inj h
      exact hP _ qv29 _ qv30 _ (hS.sel 4 [0, 1, 2] (by decide))
theorem impl_Court_tick_w {a0 : Court} {i0 : Nat} {w0 : Nat} {m101 : AV} {m102 : AV} {r : (Court)} (h : impl_Court_tick a0 = some r) {F : List It} {H : Heap} (hS : Own H (⟨.ptr i0 w0 0 0, 3, [.agg [.int .i64 a0.Now, m101, m102]]⟩ :: ⟨m101, 4, a0.Cases.map e_Case⟩ :: ⟨m102, 3, a0.Line.map e_Slip⟩ :: F)) (qm101 : isSl m101) (qm102 : isSl m102) {P : AV → Heap → Prop} (hP : ∀ nm101 : AV, isSl nm101 → ∀ nm102 : AV, isSl nm102 → ∀ H', Own H' (⟨.ptr i0 w0 0 0, 3, [.agg [.int .i64 r.Now, nm101, nm102]]⟩ :: ⟨nm101, 4, r.Cases.map e_Case⟩ :: ⟨nm102, 3, r.Line.map e_Slip⟩ :: F) → P (.tup []) H') : ACall C 226 [.ptr i0 w0 0 0] H P := by
  refine acall_of gC (res := []) (n := 41) rfl rfl rfl rfl fun K0 hK0 => ?_
  simp only [W, Nat.reduceSub, Nat.reduceAdd, List.replicate]
  unfold impl_Court_tick at h
  refine w_seq fun K1 hK1 => ?_
  refine w_reg gC ?_
  try simp only [W, EE, Nat.reduceAdd, Nat.reduceBEq, hS.var 0 rfl]
  refine w_stv (a := .int .i64 (IntKind.i64.wrap (a0.Now + 1))) (y' := .agg [.int .i64 (IntKind.i64.wrap (a0.Now + 1)), m101, m102]) 0 hS rfl rfl rfl rfl rfl rfl rfl rfl fun H hS => ?_
  try simp only [W]
  refine seq_n hK1 ?_
  refine w_seq fun K2 hK2 => ?_
  refine w_reg gC ?_
  try simp only [W, EE, Nat.reduceAdd, Nat.reduceBEq, hS.var 0 rfl]
  refine w_len 1 hS rfl qm101 rfl ?_
  try simp only [W]
  refine seq_n hK2 ?_
  obtain ⟨y6, hw7, g13⟩ := Option.bind_eq_some_iff.1 h
  refine w_join gC (fun s H => ∃ x5 : List Case, y6 = (x5) ∧ s = [u, u, u, u, u, u, u, u, u, u, u, u, u, u, u, u, u, u, u, u, u, u, u, u, u, u, u, u, u, u, u, u, u, u, u, u, u, u, u, u, u] ∧ Own H (⟨m101, 4, x5.map e_Case⟩ :: ⟨m102, 3, a0.Line.map e_Slip⟩ :: ⟨.ptr i0 w0 0 0, 3, [.agg [.int .i64 (IntKind.i64.wrap (a0.Now + 1)), m101, m102]]⟩ :: F)) (fun K8 hK8 => ?_) (fun s H hq => ?_)
  · refine w_blk fun K9 hK9 => ?_
    refine w_loop gC hw7 (fun x s H => match x with | (x3, x4) => s = [.ptr i0 w0 0 0, u, u, u, u, u, u, u, u, u, u, u, u, u, m101, .int .i64 (a0.Cases.length : Int), .int .i64 x4, u, u, u, u, u, u, u, u, u, u, u, u, u, u, u, u, u, u, u, u, u, u, u, u] ∧ Own H (⟨m101, 4, x3.map e_Case⟩ :: ⟨m102, 3, a0.Line.map e_Slip⟩ :: ⟨.ptr i0 w0 0 0, 3, [.agg [.int .i64 (IntKind.i64.wrap (a0.Now + 1)), m101, m102]]⟩ :: F)) ⟨rfl, (hS.sel 3 [1, 2, 0] (by decide))⟩ (fun x y12 s H h hd11 hi K10 hK10 => ?_)
    obtain ⟨x3, x4⟩ := x
    try dsimp only at hi
    obtain ⟨rfl, hS⟩ := hi
    simp only [impl_Court_tick_l0] at h
    refine w_seq fun K14 hK14 => ?_
    refine w_reg gC ?_
    try simp only [W, EE, Nat.reduceAdd]
    refine seq_n hK14 ?_
    refine w_seq fun K15 hK15 => ?_
    refine w_if ?_
    simp only [W]
    refine w_cnd h (fun hc h => ?_) (fun hc h => ?_)
    · refine w_skip ?_
      refine seq_n hK15 ?_
      refine w_seq fun K16 hK16 => ?_
      obtain ⟨y19, h, g20⟩ := Option.bind_eq_some_iff.1 h
      refine w_join gC (fun s H => ∃ x18 : List Case, y19 = (x18) ∧ s = [.ptr i0 w0 0 0, u, u, u, u, u, u, u, u, u, u, u, u, u, m101, .int .i64 (a0.Cases.length : Int), .int .i64 x4, u, u, u, u, u, u, u, u, u, u, u, u, u, u, u, u, u, u, u, u, u, u, u, u] ∧ Own H (⟨m101, 4, x18.map e_Case⟩ :: ⟨m102, 3, a0.Line.map e_Slip⟩ :: ⟨.ptr i0 w0 0 0, 3, [.agg [.int .i64 (IntKind.i64.wrap (a0.Now + 1)), m101, m102]]⟩ :: F)) (fun K21 hK21 => ?_) (fun s H hq => ?_)
      · refine w_blk fun K17 hK17 => ?_
        refine w_seq fun K22 hK22 => ?_
        refine w_reg gC ?_
        try simp only [W, EE, Nat.reduceAdd]
        refine w_ow 0 hS rfl rfl rfl rfl rfl h (fun b23 in24 wn24 on24 hb23 h en24 => ?_) qm101.ne
        obtain ⟨kn24, hbn24, hen24⟩ := hS.elem 0 rfl en24 hb23
        try simp only [W, EE, EN, reduceIte, Nat.reduceAdd, Nat.reduceLeDiff, hbn24, hen24]
        refine w_alloc hS rfl rfl fun ip25 wp25 H hS => ?_
        try simp only [W]
        refine w_stv (a := .agg [.int .i64 b23.End, .bool b23.Asks, .int .i64 b23.Final, .int .i64 b23.Said]) (y' := .agg [.int .i64 b23.End, .bool b23.Asks, .int .i64 b23.Final, .int .i64 b23.Said]) 0 hS rfl rfl rfl rfl rfl rfl rfl rfl fun H hS => ?_
        try simp only [W]
        refine seq_n hK22 ?_
        refine w_seq fun K27 hK27 => ?_
        obtain ⟨y29, h, g30⟩ := Option.bind_eq_some_iff.1 h
        refine w_join gC (fun s H => ∃ x28 : Bool, y29 = (x28) ∧ s = [.ptr i0 w0 0 0, u, .int .i64 x4, u, u, u, u, u, u, u, u, u, u, u, m101, .int .i64 (a0.Cases.length : Int), .int .i64 x4, u, u, u, u, u, u, u, u, u, u, u, u, u, u, u, .bool x28, u, u, u, u, u, u, u, u] ∧ Own H (⟨m101, 4, x3.map e_Case⟩ :: ⟨m102, 3, a0.Line.map e_Slip⟩ :: ⟨.ptr i0 w0 0 0, 3, [.agg [.int .i64 (IntKind.i64.wrap (a0.Now + 1)), m101, m102]]⟩ :: F)) (fun K31 hK31 => ?_) (fun s H hq => ?_)
        · refine w_seq fun K32 hK32 => ?_
          refine w_draw0 gC (by kernel_rfl) ?_
          try simp only [W, EE, Nat.reduceAdd, Nat.reduceBEq, hS.var 0 rfl]
          refine w_grdT h (fun hc h => ?_) (fun hc h => ?_)
          · try simp only [W, EE, reduceIte, Nat.reduceAdd, Nat.reduceBEq, hS.var 3 rfl, hS.var 0 rfl, hc]
            refine seq_n hK32 ?_
            refine w_kill ?_
            exact cut_n hK31 ⟨_, (Option.some.inj h).symm, rfl, (hS.sel 4 [1, 2, 3] (by decide))⟩
          · try simp only [W, hc]
            refine seq_n hK32 ?_
            refine w_kill ?_
            exact cut_n hK31 ⟨_, (Option.some.inj h).symm, rfl, (hS.sel 4 [1, 2, 3] (by decide))⟩
        · obtain ⟨x28, ey, rfl, hS⟩ := hq; obtain rfl := ey.symm
          replace h := g30
          try dsimp only at h
          refine seq_n hK27 ?_
          obtain ⟨y34, h, g35⟩ := Option.bind_eq_some_iff.1 h
          refine w_join gC (fun s H => ∃ x33 : List Case, y34 = (x33) ∧ s = [.ptr i0 w0 0 0, u, u, u, u, u, u, u, u, u, u, u, u, u, m101, .int .i64 (a0.Cases.length : Int), .int .i64 x4, u, u, u, u, u, u, u, u, u, u, u, u, u, u, u, u, u, u, u, u, u, u, u, u] ∧ Own H (⟨m101, 4, x33.map e_Case⟩ :: ⟨m102, 3, a0.Line.map e_Slip⟩ :: ⟨.ptr i0 w0 0 0, 3, [.agg [.int .i64 (IntKind.i64.wrap (a0.Now + 1)), m101, m102]]⟩ :: F)) (fun K36 hK36 => ?_) (fun s H hq => ?_)
          · refine w_seq fun K37 hK37 => ?_
            refine w_if ?_
            simp only [W]
            refine w_cnd h (fun hc h => ?_) (fun hc h => ?_)
            · refine w_reg gC ?_
              try simp only [W, EE, Nat.reduceAdd, Nat.reduceBEq, hS.var 2 rfl]
              refine w_ow 0 hS rfl rfl rfl rfl rfl h (fun b38 in39 wn39 on39 hb38 h en39 => ?_) qm101.ne
              obtain ⟨kn39, hbn39, hen39⟩ := hS.elem 0 rfl en39 hb38
              try simp only [W, EE, Nat.reduceAdd, Nat.reduceBEq, hbn39]
              refine w_ste (a := .int .i64 2) (y' := (⟨b38.End, b38.Asks, b38.Final, 2⟩ : Case)) 0 hS rfl en39 hb38 rfl rfl rfl rfl rfl rfl rfl fun H hS => ?_
              try simp only [W]
              refine seq_n hK37 ?_
              refine w_kill ?_
              exact cut_n hK36 ⟨_, (Option.some.inj h).symm, rfl, hS⟩
            · refine w_skip ?_
              refine seq_n hK37 ?_
              refine w_kill ?_
              exact cut_n hK36 ⟨_, (Option.some.inj h).symm, rfl, hS⟩
          · obtain ⟨x33, ey, rfl, hS⟩ := hq; obtain rfl := ey.symm
            replace h := g35
            try dsimp only at h
            refine blk_n hK17 ?_
            exact cut_n hK21 ⟨_, (Option.some.inj h).symm, rfl, hS⟩
      · obtain ⟨x18, ey, rfl, hS⟩ := hq; obtain rfl := ey.symm
        replace h := g20
        try dsimp only at h
        refine seq_n hK16 ?_
        refine w_reg gC ?_
        try simp only [W, EE, Nat.reduceAdd]
        exact lp_n hK10 h ⟨rfl, hS⟩
    · refine w_exit ?_
      refine seq_x hK15 ?_
      try obtain rfl := Option.some.inj h
      obtain rfl := hd11 _ rfl
      have h : (some (x3) : Option ((List Case))) = some (x3) := rfl
      refine lp_x hK10 ?_
      refine blk_e hK9 ?_
      exact cut_n hK8 ⟨_, (Option.some.inj h).symm, rfl, hS⟩
  · obtain ⟨x5, ey, rfl, hS⟩ := hq; obtain rfl := ey.symm
    replace h := g13
    try dsimp only at h
    refine fin_n0 hK0 ?_
    try obtain rfl := Option.some.inj h
    exact hP _ qm101 _ qm102 _ (hS.sel 3 [2, 0, 1] (by decide))
theorem impl_Court_step_w {a0 : Court} {a1 : CourtStep} {i0 : Nat} {w0 : Nat} {m101 : AV} {m102 : AV} {r : (Bool × Court)} (h : impl_Court_step a0 a1 = some r) {F : List It} {H : Heap} (hS : Own H (⟨.ptr i0 w0 0 0, 3, [.agg [.int .i64 a0.Now, m101, m102]]⟩ :: ⟨m101, 4, a0.Cases.map e_Case⟩ :: ⟨m102, 3, a0.Line.map e_Slip⟩ :: F)) (qm101 : isSl m101) (qm102 : isSl m102) {P : AV → Heap → Prop} (hP : ∀ nm101 : AV, isSl nm101 → ∀ nm102 : AV, isSl nm102 → ∀ H', Own H' (⟨.ptr i0 w0 0 0, 3, [.agg [.int .i64 r.2.Now, nm101, nm102]]⟩ :: ⟨nm101, 4, r.2.Cases.map e_Case⟩ :: ⟨nm102, 3, r.2.Line.map e_Slip⟩ :: F) → P (.bool r.1) H') : ACall C 143 [.ptr i0 w0 0 0, .agg [.int .i64 a1.Kind, .int .i64 a1.K]] H P := by
  refine acall_of gC (res := [.tmp 4]) (n := 155) rfl rfl rfl rfl fun K0 hK0 => ?_
  simp only [W, Nat.reduceSub, Nat.reduceAdd, List.replicate]
  unfold impl_Court_step at h
  refine w_seq fun K1 hK1 => ?_
  refine w_reg gC ?_
  try simp only [W, Nat.reduceAdd]
  refine w_box hS rfl rfl rfl rfl fun ip2 wp2 H hS => ?_
  try simp only [W]
  refine seq_n hK1 ?_
  refine w_seq fun K4 hK4 => ?_
  refine w_seq fun K5 hK5 => ?_
  refine w_reg gC ?_
  try simp only [W, EE, Nat.reduceAdd, Nat.reduceBEq, hS.var 0 rfl]
  refine seq_n hK5 ?_
  obtain ⟨y7, h, g8⟩ := Option.bind_eq_some_iff.1 h
  refine w_join gC (fun s H => y7 = LR.next () ∧ s = (.ptr i0 w0 0 0 :: u :: u :: .ptr ip2 wp2 0 0 :: u :: u :: u :: u :: u :: u :: u :: u :: u :: u :: u :: u :: u :: u :: u :: u :: u :: u :: u :: u :: u :: u :: u :: u :: u :: u :: u :: u :: u :: u :: u :: u :: u :: u :: u :: u :: u :: u :: u :: u :: u :: u :: u :: u :: u :: u :: u :: u :: u :: u :: u :: u :: u :: u :: u :: u :: u :: u :: u :: u :: u :: u :: u :: u :: u :: u :: u :: u :: u :: u :: u :: u :: u :: u :: u :: u :: u :: u :: u :: u :: u :: u :: u :: u :: u :: u :: u :: u :: u :: u :: u :: u :: u :: u :: u :: u :: u :: u :: u :: u :: u :: u :: u :: u :: u :: u :: u :: u :: u :: u :: u :: u :: u :: u :: u :: u :: u :: u :: u :: u :: u :: u :: u :: u :: u :: u :: u :: u :: u :: u :: u :: u :: u :: u :: u :: u :: u :: u :: u :: u :: u :: u :: u :: u :: u :: u :: u :: u :: u :: u :: u :: []) ∧ Own H (⟨m101, 4, a0.Cases.map e_Case⟩ :: ⟨m102, 3, a0.Line.map e_Slip⟩ :: ⟨.ptr i0 w0 0 0, 3, [.agg [.int .i64 a0.Now, m101, m102]]⟩ :: ⟨.ptr ip2 wp2 0 0, 2, [.agg [.int .i64 a1.Kind, .int .i64 a1.K]]⟩ :: F)) (fun K9 hK9 => ?_) (fun s H hq => ?_)
  · refine w_blk fun K6 hK6 => ?_
    refine w_seq fun K10 hK10 => ?_
    refine w_seq fun K11 hK11 => ?_
    refine w_reg gC ?_
    try simp only [W, EE, Nat.reduceAdd]
    refine seq_n hK11 ?_
    obtain ⟨y13, h, g14⟩ := Option.bind_eq_some_iff.1 h
    refine w_join gC (fun s H => ∃ x12 : Bool, y13 = (x12) ∧ s = (.ptr i0 w0 0 0 :: u :: u :: .ptr ip2 wp2 0 0 :: u :: u :: u :: u :: .int .i64 a1.Kind :: .bool x12 :: u :: u :: u :: u :: u :: u :: u :: u :: u :: u :: u :: u :: u :: u :: u :: u :: u :: u :: u :: u :: u :: u :: u :: u :: u :: u :: u :: u :: u :: u :: u :: u :: u :: u :: u :: u :: u :: u :: u :: u :: u :: u :: u :: u :: u :: u :: u :: u :: u :: u :: u :: u :: u :: u :: u :: u :: u :: u :: u :: u :: u :: u :: u :: u :: u :: u :: u :: u :: u :: u :: u :: u :: u :: u :: u :: u :: u :: u :: u :: u :: u :: u :: u :: u :: u :: u :: u :: u :: u :: u :: u :: u :: u :: u :: u :: u :: u :: u :: u :: u :: u :: u :: u :: u :: u :: u :: u :: u :: u :: u :: u :: u :: u :: u :: u :: u :: u :: u :: u :: u :: u :: u :: u :: u :: u :: u :: u :: u :: u :: u :: u :: u :: u :: u :: u :: u :: u :: u :: u :: u :: u :: u :: u :: u :: u :: []) ∧ Own H (⟨m101, 4, a0.Cases.map e_Case⟩ :: ⟨m102, 3, a0.Line.map e_Slip⟩ :: ⟨.ptr i0 w0 0 0, 3, [.agg [.int .i64 a0.Now, m101, m102]]⟩ :: ⟨.ptr ip2 wp2 0 0, 2, [.agg [.int .i64 a1.Kind, .int .i64 a1.K]]⟩ :: F)) (fun K15 hK15 => ?_) (fun s H hq => ?_)
    · refine w_seq fun K16 hK16 => ?_
      refine w_if ?_
      simp only [W]
      refine w_cnd h (fun hc h => ?_) (fun hc h => ?_)
      · refine w_skip ?_
        refine seq_n hK16 ?_
        refine w_killE (s' := (.ptr i0 w0 0 0 :: u :: u :: .ptr ip2 wp2 0 0 :: u :: u :: u :: u :: .int .i64 a1.Kind :: .bool (a1.Kind == 1) :: u :: u :: u :: u :: u :: u :: u :: u :: u :: u :: u :: u :: u :: u :: u :: u :: u :: u :: u :: u :: u :: u :: u :: u :: u :: u :: u :: u :: u :: u :: u :: u :: u :: u :: u :: u :: u :: u :: u :: u :: u :: u :: u :: u :: u :: u :: u :: u :: u :: u :: u :: u :: u :: u :: u :: u :: u :: u :: u :: u :: u :: u :: u :: u :: u :: u :: u :: u :: u :: u :: u :: u :: u :: u :: u :: u :: u :: u :: u :: u :: u :: u :: u :: u :: u :: u :: u :: u :: u :: u :: u :: u :: u :: u :: u :: u :: u :: u :: u :: u :: u :: u :: u :: u :: u :: u :: u :: u :: u :: u :: u :: u :: u :: u :: u :: u :: u :: u :: u :: u :: u :: u :: u :: u :: u :: u :: u :: u :: u :: u :: u :: u :: u :: u :: u :: u :: u :: u :: u :: u :: u :: u :: u :: u :: u :: [])) rfl ?_
        exact cut_n hK15 ⟨_, (Option.some.inj h).symm, rfl, (hS.sel 4 [2, 3, 1, 0] (by decide))⟩
      · refine w_reg gC ?_
        try simp only [W, EE, Nat.reduceAdd]
        refine seq_n hK16 ?_
        refine w_killE (s' := (.ptr i0 w0 0 0 :: u :: u :: .ptr ip2 wp2 0 0 :: u :: u :: u :: u :: .int .i64 a1.Kind :: .bool (a1.Kind == 2) :: u :: u :: u :: u :: u :: u :: u :: u :: u :: u :: u :: u :: u :: u :: u :: u :: u :: u :: u :: u :: u :: u :: u :: u :: u :: u :: u :: u :: u :: u :: u :: u :: u :: u :: u :: u :: u :: u :: u :: u :: u :: u :: u :: u :: u :: u :: u :: u :: u :: u :: u :: u :: u :: u :: u :: u :: u :: u :: u :: u :: u :: u :: u :: u :: u :: u :: u :: u :: u :: u :: u :: u :: u :: u :: u :: u :: u :: u :: u :: u :: u :: u :: u :: u :: u :: u :: u :: u :: u :: u :: u :: u :: u :: u :: u :: u :: u :: u :: u :: u :: u :: u :: u :: u :: u :: u :: u :: u :: u :: u :: u :: u :: u :: u :: u :: u :: u :: u :: u :: u :: u :: u :: u :: u :: u :: u :: u :: u :: u :: u :: u :: u :: u :: u :: u :: u :: u :: u :: u :: u :: u :: u :: u :: u :: u :: [])) rfl ?_
        exact cut_n hK15 ⟨_, (Option.some.inj h).symm, rfl, (hS.sel 4 [2, 3, 1, 0] (by decide))⟩
    · obtain ⟨x12, ey, rfl, hS⟩ := hq; obtain rfl := ey.symm
      replace h := g14
      try dsimp only at h
      refine seq_n hK10 ?_
      obtain ⟨y17, h, g18⟩ := Option.bind_eq_some_iff.1 h
      refine w_join gC (fun s H => y17 = LR.next () ∧ s = (.ptr i0 w0 0 0 :: u :: u :: .ptr ip2 wp2 0 0 :: u :: u :: u :: u :: .int .i64 a1.Kind :: .bool x12 :: u :: u :: u :: u :: u :: u :: u :: u :: u :: u :: u :: u :: u :: u :: u :: u :: u :: u :: u :: u :: u :: u :: u :: u :: u :: u :: u :: u :: u :: u :: u :: u :: u :: u :: u :: u :: u :: u :: u :: u :: u :: u :: u :: u :: u :: u :: u :: u :: u :: u :: u :: u :: u :: u :: u :: u :: u :: u :: u :: u :: u :: u :: u :: u :: u :: u :: u :: u :: u :: u :: u :: u :: u :: u :: u :: u :: u :: u :: u :: u :: u :: u :: u :: u :: u :: u :: u :: u :: u :: u :: u :: u :: u :: u :: u :: u :: u :: u :: u :: u :: u :: u :: u :: u :: u :: u :: u :: u :: u :: u :: u :: u :: u :: u :: u :: u :: u :: u :: u :: u :: u :: u :: u :: u :: u :: u :: u :: u :: u :: u :: u :: u :: u :: u :: u :: u :: u :: u :: u :: u :: u :: u :: u :: u :: u :: []) ∧ Own H (⟨m101, 4, a0.Cases.map e_Case⟩ :: ⟨m102, 3, a0.Line.map e_Slip⟩ :: ⟨.ptr i0 w0 0 0, 3, [.agg [.int .i64 a0.Now, m101, m102]]⟩ :: ⟨.ptr ip2 wp2 0 0, 2, [.agg [.int .i64 a1.Kind, .int .i64 a1.K]]⟩ :: F)) (fun K19 hK19 => ?_) (fun s H hq => ?_)
      · refine w_seq fun K20 hK20 => ?_
        refine w_if ?_
        simp only [W]
        refine w_cnd h (fun hc h => ?_) (fun hc h => ?_)
        · refine w_seq fun K21 hK21 => ?_
          obtain ⟨y23, h, g24⟩ := Option.bind_eq_some_iff.1 h
          refine w_join gC (fun s H => ∃ x22 : Bool, y23 = (x22) ∧ s = (.ptr i0 w0 0 0 :: u :: u :: .ptr ip2 wp2 0 0 :: u :: u :: u :: u :: .int .i64 a1.Kind :: .bool x12 :: u :: u :: u :: u :: u :: u :: u :: u :: u :: u :: u :: u :: u :: u :: u :: u :: u :: u :: u :: u :: u :: u :: u :: .bool x22 :: u :: u :: u :: u :: u :: u :: u :: u :: u :: u :: u :: u :: u :: u :: u :: u :: u :: u :: u :: u :: u :: u :: u :: u :: u :: u :: u :: u :: u :: u :: u :: u :: u :: u :: u :: u :: u :: u :: u :: u :: u :: u :: u :: u :: u :: u :: u :: u :: u :: u :: u :: u :: u :: u :: u :: u :: u :: u :: u :: u :: u :: u :: u :: u :: u :: u :: u :: u :: u :: u :: u :: u :: u :: u :: u :: u :: u :: u :: u :: u :: u :: u :: u :: u :: u :: u :: u :: u :: u :: u :: u :: u :: u :: u :: u :: u :: u :: u :: u :: u :: u :: u :: u :: u :: u :: u :: u :: u :: u :: u :: u :: u :: u :: u :: u :: u :: u :: u :: u :: u :: u :: []) ∧ Own H (⟨m101, 4, a0.Cases.map e_Case⟩ :: ⟨m102, 3, a0.Line.map e_Slip⟩ :: ⟨.ptr i0 w0 0 0, 3, [.agg [.int .i64 a0.Now, m101, m102]]⟩ :: ⟨.ptr ip2 wp2 0 0, 2, [.agg [.int .i64 a1.Kind, .int .i64 a1.K]]⟩ :: F)) (fun K25 hK25 => ?_) (fun s H hq => ?_)
          · refine w_seq fun K26 hK26 => ?_
            refine w_draw0 gC (by kernel_rfl) ?_
            try simp only [W, EE, Nat.reduceAdd, Nat.reduceBEq, hS.var 2 rfl, hS.var 3 rfl]
            refine w_len 0 hS rfl qm101 rfl ?_
            try simp only [W, EE]
            refine w_callS (rsh := [[.sc]]) (ys := [.int .i64 a1.K, .int .i64 0, .int .i64 (IntKind.i64.wrap ((a0.Cases.length : Int) - 1))]) h rfl (by rfl) fun b27 hb27 h => ⟨.bool b27, impl_in_w hb27 (Own.nil _) fun H hS => TV_ok rfl (TV_p rfl (TV_n rfl)), ⟨rfl, rfl, fun _ => rfl⟩, ?_⟩
            try simp only [W]
            refine w_grdT h (fun hc h => ?_) (fun hc h => ?_)
            · try simp only [W, hc]
              refine seq_n hK26 ?_
              refine w_killE (s' := (.ptr i0 w0 0 0 :: u :: u :: .ptr ip2 wp2 0 0 :: u :: u :: u :: u :: .int .i64 a1.Kind :: .bool x12 :: u :: u :: u :: u :: u :: u :: u :: u :: u :: u :: u :: u :: u :: u :: u :: u :: u :: u :: u :: u :: u :: u :: u :: .bool true :: u :: u :: u :: u :: u :: u :: u :: u :: u :: u :: u :: u :: u :: u :: u :: u :: u :: u :: u :: u :: u :: u :: u :: u :: u :: u :: u :: u :: u :: u :: u :: u :: u :: u :: u :: u :: u :: u :: u :: u :: u :: u :: u :: u :: u :: u :: u :: u :: u :: u :: u :: u :: u :: u :: u :: u :: u :: u :: u :: u :: u :: u :: u :: u :: u :: u :: u :: u :: u :: u :: u :: u :: u :: u :: u :: u :: u :: u :: u :: u :: u :: u :: u :: u :: u :: u :: u :: u :: u :: u :: u :: u :: u :: u :: u :: u :: u :: u :: u :: u :: u :: u :: u :: u :: u :: u :: u :: u :: u :: u :: u :: u :: u :: u :: u :: u :: u :: u :: u :: u :: u :: [])) rfl ?_
              exact cut_n hK25 ⟨_, (Option.some.inj h).symm, rfl, hS⟩
            · try simp only [W, EE, Nat.reduceAdd, Nat.reduceBEq, hS.var 2 rfl, hS.var 3 rfl, hc]
              refine w_ow 0 hS rfl rfl rfl rfl rfl h (fun b28 in29 wn29 on29 hb28 h en29 => ?_) qm101.ne
              obtain ⟨kn29, hbn29, hen29⟩ := hS.elem 0 rfl en29 hb28
              try simp only [W, EE, EN, reduceIte, Nat.reduceAdd, Nat.reduceBEq, Bool.false_eq_true, hbn29, hen29]
              refine seq_n hK26 ?_
              refine w_killE (s' := (.ptr i0 w0 0 0 :: u :: u :: .ptr ip2 wp2 0 0 :: u :: u :: u :: u :: .int .i64 a1.Kind :: .bool x12 :: u :: u :: u :: u :: u :: u :: u :: u :: u :: u :: u :: u :: u :: u :: u :: u :: u :: u :: u :: u :: u :: u :: u :: .bool (b28.Final != 0) :: u :: u :: u :: u :: u :: u :: u :: u :: u :: u :: u :: u :: u :: u :: u :: u :: u :: u :: u :: u :: u :: u :: u :: u :: u :: u :: u :: u :: u :: u :: u :: u :: u :: u :: u :: u :: u :: u :: u :: u :: u :: u :: u :: u :: u :: u :: u :: u :: u :: u :: u :: u :: u :: u :: u :: u :: u :: u :: u :: u :: u :: u :: u :: u :: u :: u :: u :: u :: u :: u :: u :: u :: u :: u :: u :: u :: u :: u :: u :: u :: u :: u :: u :: u :: u :: u :: u :: u :: u :: u :: u :: u :: u :: u :: u :: u :: u :: u :: u :: u :: u :: u :: u :: u :: u :: u :: u :: u :: u :: u :: u :: u :: u :: u :: u :: u :: u :: u :: u :: u :: u :: [])) rfl ?_
              exact cut_n hK25 ⟨_, (Option.some.inj h).symm, rfl, hS⟩
          · obtain ⟨x22, ey, rfl, hS⟩ := hq; obtain rfl := ey.symm
            replace h := g24
            try dsimp only at h
            refine seq_n hK21 ?_
            refine w_if ?_
            simp only [W]
            refine w_cnd h (fun hc h => ?_) (fun hc h => ?_)
            · refine w_seq fun K30 hK30 => ?_
              refine w_reg gC ?_
              try simp only [W, Nat.reduceAdd]
              refine seq_n hK30 ?_
              refine w_ret ?_
              refine seq_r hK20 ?_
              try obtain rfl := Option.some.inj h
              obtain rfl := Option.some.inj g18
              have h : (some (LR.done (false, a0)) : Option (LR Unit (Bool × Court))) = some (LR.done (false, a0)) := rfl
              refine cut_r hK19 ?_
              refine blk_r hK6 ?_
              try obtain rfl := Option.some.inj h
              obtain rfl := Option.some.inj g8
              have h : (some (false, a0) : Option (Bool × Court)) = some (false, a0) := rfl
              refine cut_r hK9 ?_
              refine seq_r hK4 ?_
              refine fin_r1 hK0 rfl ?_
              try obtain rfl := Option.some.inj h
              exact hP _ qm101 _ qm102 _ (hS.sel 4 [2, 0, 1] (by decide))
            · refine w_skip ?_
              refine seq_n hK20 ?_
              refine w_killE (s' := (.ptr i0 w0 0 0 :: u :: u :: .ptr ip2 wp2 0 0 :: u :: u :: u :: u :: .int .i64 a1.Kind :: .bool x12 :: u :: u :: u :: u :: u :: u :: u :: u :: u :: u :: u :: u :: u :: u :: u :: u :: u :: u :: u :: u :: u :: u :: u :: u :: u :: u :: u :: u :: u :: u :: u :: u :: u :: u :: u :: u :: u :: u :: u :: u :: u :: u :: u :: u :: u :: u :: u :: u :: u :: u :: u :: u :: u :: u :: u :: u :: u :: u :: u :: u :: u :: u :: u :: u :: u :: u :: u :: u :: u :: u :: u :: u :: u :: u :: u :: u :: u :: u :: u :: u :: u :: u :: u :: u :: u :: u :: u :: u :: u :: u :: u :: u :: u :: u :: u :: u :: u :: u :: u :: u :: u :: u :: u :: u :: u :: u :: u :: u :: u :: u :: u :: u :: u :: u :: u :: u :: u :: u :: u :: u :: u :: u :: u :: u :: u :: u :: u :: u :: u :: u :: u :: u :: u :: u :: u :: u :: u :: u :: u :: u :: u :: u :: u :: u :: u :: [])) rfl ?_
              exact cut_n hK19 ⟨(Option.some.inj h).symm, rfl, hS⟩
        · refine w_seq fun K35 hK35 => ?_
          refine w_seq fun K36 hK36 => ?_
          refine w_reg gC ?_
          try simp only [W, EE, Nat.reduceAdd]
          refine seq_n hK36 ?_
          obtain ⟨y38, h, g39⟩ := Option.bind_eq_some_iff.1 h
          refine w_join gC (fun s H => ∃ x37 : Bool, y38 = (x37) ∧ s = (.ptr i0 w0 0 0 :: u :: u :: .ptr ip2 wp2 0 0 :: u :: u :: u :: u :: .int .i64 a1.Kind :: .bool x12 :: u :: u :: u :: u :: u :: u :: u :: u :: u :: u :: u :: u :: u :: u :: u :: u :: u :: u :: u :: u :: u :: u :: u :: u :: .bool x37 :: u :: u :: u :: u :: u :: u :: u :: u :: u :: u :: u :: u :: u :: u :: u :: u :: u :: u :: u :: u :: u :: u :: u :: u :: u :: u :: u :: u :: u :: u :: u :: u :: u :: u :: u :: u :: u :: u :: u :: u :: u :: u :: u :: u :: u :: u :: u :: u :: u :: u :: u :: u :: u :: u :: u :: u :: u :: u :: u :: u :: u :: u :: u :: u :: u :: u :: u :: u :: u :: u :: u :: u :: u :: u :: u :: u :: u :: u :: u :: u :: u :: u :: u :: u :: u :: u :: u :: u :: u :: u :: u :: u :: u :: u :: u :: u :: u :: u :: u :: u :: u :: u :: u :: u :: u :: u :: u :: u :: u :: u :: u :: u :: u :: u :: u :: u :: u :: u :: u :: u :: []) ∧ Own H (⟨m101, 4, a0.Cases.map e_Case⟩ :: ⟨m102, 3, a0.Line.map e_Slip⟩ :: ⟨.ptr i0 w0 0 0, 3, [.agg [.int .i64 a0.Now, m101, m102]]⟩ :: ⟨.ptr ip2 wp2 0 0, 2, [.agg [.int .i64 a1.Kind, .int .i64 a1.K]]⟩ :: F)) (fun K40 hK40 => ?_) (fun s H hq => ?_)
          · refine w_seq fun K41 hK41 => ?_
            refine w_if ?_
            simp only [W]
            refine w_cnd h (fun hc h => ?_) (fun hc h => ?_)
            · refine w_skip ?_
              refine seq_n hK41 ?_
              refine w_killE (s' := (.ptr i0 w0 0 0 :: u :: u :: .ptr ip2 wp2 0 0 :: u :: u :: u :: u :: .int .i64 a1.Kind :: .bool x12 :: u :: u :: u :: u :: u :: u :: u :: u :: u :: u :: u :: u :: u :: u :: u :: u :: u :: u :: u :: u :: u :: u :: u :: u :: .bool (a1.Kind == 3) :: u :: u :: u :: u :: u :: u :: u :: u :: u :: u :: u :: u :: u :: u :: u :: u :: u :: u :: u :: u :: u :: u :: u :: u :: u :: u :: u :: u :: u :: u :: u :: u :: u :: u :: u :: u :: u :: u :: u :: u :: u :: u :: u :: u :: u :: u :: u :: u :: u :: u :: u :: u :: u :: u :: u :: u :: u :: u :: u :: u :: u :: u :: u :: u :: u :: u :: u :: u :: u :: u :: u :: u :: u :: u :: u :: u :: u :: u :: u :: u :: u :: u :: u :: u :: u :: u :: u :: u :: u :: u :: u :: u :: u :: u :: u :: u :: u :: u :: u :: u :: u :: u :: u :: u :: u :: u :: u :: u :: u :: u :: u :: u :: u :: u :: u :: u :: u :: u :: u :: u :: [])) rfl ?_
              exact cut_n hK40 ⟨_, (Option.some.inj h).symm, rfl, hS⟩
            · refine w_seq fun K42 hK42 => ?_
              refine w_reg gC ?_
              try simp only [W, EE, Nat.reduceAdd]
              refine seq_n hK42 ?_
              obtain ⟨y44, h, g45⟩ := Option.bind_eq_some_iff.1 h
              refine w_join gC (fun s H => ∃ x43 : Bool, y44 = (x43) ∧ s = (.ptr i0 w0 0 0 :: u :: u :: .ptr ip2 wp2 0 0 :: u :: u :: u :: u :: .int .i64 a1.Kind :: .bool x12 :: u :: u :: u :: u :: u :: u :: u :: u :: u :: u :: u :: u :: u :: u :: u :: u :: u :: u :: u :: u :: u :: u :: u :: u :: .bool x43 :: u :: u :: u :: u :: u :: u :: u :: u :: u :: u :: u :: u :: u :: u :: u :: u :: u :: u :: u :: u :: u :: u :: u :: u :: u :: u :: u :: u :: u :: u :: u :: u :: u :: u :: u :: u :: u :: u :: u :: u :: u :: u :: u :: u :: u :: u :: u :: u :: u :: u :: u :: u :: u :: u :: u :: u :: u :: u :: u :: u :: u :: u :: u :: u :: u :: u :: u :: u :: u :: u :: u :: u :: u :: u :: u :: u :: u :: u :: u :: u :: u :: u :: u :: u :: u :: u :: u :: u :: u :: u :: u :: u :: u :: u :: u :: u :: u :: u :: u :: u :: u :: u :: u :: u :: u :: u :: u :: u :: u :: u :: u :: u :: u :: u :: u :: u :: u :: u :: u :: u :: []) ∧ Own H (⟨m101, 4, a0.Cases.map e_Case⟩ :: ⟨m102, 3, a0.Line.map e_Slip⟩ :: ⟨.ptr i0 w0 0 0, 3, [.agg [.int .i64 a0.Now, m101, m102]]⟩ :: ⟨.ptr ip2 wp2 0 0, 2, [.agg [.int .i64 a1.Kind, .int .i64 a1.K]]⟩ :: F)) (fun K46 hK46 => ?_) (fun s H hq => ?_)
              · refine w_seq fun K47 hK47 => ?_
                refine w_if ?_
                simp only [W]
                refine w_cnd h (fun hc h => ?_) (fun hc h => ?_)
                · refine w_skip ?_
                  refine seq_n hK47 ?_
                  refine w_killE (s' := (.ptr i0 w0 0 0 :: u :: u :: .ptr ip2 wp2 0 0 :: u :: u :: u :: u :: .int .i64 a1.Kind :: .bool x12 :: u :: u :: u :: u :: u :: u :: u :: u :: u :: u :: u :: u :: u :: u :: u :: u :: u :: u :: u :: u :: u :: u :: u :: u :: .bool (a1.Kind == 4) :: u :: u :: u :: u :: u :: u :: u :: u :: u :: u :: u :: u :: u :: u :: u :: u :: u :: u :: u :: u :: u :: u :: u :: u :: u :: u :: u :: u :: u :: u :: u :: u :: u :: u :: u :: u :: u :: u :: u :: u :: u :: u :: u :: u :: u :: u :: u :: u :: u :: u :: u :: u :: u :: u :: u :: u :: u :: u :: u :: u :: u :: u :: u :: u :: u :: u :: u :: u :: u :: u :: u :: u :: u :: u :: u :: u :: u :: u :: u :: u :: u :: u :: u :: u :: u :: u :: u :: u :: u :: u :: u :: u :: u :: u :: u :: u :: u :: u :: u :: u :: u :: u :: u :: u :: u :: u :: u :: u :: u :: u :: u :: u :: u :: u :: u :: u :: u :: u :: u :: u :: [])) rfl ?_
                  exact cut_n hK46 ⟨_, (Option.some.inj h).symm, rfl, hS⟩
                · refine w_reg gC ?_
                  try simp only [W, EE, Nat.reduceAdd]
                  refine seq_n hK47 ?_
                  refine w_killE (s' := (.ptr i0 w0 0 0 :: u :: u :: .ptr ip2 wp2 0 0 :: u :: u :: u :: u :: .int .i64 a1.Kind :: .bool x12 :: u :: u :: u :: u :: u :: u :: u :: u :: u :: u :: u :: u :: u :: u :: u :: u :: u :: u :: u :: u :: u :: u :: u :: u :: .bool (a1.Kind == 5) :: u :: u :: u :: u :: u :: u :: u :: u :: u :: u :: u :: u :: u :: u :: u :: u :: u :: u :: u :: u :: u :: u :: u :: u :: u :: u :: u :: u :: u :: u :: u :: u :: u :: u :: u :: u :: u :: u :: u :: u :: u :: u :: u :: u :: u :: u :: u :: u :: u :: u :: u :: u :: u :: u :: u :: u :: u :: u :: u :: u :: u :: u :: u :: u :: u :: u :: u :: u :: u :: u :: u :: u :: u :: u :: u :: u :: u :: u :: u :: u :: u :: u :: u :: u :: u :: u :: u :: u :: u :: u :: u :: u :: u :: u :: u :: u :: u :: u :: u :: u :: u :: u :: u :: u :: u :: u :: u :: u :: u :: u :: u :: u :: u :: u :: u :: u :: u :: u :: u :: u :: [])) rfl ?_
                  exact cut_n hK46 ⟨_, (Option.some.inj h).symm, rfl, hS⟩
              · obtain ⟨x43, ey, rfl, hS⟩ := hq; obtain rfl := ey.symm
                replace h := g45
                try dsimp only at h
                refine seq_n hK41 ?_
                refine w_killE (s' := (.ptr i0 w0 0 0 :: u :: u :: .ptr ip2 wp2 0 0 :: u :: u :: u :: u :: .int .i64 a1.Kind :: .bool x12 :: u :: u :: u :: u :: u :: u :: u :: u :: u :: u :: u :: u :: u :: u :: u :: u :: u :: u :: u :: u :: u :: u :: u :: u :: .bool x43 :: u :: u :: u :: u :: u :: u :: u :: u :: u :: u :: u :: u :: u :: u :: u :: u :: u :: u :: u :: u :: u :: u :: u :: u :: u :: u :: u :: u :: u :: u :: u :: u :: u :: u :: u :: u :: u :: u :: u :: u :: u :: u :: u :: u :: u :: u :: u :: u :: u :: u :: u :: u :: u :: u :: u :: u :: u :: u :: u :: u :: u :: u :: u :: u :: u :: u :: u :: u :: u :: u :: u :: u :: u :: u :: u :: u :: u :: u :: u :: u :: u :: u :: u :: u :: u :: u :: u :: u :: u :: u :: u :: u :: u :: u :: u :: u :: u :: u :: u :: u :: u :: u :: u :: u :: u :: u :: u :: u :: u :: u :: u :: u :: u :: u :: u :: u :: u :: u :: u :: u :: [])) rfl ?_
                exact cut_n hK40 ⟨_, (Option.some.inj h).symm, rfl, hS⟩
          · obtain ⟨x37, ey, rfl, hS⟩ := hq; obtain rfl := ey.symm
            replace h := g39
            try dsimp only at h
            refine seq_n hK35 ?_
            obtain ⟨y48, h, g49⟩ := Option.bind_eq_some_iff.1 h
            refine w_join gC (fun s H => y48 = LR.next () ∧ s = (.ptr i0 w0 0 0 :: u :: u :: .ptr ip2 wp2 0 0 :: u :: u :: u :: u :: .int .i64 a1.Kind :: .bool x12 :: u :: u :: u :: u :: u :: u :: u :: u :: u :: u :: u :: u :: u :: u :: u :: u :: u :: u :: u :: u :: u :: u :: u :: u :: .bool x37 :: u :: u :: u :: u :: u :: u :: u :: u :: u :: u :: u :: u :: u :: u :: u :: u :: u :: u :: u :: u :: u :: u :: u :: u :: u :: u :: u :: u :: u :: u :: u :: u :: u :: u :: u :: u :: u :: u :: u :: u :: u :: u :: u :: u :: u :: u :: u :: u :: u :: u :: u :: u :: u :: u :: u :: u :: u :: u :: u :: u :: u :: u :: u :: u :: u :: u :: u :: u :: u :: u :: u :: u :: u :: u :: u :: u :: u :: u :: u :: u :: u :: u :: u :: u :: u :: u :: u :: u :: u :: u :: u :: u :: u :: u :: u :: u :: u :: u :: u :: u :: u :: u :: u :: u :: u :: u :: u :: u :: u :: u :: u :: u :: u :: u :: u :: u :: u :: u :: u :: u :: []) ∧ Own H (⟨m101, 4, a0.Cases.map e_Case⟩ :: ⟨m102, 3, a0.Line.map e_Slip⟩ :: ⟨.ptr i0 w0 0 0, 3, [.agg [.int .i64 a0.Now, m101, m102]]⟩ :: ⟨.ptr ip2 wp2 0 0, 2, [.agg [.int .i64 a1.Kind, .int .i64 a1.K]]⟩ :: F)) (fun K50 hK50 => ?_) (fun s H hq => ?_)
            · refine w_seq fun K51 hK51 => ?_
              refine w_if ?_
              simp only [W]
              refine w_cnd h (fun hc h => ?_) (fun hc h => ?_)
              · refine w_seq fun K52 hK52 => ?_
                refine w_draw0 gC (by kernel_rfl) ?_
                try simp only [W, EE, Nat.reduceAdd, Nat.reduceBEq, hS.var 2 rfl, hS.var 3 rfl]
                refine w_len 1 hS rfl qm102 rfl ?_
                try simp only [W, EE]
                refine w_callS (rsh := [[.sc]]) (ys := [.int .i64 a1.K, .int .i64 0, .int .i64 (IntKind.i64.wrap ((a0.Line.length : Int) - 1))]) h rfl (by rfl) fun b53 hb53 h => ⟨.bool b53, impl_in_w hb53 (Own.nil _) fun H hS => TV_ok rfl (TV_p rfl (TV_n rfl)), ⟨rfl, rfl, fun _ => rfl⟩, ?_⟩
                try simp only [W]
                refine seq_n hK52 ?_
                refine w_if ?_
                simp only [W]
                refine w_cnd h (fun hc h => ?_) (fun hc h => ?_)
                · refine w_seq fun K54 hK54 => ?_
                  refine w_reg gC ?_
                  try simp only [W, Nat.reduceAdd]
                  refine seq_n hK54 ?_
                  refine w_ret ?_
                  refine seq_r hK51 ?_
                  try obtain rfl := Option.some.inj h
                  obtain rfl := Option.some.inj g49
                  have h : (some (LR.done (LR.done (false, a0))) : Option (LR Unit (LR Unit (Bool × Court)))) = some (LR.done (LR.done (false, a0))) := rfl
                  refine cut_r hK50 ?_
                  refine seq_r hK20 ?_
                  try obtain rfl := Option.some.inj h
                  obtain rfl := Option.some.inj g18
                  have h : (some (LR.done (false, a0)) : Option (LR Unit (Bool × Court))) = some (LR.done (false, a0)) := rfl
                  refine cut_r hK19 ?_
                  refine blk_r hK6 ?_
                  try obtain rfl := Option.some.inj h
                  obtain rfl := Option.some.inj g8
                  have h : (some (false, a0) : Option (Bool × Court)) = some (false, a0) := rfl
                  refine cut_r hK9 ?_
                  refine seq_r hK4 ?_
                  refine fin_r1 hK0 rfl ?_
                  try obtain rfl := Option.some.inj h
                  exact hP _ qm101 _ qm102 _ (hS.sel 4 [2, 0, 1] (by decide))
                · refine w_skip ?_
                  refine seq_n hK51 ?_
                  refine w_killE (s' := (.ptr i0 w0 0 0 :: u :: u :: .ptr ip2 wp2 0 0 :: u :: u :: u :: u :: .int .i64 a1.Kind :: .bool x12 :: u :: u :: u :: u :: u :: u :: u :: u :: u :: u :: u :: u :: u :: u :: u :: u :: u :: u :: u :: u :: u :: u :: u :: u :: .bool x37 :: u :: u :: u :: u :: u :: u :: u :: u :: u :: u :: u :: u :: u :: u :: u :: u :: u :: u :: u :: u :: u :: u :: u :: u :: u :: u :: u :: u :: u :: u :: u :: u :: u :: u :: u :: u :: u :: u :: u :: u :: u :: u :: u :: u :: u :: u :: u :: u :: u :: u :: u :: u :: u :: u :: u :: u :: u :: u :: u :: u :: u :: u :: u :: u :: u :: u :: u :: u :: u :: u :: u :: u :: u :: u :: u :: u :: u :: u :: u :: u :: u :: u :: u :: u :: u :: u :: u :: u :: u :: u :: u :: u :: u :: u :: u :: u :: u :: u :: u :: u :: u :: u :: u :: u :: u :: u :: u :: u :: u :: u :: u :: u :: u :: u :: u :: u :: u :: u :: u :: u :: [])) rfl ?_
                  exact cut_n hK50 ⟨(Option.some.inj h).symm, rfl, hS⟩
              · refine w_skip ?_
                refine seq_n hK51 ?_
                refine w_killE (s' := (.ptr i0 w0 0 0 :: u :: u :: .ptr ip2 wp2 0 0 :: u :: u :: u :: u :: .int .i64 a1.Kind :: .bool x12 :: u :: u :: u :: u :: u :: u :: u :: u :: u :: u :: u :: u :: u :: u :: u :: u :: u :: u :: u :: u :: u :: u :: u :: u :: .bool x37 :: u :: u :: u :: u :: u :: u :: u :: u :: u :: u :: u :: u :: u :: u :: u :: u :: u :: u :: u :: u :: u :: u :: u :: u :: u :: u :: u :: u :: u :: u :: u :: u :: u :: u :: u :: u :: u :: u :: u :: u :: u :: u :: u :: u :: u :: u :: u :: u :: u :: u :: u :: u :: u :: u :: u :: u :: u :: u :: u :: u :: u :: u :: u :: u :: u :: u :: u :: u :: u :: u :: u :: u :: u :: u :: u :: u :: u :: u :: u :: u :: u :: u :: u :: u :: u :: u :: u :: u :: u :: u :: u :: u :: u :: u :: u :: u :: u :: u :: u :: u :: u :: u :: u :: u :: u :: u :: u :: u :: u :: u :: u :: u :: u :: u :: u :: u :: u :: u :: u :: u :: [])) rfl ?_
                exact cut_n hK50 ⟨(Option.some.inj h).symm, rfl, hS⟩
            · obtain ⟨rfl, rfl, hS⟩ := hq
              replace h := g49
              try dsimp only at h
              refine seq_n hK20 ?_
              refine w_killE (s' := (.ptr i0 w0 0 0 :: u :: u :: .ptr ip2 wp2 0 0 :: u :: u :: u :: u :: .int .i64 a1.Kind :: .bool x12 :: u :: u :: u :: u :: u :: u :: u :: u :: u :: u :: u :: u :: u :: u :: u :: u :: u :: u :: u :: u :: u :: u :: u :: u :: u :: u :: u :: u :: u :: u :: u :: u :: u :: u :: u :: u :: u :: u :: u :: u :: u :: u :: u :: u :: u :: u :: u :: u :: u :: u :: u :: u :: u :: u :: u :: u :: u :: u :: u :: u :: u :: u :: u :: u :: u :: u :: u :: u :: u :: u :: u :: u :: u :: u :: u :: u :: u :: u :: u :: u :: u :: u :: u :: u :: u :: u :: u :: u :: u :: u :: u :: u :: u :: u :: u :: u :: u :: u :: u :: u :: u :: u :: u :: u :: u :: u :: u :: u :: u :: u :: u :: u :: u :: u :: u :: u :: u :: u :: u :: u :: u :: u :: u :: u :: u :: u :: u :: u :: u :: u :: u :: u :: u :: u :: u :: u :: u :: u :: u :: u :: u :: u :: u :: u :: u :: [])) rfl ?_
              exact cut_n hK19 ⟨(Option.some.inj h).symm, rfl, hS⟩
      · obtain ⟨rfl, rfl, hS⟩ := hq
        replace h := g18
        try dsimp only at h
        refine blk_n hK6 ?_
        exact cut_n hK9 ⟨(Option.some.inj h).symm, rfl, hS⟩
  · obtain ⟨rfl, rfl, hS⟩ := hq
    replace h := g8
    try dsimp only at h
    refine seq_n hK4 ?_
    refine w_seq fun K61 hK61 => ?_
    refine w_seq fun K62 hK62 => ?_
    refine w_reg gC ?_
    try simp only [W, EE, Nat.reduceAdd, Nat.reduceBEq, hS.var 3 rfl]
    refine seq_n hK62 ?_
    obtain ⟨y69, h, g70⟩ := Option.bind_eq_some_iff.1 h
    refine w_join gC (fun s H => ∃ x64 : Int, ∃ x65 : List Case, ∃ x67 : List Slip, y69 = LR.next (x64, x65, x67) ∧ ∃ v66 : AV, isSl v66 ∧ ∃ v68 : AV, isSl v68 ∧ s = (u :: u :: u :: u :: u :: u :: u :: u :: u :: u :: u :: u :: u :: u :: u :: u :: u :: u :: u :: u :: u :: u :: u :: u :: u :: u :: u :: u :: u :: u :: u :: u :: u :: u :: u :: u :: u :: u :: u :: u :: u :: u :: u :: u :: u :: u :: u :: u :: u :: u :: u :: u :: u :: u :: u :: u :: u :: u :: u :: u :: u :: u :: u :: u :: u :: u :: u :: u :: u :: u :: u :: u :: u :: u :: u :: u :: u :: u :: u :: u :: u :: u :: u :: u :: u :: u :: u :: u :: u :: u :: u :: u :: u :: u :: u :: u :: u :: u :: u :: u :: u :: u :: u :: u :: u :: u :: u :: u :: u :: u :: u :: u :: u :: u :: u :: u :: u :: u :: u :: u :: u :: u :: u :: u :: u :: u :: u :: u :: u :: u :: u :: u :: u :: u :: u :: u :: u :: u :: u :: u :: u :: u :: u :: u :: u :: u :: u :: u :: u :: u :: u :: u :: u :: u :: u :: []) ∧ Own H (⟨v66, 4, x65.map e_Case⟩ :: ⟨v68, 3, x67.map e_Slip⟩ :: ⟨.ptr i0 w0 0 0, 3, [.agg [.int .i64 x64, v66, v68]]⟩ :: F)) (fun K71 hK71 => ?_) (fun s H hq => ?_)
    · refine w_blk fun K63 hK63 => ?_
      refine w_seq fun K72 hK72 => ?_
      refine w_reg gC ?_
      try simp only [W, EE, Nat.reduceAdd]
      refine seq_n hK72 ?_
      obtain ⟨y79, h, g80⟩ := Option.bind_eq_some_iff.1 h
      refine w_join gC (fun s H => ∃ x73 : Int, ∃ x74 : List Case, ∃ x76 : List Slip, y79 = LR.next (x73, x74, x76) ∧ ∃ v75 : AV, isSl v75 ∧ ∃ v77 : AV, isSl v77 ∧ s = (u :: u :: u :: u :: u :: u :: u :: u :: u :: u :: u :: u :: u :: u :: u :: u :: u :: u :: u :: u :: u :: u :: u :: u :: u :: u :: u :: u :: u :: u :: u :: u :: u :: u :: u :: u :: u :: u :: u :: u :: u :: u :: u :: u :: u :: u :: u :: u :: u :: u :: u :: u :: u :: u :: u :: u :: u :: u :: u :: u :: u :: u :: u :: u :: u :: u :: u :: u :: u :: u :: u :: u :: u :: u :: u :: u :: u :: u :: u :: u :: u :: u :: u :: u :: u :: u :: u :: u :: u :: u :: u :: u :: u :: u :: u :: u :: u :: u :: u :: u :: u :: u :: u :: u :: u :: u :: u :: u :: u :: u :: u :: u :: u :: u :: u :: u :: u :: u :: u :: u :: u :: u :: u :: u :: u :: u :: u :: u :: u :: u :: u :: u :: u :: u :: u :: u :: u :: u :: u :: u :: u :: u :: u :: u :: u :: u :: u :: u :: u :: u :: u :: u :: u :: u :: u :: []) ∧ Own H (⟨v75, 4, x74.map e_Case⟩ :: ⟨v77, 3, x76.map e_Slip⟩ :: ⟨.ptr i0 w0 0 0, 3, [.agg [.int .i64 x73, v75, v77]]⟩ :: F)) (fun K81 hK81 => ?_) (fun s H hq => ?_)
      · refine w_seq fun K82 hK82 => ?_
        refine w_if ?_
        simp only [W]
        refine w_cnd h (fun hc h => ?_) (fun hc h => ?_)
        · refine w_seq fun K83 hK83 => ?_
          refine w_reg gC ?_
          try simp only [W, Nat.reduceAdd]
          refine seq_n hK83 ?_
          refine w_seq fun K84 hK84 => ?_
          refine w_seq fun K85 hK85 => ?_
          refine w_draw0 gC (by kernel_rfl) ?_
          try simp only [W, EE, Nat.reduceAdd, Nat.reduceBEq, hS.var 2 rfl, hS.var 3 rfl]
          refine w_ow 0 hS rfl rfl rfl rfl rfl h (fun b86 in87 wn87 on87 hb86 h en87 => ?_) qm101.ne
          obtain ⟨kn87, hbn87, hen87⟩ := hS.elem 0 rfl en87 hb86
          try simp only [W, EE, EN, Nat.reduceAdd, Nat.reduceBEq, hbn87, hen87]
          refine seq_n hK85 ?_
          obtain ⟨y89, h, g90⟩ := Option.bind_eq_some_iff.1 h
          refine w_join gC (fun s H => ∃ x88 : Int, y89 = (x88) ∧ s = (.ptr i0 w0 0 0 :: u :: u :: .ptr ip2 wp2 0 0 :: u :: .int .i64 x88 :: u :: u :: u :: u :: u :: u :: u :: u :: u :: u :: u :: u :: u :: u :: u :: u :: u :: u :: u :: u :: u :: u :: u :: u :: u :: u :: u :: u :: u :: u :: u :: u :: u :: u :: u :: u :: u :: u :: u :: u :: u :: u :: u :: u :: u :: u :: u :: u :: u :: u :: u :: u :: u :: u :: u :: u :: u :: u :: u :: u :: u :: u :: u :: u :: u :: u :: u :: u :: u :: u :: u :: u :: u :: u :: u :: u :: u :: u :: u :: u :: u :: u :: u :: u :: u :: u :: u :: u :: u :: u :: u :: u :: u :: u :: u :: u :: u :: u :: u :: u :: u :: u :: u :: u :: u :: u :: u :: u :: u :: u :: u :: u :: u :: u :: u :: u :: u :: u :: u :: u :: u :: u :: u :: u :: u :: u :: u :: u :: u :: u :: u :: u :: u :: u :: u :: u :: u :: u :: u :: u :: u :: u :: u :: u :: u :: u :: u :: u :: u :: []) ∧ Own H (⟨m101, 4, a0.Cases.map e_Case⟩ :: ⟨m102, 3, a0.Line.map e_Slip⟩ :: ⟨.ptr i0 w0 0 0, 3, [.agg [.int .i64 a0.Now, m101, m102]]⟩ :: ⟨.ptr ip2 wp2 0 0, 2, [.agg [.int .i64 a1.Kind, .int .i64 a1.K]]⟩ :: F)) (fun K91 hK91 => ?_) (fun s H hq => ?_)
          · refine w_seq fun K92 hK92 => ?_
            refine w_if ?_
            simp only [W]
            refine w_cnd h (fun hc h => ?_) (fun hc h => ?_)
            · refine w_reg gC ?_
              try simp only [W, Nat.reduceAdd]
              refine seq_n hK92 ?_
              refine w_killE (s' := (.ptr i0 w0 0 0 :: u :: u :: .ptr ip2 wp2 0 0 :: u :: .int .i64 2 :: u :: u :: u :: u :: u :: u :: u :: u :: u :: u :: u :: u :: u :: u :: u :: u :: u :: u :: u :: u :: u :: u :: u :: u :: u :: u :: u :: u :: u :: u :: u :: u :: u :: u :: u :: u :: u :: u :: u :: u :: u :: u :: u :: u :: u :: u :: u :: u :: u :: u :: u :: u :: u :: u :: u :: u :: u :: u :: u :: u :: u :: u :: u :: u :: u :: u :: u :: u :: u :: u :: u :: u :: u :: u :: u :: u :: u :: u :: u :: u :: u :: u :: u :: u :: u :: u :: u :: u :: u :: u :: u :: u :: u :: u :: u :: u :: u :: u :: u :: u :: u :: u :: u :: u :: u :: u :: u :: u :: u :: u :: u :: u :: u :: u :: u :: u :: u :: u :: u :: u :: u :: u :: u :: u :: u :: u :: u :: u :: u :: u :: u :: u :: u :: u :: u :: u :: u :: u :: u :: u :: u :: u :: u :: u :: u :: u :: u :: u :: u :: [])) rfl ?_
              exact cut_n hK91 ⟨_, (Option.some.inj h).symm, rfl, hS⟩
            · refine w_skip ?_
              refine seq_n hK92 ?_
              refine w_killE (s' := (.ptr i0 w0 0 0 :: u :: u :: .ptr ip2 wp2 0 0 :: u :: .int .i64 1 :: u :: u :: u :: u :: u :: u :: u :: u :: u :: u :: u :: u :: u :: u :: u :: u :: u :: u :: u :: u :: u :: u :: u :: u :: u :: u :: u :: u :: u :: u :: u :: u :: u :: u :: u :: u :: u :: u :: u :: u :: u :: u :: u :: u :: u :: u :: u :: u :: u :: u :: u :: u :: u :: u :: u :: u :: u :: u :: u :: u :: u :: u :: u :: u :: u :: u :: u :: u :: u :: u :: u :: u :: u :: u :: u :: u :: u :: u :: u :: u :: u :: u :: u :: u :: u :: u :: u :: u :: u :: u :: u :: u :: u :: u :: u :: u :: u :: u :: u :: u :: u :: u :: u :: u :: u :: u :: u :: u :: u :: u :: u :: u :: u :: u :: u :: u :: u :: u :: u :: u :: u :: u :: u :: u :: u :: u :: u :: u :: u :: u :: u :: u :: u :: u :: u :: u :: u :: u :: u :: u :: u :: u :: u :: u :: u :: u :: u :: u :: u :: [])) rfl ?_
              exact cut_n hK91 ⟨_, (Option.some.inj h).symm, rfl, hS⟩
          · obtain ⟨x88, ey, rfl, hS⟩ := hq; obtain rfl := ey.symm
            replace h := g90
            try dsimp only at h
            refine seq_n hK84 ?_
            refine w_reg gC ?_
            try simp only [W, EE, Nat.reduceAdd, Nat.reduceBEq, hS.var 3 rfl]
            refine w_bld rfl rfl rfl rfl rfl ?_
            try simp only [W]
            refine w_call h fun b93 hb93 h => ?_
            refine impl_Court_goes_w hb93 (hS.sel 4 [2, 0, 1, 3] (by decide)) qm101 qm102 fun v94 qv94 v95 qv95 H hS => ?_
            try simp only [W]
            refine seq_n hK82 ?_
            refine w_killE (s' := (u :: u :: u :: u :: u :: u :: u :: u :: u :: u :: u :: u :: u :: u :: u :: u :: u :: u :: u :: u :: u :: u :: u :: u :: u :: u :: u :: u :: u :: u :: u :: u :: u :: u :: u :: u :: u :: u :: u :: u :: u :: u :: u :: u :: u :: u :: u :: u :: u :: u :: u :: u :: u :: u :: u :: u :: u :: u :: u :: u :: u :: u :: u :: u :: u :: u :: u :: u :: u :: u :: u :: u :: u :: u :: u :: u :: u :: u :: u :: u :: u :: u :: u :: u :: u :: u :: u :: u :: u :: u :: u :: u :: u :: u :: u :: u :: u :: u :: u :: u :: u :: u :: u :: u :: u :: u :: u :: u :: u :: u :: u :: u :: u :: u :: u :: u :: u :: u :: u :: u :: u :: u :: u :: u :: u :: u :: u :: u :: u :: u :: u :: u :: u :: u :: u :: u :: u :: u :: u :: u :: u :: u :: u :: u :: u :: u :: u :: u :: u :: u :: u :: u :: u :: u :: u :: [])) rfl ?_
            exact cut_n hK81 ⟨_, _, _, (Option.some.inj h).symm, _, qv94, _, qv95, rfl, (hS.sel 4 [1, 2, 0] (by decide))⟩
        · refine w_seq fun K96 hK96 => ?_
          refine w_reg gC ?_
          try simp only [W, EE, Nat.reduceAdd]
          refine seq_n hK96 ?_
          obtain ⟨y103, h, g104⟩ := Option.bind_eq_some_iff.1 h
          refine w_join gC (fun s H => ∃ x97 : Int, ∃ x98 : List Case, ∃ x100 : List Slip, y103 = LR.next (x97, x98, x100) ∧ ∃ v99 : AV, isSl v99 ∧ ∃ v101 : AV, isSl v101 ∧ s = (u :: u :: u :: u :: u :: u :: u :: u :: u :: u :: u :: u :: u :: u :: u :: u :: u :: u :: u :: u :: u :: u :: u :: u :: u :: u :: u :: u :: u :: u :: u :: u :: u :: u :: u :: u :: u :: u :: u :: u :: u :: u :: u :: u :: u :: u :: u :: u :: u :: u :: u :: u :: u :: u :: u :: u :: u :: u :: u :: u :: u :: u :: u :: u :: u :: u :: u :: u :: u :: u :: u :: u :: u :: u :: u :: u :: u :: u :: u :: u :: u :: u :: u :: u :: u :: u :: u :: u :: u :: u :: u :: u :: u :: u :: u :: u :: u :: u :: u :: u :: u :: u :: u :: u :: u :: u :: u :: u :: u :: u :: u :: u :: u :: u :: u :: u :: u :: u :: u :: u :: u :: u :: u :: u :: u :: u :: u :: u :: u :: u :: u :: u :: u :: u :: u :: u :: u :: u :: u :: u :: u :: u :: u :: u :: u :: u :: u :: u :: u :: u :: u :: u :: u :: u :: u :: []) ∧ Own H (⟨v99, 4, x98.map e_Case⟩ :: ⟨v101, 3, x100.map e_Slip⟩ :: ⟨.ptr i0 w0 0 0, 3, [.agg [.int .i64 x97, v99, v101]]⟩ :: F)) (fun K105 hK105 => ?_) (fun s H hq => ?_)
          · refine w_seq fun K106 hK106 => ?_
            refine w_if ?_
            simp only [W]
            refine w_cnd h (fun hc h => ?_) (fun hc h => ?_)
            · refine w_seq fun K107 hK107 => ?_
              refine w_seq fun K108 hK108 => ?_
              refine w_draw0 gC (by kernel_rfl) ?_
              try simp only [W, EE, Nat.reduceAdd, Nat.reduceBEq, hS.var 2 rfl, hS.var 3 rfl]
              refine w_ow 0 hS rfl rfl rfl rfl rfl h (fun b109 in110 wn110 on110 hb109 h en110 => ?_) qm101.ne
              obtain ⟨kn110, hbn110, hen110⟩ := hS.elem 0 rfl en110 hb109
              try simp only [W, EE, EN, Nat.reduceAdd, Nat.reduceBEq, hbn110, hen110]
              refine seq_n hK108 ?_
              refine w_if ?_
              simp only [W]
              refine w_cnd h (fun hc h => ?_) (fun hc h => ?_)
              · refine w_seq fun K111 hK111 => ?_
                refine w_reg gC ?_
                try simp only [W, Nat.reduceAdd]
                refine seq_n hK111 ?_
                refine w_ret ?_
                refine seq_r hK107 ?_
                refine seq_r hK106 ?_
                try obtain rfl := Option.some.inj h
                obtain rfl := Option.some.inj g104
                have h : (some (LR.done (LR.done (false, a0))) : Option (LR (Int × (List Case) × (List Slip)) (LR (Int × (List Case) × (List Slip)) (Bool × Court)))) = some (LR.done (LR.done (false, a0))) := rfl
                refine cut_r hK105 ?_
                refine seq_r hK82 ?_
                try obtain rfl := Option.some.inj h
                obtain rfl := Option.some.inj g80
                have h : (some (LR.done (false, a0)) : Option (LR (Int × (List Case) × (List Slip)) (Bool × Court))) = some (LR.done (false, a0)) := rfl
                refine cut_r hK81 ?_
                refine blk_r hK63 ?_
                try obtain rfl := Option.some.inj h
                obtain rfl := Option.some.inj g70
                have h : (some (false, a0) : Option (Bool × Court)) = some (false, a0) := rfl
                refine cut_r hK71 ?_
                refine seq_r hK61 ?_
                refine fin_r1 hK0 rfl ?_
                try obtain rfl := Option.some.inj h
                exact hP _ qm101 _ qm102 _ (hS.sel 4 [2, 0, 1] (by decide))
              · refine w_skip ?_
                refine seq_n hK107 ?_
                refine w_drawL gC [(8, [])] (by kernel_rfl) rfl (by kernel_rfl) ?_
                try simp only [W, EE, reduceIte, Nat.reduceAdd, Nat.reduceBEq, hS.var 2 rfl, hS.var 3 rfl, tabAt, qAt, Nat.reduceEqDiff]
                refine w_ow 0 hS rfl rfl rfl rfl rfl h (fun b118 in119 wn119 on119 hb118 h en119 => ?_) qm101.ne
                obtain ⟨kn119, hbn119, hen119⟩ := hS.elem 0 rfl en119 hb118
                try simp only [W, EE, Nat.reduceAdd, Nat.reduceBEq, hbn119]
                refine w_ste (a := .bool true) (y' := (⟨b118.End, true, b118.Final, b118.Said⟩ : Case)) 0 hS rfl en119 hb118 rfl rfl rfl rfl rfl rfl rfl fun H hS => ?_
                try simp only [W]
                refine seq_n hK106 ?_
                refine w_killE (s' := (u :: u :: u :: u :: u :: u :: u :: u :: u :: u :: u :: u :: u :: u :: u :: u :: u :: u :: u :: u :: u :: u :: u :: u :: u :: u :: u :: u :: u :: u :: u :: u :: u :: u :: u :: u :: u :: u :: u :: u :: u :: u :: u :: u :: u :: u :: u :: u :: u :: u :: u :: u :: u :: u :: u :: u :: u :: u :: u :: u :: u :: u :: u :: u :: u :: u :: u :: u :: u :: u :: u :: u :: u :: u :: u :: u :: u :: u :: u :: u :: u :: u :: u :: u :: u :: u :: u :: u :: u :: u :: u :: u :: u :: u :: u :: u :: u :: u :: u :: u :: u :: u :: u :: u :: u :: u :: u :: u :: u :: u :: u :: u :: u :: u :: u :: u :: u :: u :: u :: u :: u :: u :: u :: u :: u :: u :: u :: u :: u :: u :: u :: u :: u :: u :: u :: u :: u :: u :: u :: u :: u :: u :: u :: u :: u :: u :: u :: u :: u :: u :: u :: u :: u :: u :: u :: [])) rfl ?_
                exact cut_n hK105 ⟨_, _, _, (Option.some.inj h).symm, _, qm101, _, qm102, rfl, (hS.sel 4 [0, 1, 2] (by decide))⟩
            · refine w_seq fun K120 hK120 => ?_
              refine w_seq fun K121 hK121 => ?_
              refine w_reg gC ?_
              try simp only [W, EE, Nat.reduceAdd]
              refine seq_n hK121 ?_
              obtain ⟨y123, h, g124⟩ := Option.bind_eq_some_iff.1 h
              refine w_join gC (fun s H => ∃ x122 : Bool, y123 = (x122) ∧ s = (.ptr i0 w0 0 0 :: u :: u :: .ptr ip2 wp2 0 0 :: u :: u :: u :: u :: u :: u :: u :: u :: u :: u :: u :: u :: u :: u :: u :: u :: u :: u :: u :: u :: u :: u :: u :: u :: u :: u :: u :: u :: u :: u :: u :: u :: u :: u :: u :: u :: u :: u :: u :: u :: u :: u :: u :: u :: u :: .int .i64 a1.Kind :: u :: u :: u :: u :: u :: u :: u :: u :: u :: u :: u :: u :: u :: u :: u :: u :: u :: u :: u :: u :: u :: u :: u :: u :: u :: u :: u :: u :: u :: u :: u :: u :: u :: u :: u :: u :: .bool x122 :: u :: u :: u :: u :: u :: u :: u :: u :: u :: u :: u :: u :: u :: u :: u :: u :: u :: u :: u :: u :: u :: u :: u :: u :: u :: u :: u :: u :: u :: u :: u :: u :: u :: u :: u :: u :: u :: u :: u :: u :: u :: u :: u :: u :: u :: u :: u :: u :: u :: u :: u :: u :: u :: u :: u :: u :: u :: u :: u :: u :: u :: u :: u :: u :: u :: u :: u :: u :: []) ∧ Own H (⟨m101, 4, a0.Cases.map e_Case⟩ :: ⟨m102, 3, a0.Line.map e_Slip⟩ :: ⟨.ptr i0 w0 0 0, 3, [.agg [.int .i64 a0.Now, m101, m102]]⟩ :: ⟨.ptr ip2 wp2 0 0, 2, [.agg [.int .i64 a1.Kind, .int .i64 a1.K]]⟩ :: F)) (fun K125 hK125 => ?_) (fun s H hq => ?_)
              · refine w_seq fun K126 hK126 => ?_
                refine w_if ?_
                simp only [W]
                refine w_cnd h (fun hc h => ?_) (fun hc h => ?_)
                · refine w_skip ?_
                  refine seq_n hK126 ?_
                  refine w_killE (s' := (.ptr i0 w0 0 0 :: u :: u :: .ptr ip2 wp2 0 0 :: u :: u :: u :: u :: u :: u :: u :: u :: u :: u :: u :: u :: u :: u :: u :: u :: u :: u :: u :: u :: u :: u :: u :: u :: u :: u :: u :: u :: u :: u :: u :: u :: u :: u :: u :: u :: u :: u :: u :: u :: u :: u :: u :: u :: u :: .int .i64 a1.Kind :: u :: u :: u :: u :: u :: u :: u :: u :: u :: u :: u :: u :: u :: u :: u :: u :: u :: u :: u :: u :: u :: u :: u :: u :: u :: u :: u :: u :: u :: u :: u :: u :: u :: u :: u :: u :: .bool (a1.Kind == 3) :: u :: u :: u :: u :: u :: u :: u :: u :: u :: u :: u :: u :: u :: u :: u :: u :: u :: u :: u :: u :: u :: u :: u :: u :: u :: u :: u :: u :: u :: u :: u :: u :: u :: u :: u :: u :: u :: u :: u :: u :: u :: u :: u :: u :: u :: u :: u :: u :: u :: u :: u :: u :: u :: u :: u :: u :: u :: u :: u :: u :: u :: u :: u :: u :: u :: u :: u :: u :: [])) rfl ?_
                  exact cut_n hK125 ⟨_, (Option.some.inj h).symm, rfl, hS⟩
                · refine w_reg gC ?_
                  try simp only [W, EE, Nat.reduceAdd]
                  refine seq_n hK126 ?_
                  refine w_killE (s' := (.ptr i0 w0 0 0 :: u :: u :: .ptr ip2 wp2 0 0 :: u :: u :: u :: u :: u :: u :: u :: u :: u :: u :: u :: u :: u :: u :: u :: u :: u :: u :: u :: u :: u :: u :: u :: u :: u :: u :: u :: u :: u :: u :: u :: u :: u :: u :: u :: u :: u :: u :: u :: u :: u :: u :: u :: u :: u :: .int .i64 a1.Kind :: u :: u :: u :: u :: u :: u :: u :: u :: u :: u :: u :: u :: u :: u :: u :: u :: u :: u :: u :: u :: u :: u :: u :: u :: u :: u :: u :: u :: u :: u :: u :: u :: u :: u :: u :: u :: .bool (a1.Kind == 4) :: u :: u :: u :: u :: u :: u :: u :: u :: u :: u :: u :: u :: u :: u :: u :: u :: u :: u :: u :: u :: u :: u :: u :: u :: u :: u :: u :: u :: u :: u :: u :: u :: u :: u :: u :: u :: u :: u :: u :: u :: u :: u :: u :: u :: u :: u :: u :: u :: u :: u :: u :: u :: u :: u :: u :: u :: u :: u :: u :: u :: u :: u :: u :: u :: u :: u :: u :: u :: [])) rfl ?_
                  exact cut_n hK125 ⟨_, (Option.some.inj h).symm, rfl, hS⟩
              · obtain ⟨x122, ey, rfl, hS⟩ := hq; obtain rfl := ey.symm
                replace h := g124
                try dsimp only at h
                refine seq_n hK120 ?_
                obtain ⟨y133, h, g134⟩ := Option.bind_eq_some_iff.1 h
                refine w_join gC (fun s H => ∃ x127 : Int, ∃ x128 : List Case, ∃ x130 : List Slip, y133 = LR.next (x127, x128, x130) ∧ ∃ v129 : AV, isSl v129 ∧ ∃ v131 : AV, isSl v131 ∧ s = (.ptr i0 w0 0 0 :: u :: u :: .ptr ip2 wp2 0 0 :: u :: u :: u :: u :: u :: u :: u :: u :: u :: u :: u :: u :: u :: u :: u :: u :: u :: u :: u :: u :: u :: u :: u :: u :: u :: u :: u :: u :: u :: u :: u :: u :: u :: u :: u :: u :: u :: u :: u :: u :: u :: u :: u :: u :: u :: .int .i64 a1.Kind :: u :: u :: u :: u :: u :: u :: u :: u :: u :: u :: u :: u :: u :: u :: u :: u :: u :: u :: u :: u :: u :: u :: u :: u :: u :: u :: u :: u :: u :: u :: u :: u :: u :: u :: u :: u :: .bool x122 :: u :: u :: u :: u :: u :: u :: u :: u :: u :: u :: u :: u :: u :: u :: u :: u :: u :: u :: u :: u :: u :: u :: u :: u :: u :: u :: u :: u :: u :: u :: u :: u :: u :: u :: u :: u :: u :: u :: u :: u :: u :: u :: u :: u :: u :: u :: u :: u :: u :: u :: u :: u :: u :: u :: u :: u :: u :: u :: u :: u :: u :: u :: u :: u :: u :: u :: u :: u :: []) ∧ Own H (⟨v129, 4, x128.map e_Case⟩ :: ⟨v131, 3, x130.map e_Slip⟩ :: ⟨.ptr i0 w0 0 0, 3, [.agg [.int .i64 x127, v129, v131]]⟩ :: ⟨.ptr ip2 wp2 0 0, 2, [.agg [.int .i64 a1.Kind, .int .i64 a1.K]]⟩ :: F)) (fun K135 hK135 => ?_) (fun s H hq => ?_)
                · refine w_seq fun K136 hK136 => ?_
                  refine w_if ?_
                  simp only [W]
                  refine w_cnd h (fun hc h => ?_) (fun hc h => ?_)
                  · refine w_seq fun K137 hK137 => ?_
                    refine w_drawL gC [(9, [])] (by kernel_rfl) rfl (by kernel_rfl) ?_
                    try simp only [W, EE, reduceIte, Nat.reduceAdd, Nat.reduceBEq, hS.var 2 rfl, hS.var 3 rfl, tabAt, qAt, Nat.reduceEqDiff]
                    refine w_ow 1 hS rfl rfl rfl rfl rfl h (fun b138 in139 wn139 on139 hb138 h en139 => ?_) qm102.ne
                    obtain ⟨kn139, hbn139, hen139⟩ := hS.elem 1 rfl en139 hb138
                    try simp only [W, EE, EN, reduceIte, Nat.reduceAdd, Nat.reduceLeDiff, hbn139, hen139]
                    refine w_alloc hS rfl rfl fun ip140 wp140 H hS => ?_
                    try simp only [W]
                    refine w_stv (a := .agg [.int .i64 b138.Kind, .int .i64 b138.Case, .int .i64 b138.What]) (y' := .agg [.int .i64 b138.Kind, .int .i64 b138.Case, .int .i64 b138.What]) 0 hS rfl rfl rfl rfl rfl rfl rfl rfl fun H hS => ?_
                    try simp only [W]
                    refine seq_n hK137 ?_
                    refine w_seq fun K142 hK142 => ?_
                    refine w_drawL gC [(10, [0]), (13, [])] (by kernel_rfl) rfl (by kernel_rfl) ?_
                    try simp only [W, EE, reduceIte, Nat.reduceAdd, Nat.reduceBEq, hS.var 3 rfl, hS.var 4 rfl, tabAt, qAt, Nat.reduceEqDiff]
                    refine w_call h fun b143 hb143 h => ?_
                    refine slices_Delete_impl_Slip_w hb143 (hS.sel 5 [2, 0, 1, 3, 4] (by decide)) qm102 fun v144 qv144 H hS => ?_
                    refine goK_late ?_
                    refine lateG_s (by first | rfl | (simp [evalOp, W, EE, EN, rdAt, mkT, subL, AV.cells, hS.var 1 rfl, hS.var 3 rfl, hS.var 4 rfl]; done)) ?_
                    refine lateG_n ?_
                    try simp only [W, EE, Nat.reduceAdd, Nat.reduceBEq, hS.var 3 rfl]
                    refine w_stv (a := v144) (y' := .agg [.int .i64 a0.Now, m101, v144]) 3 hS rfl rfl rfl rfl (by rw [qv144.cells]; rfl) qv144.stora (qv144.wr _ _ (by simp)) rfl fun H hS => ?_
                    try simp only [W]
                    refine seq_n hK142 ?_
                    refine w_seq fun K146 hK146 => ?_
                    refine w_reg gC ?_
                    try simp only [W, EE, Nat.reduceAdd, Nat.reduceBEq, hS.var 4 rfl]
                    refine seq_n hK146 ?_
                    obtain ⟨y152, h, g153⟩ := Option.bind_eq_some_iff.1 h
                    refine w_join gC (fun s H => ∃ x147 : Int, ∃ x148 : List Case, ∃ x150 : List Slip, y152 = (x147, x148, x150) ∧ ∃ v149 : AV, isSl v149 ∧ ∃ v151 : AV, isSl v151 ∧ s = (.ptr i0 w0 0 0 :: u :: u :: .ptr ip2 wp2 0 0 :: u :: u :: u :: u :: u :: u :: u :: u :: u :: u :: u :: u :: u :: u :: u :: u :: u :: u :: u :: u :: u :: u :: u :: u :: u :: u :: u :: u :: u :: u :: u :: u :: u :: u :: u :: u :: u :: u :: u :: u :: u :: u :: u :: u :: u :: .int .i64 a1.Kind :: u :: u :: u :: u :: u :: u :: u :: u :: u :: u :: u :: u :: u :: u :: u :: u :: u :: u :: u :: u :: u :: u :: u :: u :: u :: u :: u :: u :: u :: u :: u :: u :: u :: u :: u :: u :: .bool x122 :: u :: u :: u :: u :: u :: u :: u :: u :: u :: u :: u :: u :: u :: u :: u :: u :: u :: u :: u :: u :: u :: u :: u :: u :: u :: u :: u :: u :: u :: u :: u :: u :: u :: u :: u :: u :: u :: u :: u :: u :: u :: u :: u :: u :: u :: u :: u :: u :: u :: u :: u :: u :: u :: u :: u :: u :: u :: u :: u :: u :: u :: u :: u :: u :: u :: u :: u :: u :: []) ∧ Own H (⟨v149, 4, x148.map e_Case⟩ :: ⟨v151, 3, x150.map e_Slip⟩ :: ⟨.ptr i0 w0 0 0, 3, [.agg [.int .i64 x147, v149, v151]]⟩ :: ⟨.ptr ip2 wp2 0 0, 2, [.agg [.int .i64 a1.Kind, .int .i64 a1.K]]⟩ :: F)) (fun K154 hK154 => ?_) (fun s H hq => ?_)
                    · refine w_seq fun K155 hK155 => ?_
                      refine w_if ?_
                      simp only [W]
                      refine w_cnd h (fun hc h => ?_) (fun hc h => ?_)
                      · refine w_reg gC ?_
                        try simp only [W, EE, reduceIte, Nat.reduceAdd, Nat.reduceLeDiff, hS.var 1 rfl]
                        refine w_call h fun b156 hb156 h => ?_
                        refine impl_Court_take_w hb156 (hS.sel 5 [3, 2, 0, 1, 4] (by decide)) qm101 qv144 fun v157 qv157 v158 qv158 H hS => ?_
                        try simp only [W]
                        refine seq_n hK155 ?_
                        refine w_killE (s' := (.ptr i0 w0 0 0 :: u :: u :: .ptr ip2 wp2 0 0 :: u :: u :: u :: u :: u :: u :: u :: u :: u :: u :: u :: u :: u :: u :: u :: u :: u :: u :: u :: u :: u :: u :: u :: u :: u :: u :: u :: u :: u :: u :: u :: u :: u :: u :: u :: u :: u :: u :: u :: u :: u :: u :: u :: u :: u :: .int .i64 a1.Kind :: u :: u :: u :: u :: u :: u :: u :: u :: u :: u :: u :: u :: u :: u :: u :: u :: u :: u :: u :: u :: u :: u :: u :: u :: u :: u :: u :: u :: u :: u :: u :: u :: u :: u :: u :: u :: .bool x122 :: u :: u :: u :: u :: u :: u :: u :: u :: u :: u :: u :: u :: u :: u :: u :: u :: u :: u :: u :: u :: u :: u :: u :: u :: u :: u :: u :: u :: u :: u :: u :: u :: u :: u :: u :: u :: u :: u :: u :: u :: u :: u :: u :: u :: u :: u :: u :: u :: u :: u :: u :: u :: u :: u :: u :: u :: u :: u :: u :: u :: u :: u :: u :: u :: u :: u :: u :: u :: [])) rfl ?_
                        exact cut_n hK154 ⟨_, _, _, (Option.some.inj h).symm, _, qv157, _, qv158, rfl, (hS.sel 5 [1, 2, 0, 4] (by decide))⟩
                      · refine w_skip ?_
                        refine seq_n hK155 ?_
                        refine w_killE (s' := (.ptr i0 w0 0 0 :: u :: u :: .ptr ip2 wp2 0 0 :: u :: u :: u :: u :: u :: u :: u :: u :: u :: u :: u :: u :: u :: u :: u :: u :: u :: u :: u :: u :: u :: u :: u :: u :: u :: u :: u :: u :: u :: u :: u :: u :: u :: u :: u :: u :: u :: u :: u :: u :: u :: u :: u :: u :: u :: .int .i64 a1.Kind :: u :: u :: u :: u :: u :: u :: u :: u :: u :: u :: u :: u :: u :: u :: u :: u :: u :: u :: u :: u :: u :: u :: u :: u :: u :: u :: u :: u :: u :: u :: u :: u :: u :: u :: u :: u :: .bool x122 :: u :: u :: u :: u :: u :: u :: u :: u :: u :: u :: u :: u :: u :: u :: u :: u :: u :: u :: u :: u :: u :: u :: u :: u :: u :: u :: u :: u :: u :: u :: u :: u :: u :: u :: u :: u :: u :: u :: u :: u :: u :: u :: u :: u :: u :: u :: u :: u :: u :: u :: u :: u :: u :: u :: u :: u :: u :: u :: u :: u :: u :: u :: u :: u :: u :: u :: u :: u :: [])) rfl ?_
                        exact cut_n hK154 ⟨_, _, _, (Option.some.inj h).symm, _, qm101, _, qv144, rfl, (hS.sel 5 [2, 0, 3, 4] (by decide))⟩
                    · obtain ⟨x147, x148, x150, rfl, v149, qv149, v151, qv151, rfl, hS⟩ := hq
                      replace h := g153
                      try dsimp only at h
                      refine seq_n hK136 ?_
                      refine w_killE (s' := (.ptr i0 w0 0 0 :: u :: u :: .ptr ip2 wp2 0 0 :: u :: u :: u :: u :: u :: u :: u :: u :: u :: u :: u :: u :: u :: u :: u :: u :: u :: u :: u :: u :: u :: u :: u :: u :: u :: u :: u :: u :: u :: u :: u :: u :: u :: u :: u :: u :: u :: u :: u :: u :: u :: u :: u :: u :: u :: .int .i64 a1.Kind :: u :: u :: u :: u :: u :: u :: u :: u :: u :: u :: u :: u :: u :: u :: u :: u :: u :: u :: u :: u :: u :: u :: u :: u :: u :: u :: u :: u :: u :: u :: u :: u :: u :: u :: u :: u :: .bool x122 :: u :: u :: u :: u :: u :: u :: u :: u :: u :: u :: u :: u :: u :: u :: u :: u :: u :: u :: u :: u :: u :: u :: u :: u :: u :: u :: u :: u :: u :: u :: u :: u :: u :: u :: u :: u :: u :: u :: u :: u :: u :: u :: u :: u :: u :: u :: u :: u :: u :: u :: u :: u :: u :: u :: u :: u :: u :: u :: u :: u :: u :: u :: u :: u :: u :: u :: u :: u :: [])) rfl ?_
                      exact cut_n hK135 ⟨_, _, _, (Option.some.inj h).symm, _, qv149, _, qv151, rfl, hS⟩
                  · refine w_seq fun K159 hK159 => ?_
                    refine w_reg gC ?_
                    try simp only [W, EE, Nat.reduceAdd]
                    refine seq_n hK159 ?_
                    obtain ⟨y166, h, g167⟩ := Option.bind_eq_some_iff.1 h
                    refine w_join gC (fun s H => ∃ x160 : Int, ∃ x161 : List Case, ∃ x163 : List Slip, y166 = LR.next (x160, x161, x163) ∧ ∃ v162 : AV, isSl v162 ∧ ∃ v164 : AV, isSl v164 ∧ s = (.ptr i0 w0 0 0 :: u :: u :: .ptr ip2 wp2 0 0 :: u :: u :: u :: u :: u :: u :: u :: u :: u :: u :: u :: u :: u :: u :: u :: u :: u :: u :: u :: u :: u :: u :: u :: u :: u :: u :: u :: u :: u :: u :: u :: u :: u :: u :: u :: u :: u :: u :: u :: u :: u :: u :: u :: u :: u :: .int .i64 a1.Kind :: u :: u :: u :: u :: u :: u :: u :: u :: u :: u :: u :: u :: u :: u :: u :: u :: u :: u :: u :: u :: u :: u :: u :: u :: u :: u :: u :: u :: u :: u :: u :: u :: u :: u :: u :: u :: .bool x122 :: u :: u :: u :: u :: u :: u :: u :: u :: u :: u :: u :: u :: u :: u :: u :: u :: u :: u :: u :: u :: u :: u :: u :: u :: u :: u :: u :: u :: u :: u :: u :: u :: u :: u :: u :: u :: u :: u :: u :: u :: u :: u :: u :: u :: u :: u :: u :: u :: u :: u :: u :: u :: u :: u :: u :: u :: u :: u :: u :: u :: u :: u :: u :: u :: u :: u :: u :: u :: []) ∧ Own H (⟨v162, 4, x161.map e_Case⟩ :: ⟨v164, 3, x163.map e_Slip⟩ :: ⟨.ptr i0 w0 0 0, 3, [.agg [.int .i64 x160, v162, v164]]⟩ :: ⟨.ptr ip2 wp2 0 0, 2, [.agg [.int .i64 a1.Kind, .int .i64 a1.K]]⟩ :: F)) (fun K168 hK168 => ?_) (fun s H hq => ?_)
                    · refine w_seq fun K169 hK169 => ?_
                      refine w_if ?_
                      simp only [W]
                      refine w_cnd h (fun hc h => ?_) (fun hc h => ?_)
                      · refine w_seq fun K170 hK170 => ?_
                        refine w_seq fun K171 hK171 => ?_
                        refine w_reg gC ?_
                        try simp only [W, EE, Nat.reduceAdd, Nat.reduceBEq, hS.var 2 rfl]
                        refine w_len 1 hS rfl qm102 rfl ?_
                        try simp only [W, EE]
                        refine seq_n hK171 ?_
                        refine w_if ?_
                        simp only [W]
                        refine w_cnd h (fun hc h => ?_) (fun hc h => ?_)
                        · refine w_seq fun K172 hK172 => ?_
                          refine w_reg gC ?_
                          try simp only [W, Nat.reduceAdd]
                          refine seq_n hK172 ?_
                          refine w_ret ?_
                          refine seq_r hK170 ?_
                          refine seq_r hK169 ?_
                          try obtain rfl := Option.some.inj h
                          obtain rfl := Option.some.inj g167
                          have h : (some (LR.done (LR.done (LR.done (LR.done (false, a0))))) : Option (LR (Int × (List Case) × (List Slip)) (LR (Int × (List Case) × (List Slip)) (LR (Int × (List Case) × (List Slip)) (LR (Int × (List Case) × (List Slip)) (Bool × Court)))))) = some (LR.done (LR.done (LR.done (LR.done (false, a0))))) := rfl
                          refine cut_r hK168 ?_
                          refine seq_r hK136 ?_
                          try obtain rfl := Option.some.inj h
                          obtain rfl := Option.some.inj g134
                          have h : (some (LR.done (LR.done (LR.done (false, a0)))) : Option (LR (Int × (List Case) × (List Slip)) (LR (Int × (List Case) × (List Slip)) (LR (Int × (List Case) × (List Slip)) (Bool × Court))))) = some (LR.done (LR.done (LR.done (false, a0)))) := rfl
                          refine cut_r hK135 ?_
                          refine seq_r hK106 ?_
                          try obtain rfl := Option.some.inj h
                          obtain rfl := Option.some.inj g104
                          have h : (some (LR.done (LR.done (false, a0))) : Option (LR (Int × (List Case) × (List Slip)) (LR (Int × (List Case) × (List Slip)) (Bool × Court)))) = some (LR.done (LR.done (false, a0))) := rfl
                          refine cut_r hK105 ?_
                          refine seq_r hK82 ?_
                          try obtain rfl := Option.some.inj h
                          obtain rfl := Option.some.inj g80
                          have h : (some (LR.done (false, a0)) : Option (LR (Int × (List Case) × (List Slip)) (Bool × Court))) = some (LR.done (false, a0)) := rfl
                          refine cut_r hK81 ?_
                          refine blk_r hK63 ?_
                          try obtain rfl := Option.some.inj h
                          obtain rfl := Option.some.inj g70
                          have h : (some (false, a0) : Option (Bool × Court)) = some (false, a0) := rfl
                          refine cut_r hK71 ?_
                          refine seq_r hK61 ?_
                          refine fin_r1 hK0 rfl ?_
                          try obtain rfl := Option.some.inj h
                          exact hP _ qm101 _ qm102 _ (hS.sel 4 [2, 0, 1] (by decide))
                        · refine w_skip ?_
                          refine seq_n hK170 ?_
                          refine w_drawL gC [(14, [0]), (17, [])] (by kernel_rfl) rfl (by kernel_rfl) ?_
                          try simp only [W, EE, reduceIte, Nat.reduceAdd, Nat.reduceBEq, hS.var 2 rfl, hS.var 3 rfl, tabAt, qAt, Nat.reduceEqDiff]
                          refine w_ow 1 hS rfl rfl rfl rfl rfl h (fun b183 in184 wn184 on184 hb183 h en184 => ?_) qm102.ne
                          obtain ⟨kn184, hbn184, hen184⟩ := hS.elem 1 rfl en184 hb183
                          try simp only [W, EE, EN, reduceIte, Nat.reduceAdd, Nat.reduceLeDiff, hbn184, hen184]
                          refine w_lit (el := ([b183] : List Slip).map e_Slip) hS rfl rfl rfl rfl rfl rfl rfl fun v185 H qv185 hS => ?_
                          try simp only [W, EE]
                          refine w_appV (l := a0.Line) (c := e_Slip) 2 hS rfl qm102 rfl rfl rfl (hS.elems 0 rfl qv185) (fun _ => rfl) rfl h fun v188 H x187 qv188 hm h hS => ?_
                          refine goK_late ?_
                          refine lateG_s (by first | rfl | (simp [evalOp, W, EE, EN, rdAt, mkT, subL, AV.cells, hS.var 3 rfl, hS.var 4 rfl]; done)) ?_
                          refine lateG_n ?_
                          try simp only [W, EE, Nat.reduceAdd, Nat.reduceBEq, hS.var 3 rfl]
                          refine w_stv (a := v188) (y' := .agg [.int .i64 a0.Now, m101, v188]) 3 hS rfl rfl rfl rfl (by rw [qv188.cells]; rfl) qv188.stora (qv188.wr _ _ (by simp)) rfl fun H hS => ?_
                          try simp only [W]
                          refine seq_n hK169 ?_
                          refine w_killE (s' := (.ptr i0 w0 0 0 :: u :: u :: .ptr ip2 wp2 0 0 :: u :: u :: u :: u :: u :: u :: u :: u :: u :: u :: u :: u :: u :: u :: u :: u :: u :: u :: u :: u :: u :: u :: u :: u :: u :: u :: u :: u :: u :: u :: u :: u :: u :: u :: u :: u :: u :: u :: u :: u :: u :: u :: u :: u :: u :: .int .i64 a1.Kind :: u :: u :: u :: u :: u :: u :: u :: u :: u :: u :: u :: u :: u :: u :: u :: u :: u :: u :: u :: u :: u :: u :: u :: u :: u :: u :: u :: u :: u :: u :: u :: u :: u :: u :: u :: u :: .bool x122 :: u :: u :: u :: u :: u :: u :: u :: u :: u :: u :: u :: u :: u :: u :: u :: u :: u :: u :: u :: u :: u :: u :: u :: u :: u :: u :: u :: u :: u :: u :: u :: u :: u :: u :: u :: u :: u :: u :: u :: u :: u :: u :: u :: u :: u :: u :: u :: u :: u :: u :: u :: u :: u :: u :: u :: u :: u :: u :: u :: u :: u :: u :: u :: u :: u :: u :: u :: u :: [])) rfl ?_
                          exact cut_n hK168 ⟨_, _, _, (Option.some.inj h).symm, _, qm101, _, qv188, rfl, (hS.sel 5 [1, 2, 3, 4] (by decide))⟩
                      · refine w_seq fun K190 hK190 => ?_
                        refine w_reg gC ?_
                        try simp only [W, EE, Nat.reduceAdd]
                        refine seq_n hK190 ?_
                        refine w_if ?_
                        simp only [W]
                        refine w_cnd h (fun hc h => ?_) (fun hc h => ?_)
                        · refine w_seq fun K191 hK191 => ?_
                          refine w_seq fun K192 hK192 => ?_
                          obtain ⟨y194, h, g195⟩ := Option.bind_eq_some_iff.1 h
                          refine w_join gC (fun s H => ∃ x193 : Bool, y194 = (x193) ∧ s = (.ptr i0 w0 0 0 :: u :: u :: .ptr ip2 wp2 0 0 :: u :: u :: u :: u :: u :: u :: u :: u :: u :: u :: u :: u :: u :: u :: u :: u :: u :: u :: u :: u :: u :: u :: u :: u :: u :: u :: u :: u :: u :: u :: u :: u :: u :: u :: u :: u :: u :: u :: u :: u :: u :: u :: u :: u :: u :: .int .i64 a1.Kind :: u :: u :: u :: u :: u :: u :: u :: u :: u :: u :: u :: u :: u :: u :: u :: u :: u :: u :: u :: u :: u :: u :: u :: u :: u :: u :: u :: u :: u :: u :: u :: u :: u :: u :: u :: u :: .bool x122 :: u :: u :: u :: u :: u :: u :: u :: u :: u :: u :: u :: u :: u :: u :: u :: u :: u :: u :: u :: u :: u :: u :: u :: u :: u :: u :: u :: u :: u :: u :: u :: u :: u :: u :: u :: u :: u :: u :: u :: u :: u :: u :: u :: u :: u :: u :: u :: u :: u :: u :: u :: u :: u :: u :: u :: u :: u :: u :: u :: u :: u :: u :: u :: u :: u :: .bool x193 :: u :: u :: []) ∧ Own H (⟨m101, 4, a0.Cases.map e_Case⟩ :: ⟨m102, 3, a0.Line.map e_Slip⟩ :: ⟨.ptr i0 w0 0 0, 3, [.agg [.int .i64 a0.Now, m101, m102]]⟩ :: ⟨.ptr ip2 wp2 0 0, 2, [.agg [.int .i64 a1.Kind, .int .i64 a1.K]]⟩ :: F)) (fun K196 hK196 => ?_) (fun s H hq => ?_)
                          · refine w_seq fun K197 hK197 => ?_
                            refine w_reg gC ?_
                            try simp only [W, EE, Nat.reduceAdd, Nat.reduceBEq, hS.var 3 rfl]
                            refine w_grdT h (fun hc h => ?_) (fun hc h => ?_)
                            · try simp only [W, hc]
                              refine seq_n hK197 ?_
                              refine w_killE (s' := (.ptr i0 w0 0 0 :: u :: u :: .ptr ip2 wp2 0 0 :: u :: u :: u :: u :: u :: u :: u :: u :: u :: u :: u :: u :: u :: u :: u :: u :: u :: u :: u :: u :: u :: u :: u :: u :: u :: u :: u :: u :: u :: u :: u :: u :: u :: u :: u :: u :: u :: u :: u :: u :: u :: u :: u :: u :: u :: .int .i64 a1.Kind :: u :: u :: u :: u :: u :: u :: u :: u :: u :: u :: u :: u :: u :: u :: u :: u :: u :: u :: u :: u :: u :: u :: u :: u :: u :: u :: u :: u :: u :: u :: u :: u :: u :: u :: u :: u :: .bool x122 :: u :: u :: u :: u :: u :: u :: u :: u :: u :: u :: u :: u :: u :: u :: u :: u :: u :: u :: u :: u :: u :: u :: u :: u :: u :: u :: u :: u :: u :: u :: u :: u :: u :: u :: u :: u :: u :: u :: u :: u :: u :: u :: u :: u :: u :: u :: u :: u :: u :: u :: u :: u :: u :: u :: u :: u :: u :: u :: u :: u :: u :: u :: u :: u :: u :: .bool true :: u :: u :: [])) rfl ?_
                              exact cut_n hK196 ⟨_, (Option.some.inj h).symm, rfl, hS⟩
                            · try simp only [W, EE, reduceIte, Nat.reduceAdd, Nat.reduceBEq, Bool.false_eq_true, hS.var 2 rfl, hc]
                              refine seq_n hK197 ?_
                              refine w_killE (s' := (.ptr i0 w0 0 0 :: u :: u :: .ptr ip2 wp2 0 0 :: u :: u :: u :: u :: u :: u :: u :: u :: u :: u :: u :: u :: u :: u :: u :: u :: u :: u :: u :: u :: u :: u :: u :: u :: u :: u :: u :: u :: u :: u :: u :: u :: u :: u :: u :: u :: u :: u :: u :: u :: u :: u :: u :: u :: u :: .int .i64 a1.Kind :: u :: u :: u :: u :: u :: u :: u :: u :: u :: u :: u :: u :: u :: u :: u :: u :: u :: u :: u :: u :: u :: u :: u :: u :: u :: u :: u :: u :: u :: u :: u :: u :: u :: u :: u :: u :: .bool x122 :: u :: u :: u :: u :: u :: u :: u :: u :: u :: u :: u :: u :: u :: u :: u :: u :: u :: u :: u :: u :: u :: u :: u :: u :: u :: u :: u :: u :: u :: u :: u :: u :: u :: u :: u :: u :: u :: u :: u :: u :: u :: u :: u :: u :: u :: u :: u :: u :: u :: u :: u :: u :: u :: u :: u :: u :: u :: u :: u :: u :: u :: u :: u :: u :: u :: .bool (a0.Now == 200) :: u :: u :: [])) rfl ?_
                              exact cut_n hK196 ⟨_, (Option.some.inj h).symm, rfl, hS⟩
                          · obtain ⟨x193, ey, rfl, hS⟩ := hq; obtain rfl := ey.symm
                            replace h := g195
                            try dsimp only at h
                            refine seq_n hK192 ?_
                            refine w_if ?_
                            simp only [W]
                            refine w_cnd h (fun hc h => ?_) (fun hc h => ?_)
                            · refine w_seq fun K198 hK198 => ?_
                              refine w_reg gC ?_
                              try simp only [W, Nat.reduceAdd]
                              refine seq_n hK198 ?_
                              refine w_ret ?_
                              refine seq_r hK191 ?_
                              refine seq_r hK169 ?_
                              try obtain rfl := Option.some.inj h
                              obtain rfl := Option.some.inj g167
                              have h : (some (LR.done (LR.done (LR.done (LR.done (false, a0))))) : Option (LR (Int × (List Case) × (List Slip)) (LR (Int × (List Case) × (List Slip)) (LR (Int × (List Case) × (List Slip)) (LR (Int × (List Case) × (List Slip)) (Bool × Court)))))) = some (LR.done (LR.done (LR.done (LR.done (false, a0))))) := rfl
                              refine cut_r hK168 ?_
                              refine seq_r hK136 ?_
                              try obtain rfl := Option.some.inj h
                              obtain rfl := Option.some.inj g134
                              have h : (some (LR.done (LR.done (LR.done (false, a0)))) : Option (LR (Int × (List Case) × (List Slip)) (LR (Int × (List Case) × (List Slip)) (LR (Int × (List Case) × (List Slip)) (Bool × Court))))) = some (LR.done (LR.done (LR.done (false, a0)))) := rfl
                              refine cut_r hK135 ?_
                              refine seq_r hK106 ?_
                              try obtain rfl := Option.some.inj h
                              obtain rfl := Option.some.inj g104
                              have h : (some (LR.done (LR.done (false, a0))) : Option (LR (Int × (List Case) × (List Slip)) (LR (Int × (List Case) × (List Slip)) (Bool × Court)))) = some (LR.done (LR.done (false, a0))) := rfl
                              refine cut_r hK105 ?_
                              refine seq_r hK82 ?_
                              try obtain rfl := Option.some.inj h
                              obtain rfl := Option.some.inj g80
                              have h : (some (LR.done (false, a0)) : Option (LR (Int × (List Case) × (List Slip)) (Bool × Court))) = some (LR.done (false, a0)) := rfl
                              refine cut_r hK81 ?_
                              refine blk_r hK63 ?_
                              try obtain rfl := Option.some.inj h
                              obtain rfl := Option.some.inj g70
                              have h : (some (false, a0) : Option (Bool × Court)) = some (false, a0) := rfl
                              refine cut_r hK71 ?_
                              refine seq_r hK61 ?_
                              refine fin_r1 hK0 rfl ?_
                              try obtain rfl := Option.some.inj h
                              exact hP _ qm101 _ qm102 _ (hS.sel 4 [2, 0, 1] (by decide))
                            · refine w_skip ?_
                              refine seq_n hK191 ?_
                              refine w_reg gC ?_
                              try simp only [W, Nat.reduceAdd]
                              refine w_call h fun b209 hb209 h => ?_
                              refine impl_Court_tick_w hb209 (hS.sel 4 [2, 0, 1, 3] (by decide)) qm101 qm102 fun v210 qv210 v211 qv211 H hS => ?_
                              try simp only [W]
                              refine seq_n hK169 ?_
                              refine w_killE (s' := (.ptr i0 w0 0 0 :: u :: u :: .ptr ip2 wp2 0 0 :: u :: u :: u :: u :: u :: u :: u :: u :: u :: u :: u :: u :: u :: u :: u :: u :: u :: u :: u :: u :: u :: u :: u :: u :: u :: u :: u :: u :: u :: u :: u :: u :: u :: u :: u :: u :: u :: u :: u :: u :: u :: u :: u :: u :: u :: .int .i64 a1.Kind :: u :: u :: u :: u :: u :: u :: u :: u :: u :: u :: u :: u :: u :: u :: u :: u :: u :: u :: u :: u :: u :: u :: u :: u :: u :: u :: u :: u :: u :: u :: u :: u :: u :: u :: u :: u :: .bool x122 :: u :: u :: u :: u :: u :: u :: u :: u :: u :: u :: u :: u :: u :: u :: u :: u :: u :: u :: u :: u :: u :: u :: u :: u :: u :: u :: u :: u :: u :: u :: u :: u :: u :: u :: u :: u :: u :: u :: u :: u :: u :: u :: u :: u :: u :: u :: u :: u :: u :: u :: u :: u :: u :: u :: u :: u :: u :: u :: u :: u :: u :: u :: u :: u :: u :: u :: u :: u :: [])) rfl ?_
                              exact cut_n hK168 ⟨_, _, _, (Option.some.inj h).symm, _, qv210, _, qv211, rfl, (hS.sel 4 [1, 2, 0, 3] (by decide))⟩
                        · refine w_seq fun K212 hK212 => ?_
                          refine w_reg gC ?_
                          try simp only [W, Nat.reduceAdd]
                          refine seq_n hK212 ?_
                          refine w_ret ?_
                          refine seq_r hK169 ?_
                          try obtain rfl := Option.some.inj h
                          obtain rfl := Option.some.inj g167
                          have h : (some (LR.done (LR.done (LR.done (LR.done (false, a0))))) : Option (LR (Int × (List Case) × (List Slip)) (LR (Int × (List Case) × (List Slip)) (LR (Int × (List Case) × (List Slip)) (LR (Int × (List Case) × (List Slip)) (Bool × Court)))))) = some (LR.done (LR.done (LR.done (LR.done (false, a0))))) := rfl
                          refine cut_r hK168 ?_
                          refine seq_r hK136 ?_
                          try obtain rfl := Option.some.inj h
                          obtain rfl := Option.some.inj g134
                          have h : (some (LR.done (LR.done (LR.done (false, a0)))) : Option (LR (Int × (List Case) × (List Slip)) (LR (Int × (List Case) × (List Slip)) (LR (Int × (List Case) × (List Slip)) (Bool × Court))))) = some (LR.done (LR.done (LR.done (false, a0)))) := rfl
                          refine cut_r hK135 ?_
                          refine seq_r hK106 ?_
                          try obtain rfl := Option.some.inj h
                          obtain rfl := Option.some.inj g104
                          have h : (some (LR.done (LR.done (false, a0))) : Option (LR (Int × (List Case) × (List Slip)) (LR (Int × (List Case) × (List Slip)) (Bool × Court)))) = some (LR.done (LR.done (false, a0))) := rfl
                          refine cut_r hK105 ?_
                          refine seq_r hK82 ?_
                          try obtain rfl := Option.some.inj h
                          obtain rfl := Option.some.inj g80
                          have h : (some (LR.done (false, a0)) : Option (LR (Int × (List Case) × (List Slip)) (Bool × Court))) = some (LR.done (false, a0)) := rfl
                          refine cut_r hK81 ?_
                          refine blk_r hK63 ?_
                          try obtain rfl := Option.some.inj h
                          obtain rfl := Option.some.inj g70
                          have h : (some (false, a0) : Option (Bool × Court)) = some (false, a0) := rfl
                          refine cut_r hK71 ?_
                          refine seq_r hK61 ?_
                          refine fin_r1 hK0 rfl ?_
                          try obtain rfl := Option.some.inj h
                          exact hP _ qm101 _ qm102 _ (hS.sel 4 [2, 0, 1] (by decide))
                    · obtain ⟨x160, x161, x163, rfl, v162, qv162, v164, qv164, rfl, hS⟩ := hq
                      replace h := g167
                      try dsimp only at h
                      refine seq_n hK136 ?_
                      refine w_killE (s' := (.ptr i0 w0 0 0 :: u :: u :: .ptr ip2 wp2 0 0 :: u :: u :: u :: u :: u :: u :: u :: u :: u :: u :: u :: u :: u :: u :: u :: u :: u :: u :: u :: u :: u :: u :: u :: u :: u :: u :: u :: u :: u :: u :: u :: u :: u :: u :: u :: u :: u :: u :: u :: u :: u :: u :: u :: u :: u :: .int .i64 a1.Kind :: u :: u :: u :: u :: u :: u :: u :: u :: u :: u :: u :: u :: u :: u :: u :: u :: u :: u :: u :: u :: u :: u :: u :: u :: u :: u :: u :: u :: u :: u :: u :: u :: u :: u :: u :: u :: .bool x122 :: u :: u :: u :: u :: u :: u :: u :: u :: u :: u :: u :: u :: u :: u :: u :: u :: u :: u :: u :: u :: u :: u :: u :: u :: u :: u :: u :: u :: u :: u :: u :: u :: u :: u :: u :: u :: u :: u :: u :: u :: u :: u :: u :: u :: u :: u :: u :: u :: u :: u :: u :: u :: u :: u :: u :: u :: u :: u :: u :: u :: u :: u :: u :: u :: u :: u :: u :: u :: [])) rfl ?_
                      exact cut_n hK135 ⟨_, _, _, (Option.some.inj h).symm, _, qv162, _, qv164, rfl, hS⟩
                · obtain ⟨x127, x128, x130, rfl, v129, qv129, v131, qv131, rfl, hS⟩ := hq
                  replace h := g134
                  try dsimp only at h
                  refine seq_n hK106 ?_
                  refine w_killE (s' := (u :: u :: u :: u :: u :: u :: u :: u :: u :: u :: u :: u :: u :: u :: u :: u :: u :: u :: u :: u :: u :: u :: u :: u :: u :: u :: u :: u :: u :: u :: u :: u :: u :: u :: u :: u :: u :: u :: u :: u :: u :: u :: u :: u :: u :: u :: u :: u :: u :: u :: u :: u :: u :: u :: u :: u :: u :: u :: u :: u :: u :: u :: u :: u :: u :: u :: u :: u :: u :: u :: u :: u :: u :: u :: u :: u :: u :: u :: u :: u :: u :: u :: u :: u :: u :: u :: u :: u :: u :: u :: u :: u :: u :: u :: u :: u :: u :: u :: u :: u :: u :: u :: u :: u :: u :: u :: u :: u :: u :: u :: u :: u :: u :: u :: u :: u :: u :: u :: u :: u :: u :: u :: u :: u :: u :: u :: u :: u :: u :: u :: u :: u :: u :: u :: u :: u :: u :: u :: u :: u :: u :: u :: u :: u :: u :: u :: u :: u :: u :: u :: u :: u :: u :: u :: u :: [])) rfl ?_
                  exact cut_n hK105 ⟨_, _, _, (Option.some.inj h).symm, _, qv129, _, qv131, rfl, (hS.sel 4 [0, 1, 2] (by decide))⟩
          · obtain ⟨x97, x98, x100, rfl, v99, qv99, v101, qv101, rfl, hS⟩ := hq
            replace h := g104
            try dsimp only at h
            refine seq_n hK82 ?_
            refine w_killE (s' := (u :: u :: u :: u :: u :: u :: u :: u :: u :: u :: u :: u :: u :: u :: u :: u :: u :: u :: u :: u :: u :: u :: u :: u :: u :: u :: u :: u :: u :: u :: u :: u :: u :: u :: u :: u :: u :: u :: u :: u :: u :: u :: u :: u :: u :: u :: u :: u :: u :: u :: u :: u :: u :: u :: u :: u :: u :: u :: u :: u :: u :: u :: u :: u :: u :: u :: u :: u :: u :: u :: u :: u :: u :: u :: u :: u :: u :: u :: u :: u :: u :: u :: u :: u :: u :: u :: u :: u :: u :: u :: u :: u :: u :: u :: u :: u :: u :: u :: u :: u :: u :: u :: u :: u :: u :: u :: u :: u :: u :: u :: u :: u :: u :: u :: u :: u :: u :: u :: u :: u :: u :: u :: u :: u :: u :: u :: u :: u :: u :: u :: u :: u :: u :: u :: u :: u :: u :: u :: u :: u :: u :: u :: u :: u :: u :: u :: u :: u :: u :: u :: u :: u :: u :: u :: u :: [])) rfl ?_
            exact cut_n hK81 ⟨_, _, _, (Option.some.inj h).symm, _, qv99, _, qv101, rfl, hS⟩
      · obtain ⟨x73, x74, x76, rfl, v75, qv75, v77, qv77, rfl, hS⟩ := hq
        replace h := g80
        try dsimp only at h
        refine blk_n hK63 ?_
        exact cut_n hK71 ⟨_, _, _, (Option.some.inj h).symm, _, qv75, _, qv77, rfl, hS⟩
    · obtain ⟨x64, x65, x67, rfl, v66, qv66, v68, qv68, rfl, hS⟩ := hq
      replace h := g70
      try dsimp only at h
      refine seq_n hK61 ?_
      refine w_seq fun K223 hK223 => ?_
      refine w_reg gC ?_
      try simp only [W, Nat.reduceAdd]
      refine seq_n hK223 ?_
      refine w_ret ?_
      refine fin_r1 hK0 rfl ?_
      try obtain rfl := Option.some.inj h
      exact hP _ qv66 _ qv68 _ (hS.sel 3 [2, 0, 1] (by decide))
theorem impl_StepCourt_w {a0 : Court} {a1 : CourtStep} {r : (Court × Bool)} (h : impl_StepCourt a0 a1 = some r) {F : List It} {H : Heap} (hS : Own H (F)) {P : AV → Heap → Prop} (hP : ∀ v36 : AV, isSl v36 → ∀ v38 : AV, isSl v38 → ∀ H', Own H' (⟨v36, 4, r.1.Cases.map e_Case⟩ :: ⟨v38, 3, r.1.Line.map e_Slip⟩ :: F) → P (.tup [.agg [.int .i64 r.1.Now, v36, v38], .bool r.2]) H') : ACall C 85 [.agg [.int .i64 a0.Now, .fz (a0.Cases.map e_Case), .fz (a0.Line.map e_Slip)], .agg [.int .i64 a1.Kind, .int .i64 a1.K]] H P := by
  refine acall_of gC (res := [.cell 4 68, .tmp 5]) (n := 19) rfl rfl rfl rfl fun K0 hK0 => ?_
  simp only [W, Nat.reduceSub, Nat.reduceAdd, List.replicate]
  unfold impl_StepCourt at h
  refine w_seq fun K1 hK1 => ?_
  refine w_reg gC ?_
  try simp only [W, Nat.reduceAdd]
  refine w_box hS rfl rfl rfl rfl fun ip2 wp2 H hS => ?_
  try simp only [W]
  refine w_box hS rfl rfl rfl rfl fun ip4 wp4 H hS => ?_
  try simp only [W]
  refine w_alloc hS rfl rfl fun ip6 wp6 H hS => ?_
  try simp only [W]
  refine seq_n hK1 ?_
  refine w_seq fun K8 hK8 => ?_
  refine w_reg gC ?_
  try simp only [W, EE, reduceIte, Nat.reduceAdd, Nat.reduceLeDiff, hS.var 2 rfl]
  refine w_call h fun b9 hb9 h => ?_
  refine impl_Court_copied_w hb9 hS fun v10 qv10 v12 qv12 H hS => ?_
  try simp only [W]
  refine w_alloc hS rfl rfl fun ip14 wp14 H hS => ?_
  try simp only [W]
  refine w_stv (a := .agg [.int .i64 b9.Now, v10, v12]) (y' := .agg [.int .i64 b9.Now, v10, v12]) 0 hS rfl rfl rfl rfl rfl (by simp only [storA, List.all_cons, List.all_nil, qv10.stor, qv12.stor]; rfl) rfl rfl fun H hS => ?_
  try simp only [W]
  refine seq_n hK8 ?_
  refine w_seq fun K16 hK16 => ?_
  refine w_seq fun K17 hK17 => ?_
  obtain ⟨y24, h, g25⟩ := Option.bind_eq_some_iff.1 h
  refine w_join gC (fun s H => ∃ x18 : Bool, ∃ x19 : Int, ∃ x20 : List Case, ∃ x22 : List Slip, y24 = (x18, x19, x20, x22) ∧ ∃ v21 : AV, isSl v21 ∧ ∃ v23 : AV, isSl v23 ∧ s = [u, u, u, u, .ptr ip6 wp6 0 0, u, .ptr ip14 wp14 0 0, u, u, u, u, u, u, u, u, u, .bool x18, u, u] ∧ Own H (⟨v21, 4, x20.map e_Case⟩ :: ⟨v23, 3, x22.map e_Slip⟩ :: ⟨.ptr ip6 wp6 0 0, 3, [.agg [.int .i64 0, .nil, .nil]]⟩ :: ⟨.ptr ip14 wp14 0 0, 3, [.agg [.int .i64 x19, v21, v23]]⟩ :: F)) (fun K26 hK26 => ?_) (fun s H hq => ?_)
  · refine w_seq fun K27 hK27 => ?_
    refine w_reg gC ?_
    try simp only [W, EE, reduceIte, Nat.reduceAdd, Nat.reduceLeDiff, hS.var 5 rfl]
    refine w_call h fun b28 hb28 h => ?_
    refine impl_GoodCourt_w hb28 hS fun H hS => ?_
    try simp only [W]
    refine w_grdT h (fun hc h => ?_) (fun hc h => ?_)
    · try simp only [W, hc]
      refine seq_n hK27 ?_
      refine w_kill ?_
      exact cut_n hK26 ⟨_, _, _, _, (Option.some.inj h).symm, _, qv10, _, qv12, rfl, (hS.sel 6 [1, 2, 3, 0] (by decide))⟩
    · try simp only [W, EE, reduceIte, Nat.reduceAdd, Nat.reduceLeDiff, hS.var 4 rfl, hc]
      refine w_call h fun b29 hb29 h => ?_
      obtain ⟨b30, b31⟩ := b29
      try dsimp only at h
      refine impl_Court_step_w hb29 hS qv10 qv12 fun v32 qv32 v33 qv33 H hS => ?_
      try simp only [W, reduceIte, Bool.false_eq_true]
      refine seq_n hK27 ?_
      refine w_kill ?_
      exact cut_n hK26 ⟨_, _, _, _, (Option.some.inj h).symm, _, qv32, _, qv33, rfl, (hS.sel 6 [1, 2, 3, 0] (by decide))⟩
  · obtain ⟨x18, x19, x20, x22, rfl, v21, qv21, v23, qv23, rfl, hS⟩ := hq
    replace h := g25
    try dsimp only at h
    refine seq_n hK17 ?_
    refine w_if ?_
    simp only [W]
    refine w_cnd h (fun hc h => ?_) (fun hc h => ?_)
    · refine w_seq fun K34 hK34 => ?_
      refine w_reg gC ?_
      try simp only [W, EE, Nat.reduceAdd]
      refine w_bld rfl rfl rfl rfl rfl ?_
      try simp only [W]
      refine w_stv (a := .agg [.int .i64 0, .nil, .nil]) (y' := .agg [.int .i64 0, .nil, .nil]) 2 hS rfl rfl rfl rfl rfl rfl rfl rfl fun H hS => ?_
      try simp only [W]
      refine seq_n hK34 ?_
      refine w_ret ?_
      refine seq_r hK16 ?_
      refine fin_r hK0 (res_c rfl rfl (hS.var 2 rfl) rfl (res_tc rfl rfl)) ?_
      try obtain rfl := Option.some.inj h
      exact hP _ isSl_nil _ isSl_nil _ (((hS.nil_ 3).nil_ 4).sel 6 [0, 1] (by decide))
    · refine w_skip ?_
      refine seq_n hK16 ?_
      refine w_seq fun K35 hK35 => ?_
      refine w_reg gC ?_
      try simp only [W, EE, reduceIte, Nat.reduceAdd, Nat.reduceLeDiff, hS.var 3 rfl]
      refine w_stv (a := .agg [.int .i64 x19, v21, v23]) (y' := .agg [.int .i64 x19, v21, v23]) 2 hS rfl rfl rfl rfl rfl (by simp only [storA, List.all_cons, List.all_nil, qv21.stor, qv23.stor]; rfl) rfl rfl fun H hS => ?_
      try simp only [W]
      refine seq_n hK35 ?_
      refine w_ret ?_
      refine fin_r hK0 (res_c rfl rfl (hS.var 2 rfl) rfl (res_tc rfl rfl)) ?_
      try obtain rfl := Option.some.inj h
      exact hP _ qv21 _ qv23 _ (hS.sel 4 [0, 1] (by decide))
theorem spec_l16Verdict_w {a0 : Int} {r : (Bool)} (h : spec_l16Verdict a0 = some r) {F : List It} {H : Heap} (hS : Own H (F)) {P : AV → Heap → Prop} (hP : ∀ H', Own H' (F) → P (.bool r) H') : ACall C 192 [.int .i64 a0] H P := by
  refine acall_of gC (res := [.tmp 2]) (n := 5) rfl rfl rfl rfl fun K0 hK0 => ?_
  simp only [W, Nat.reduceSub, Nat.reduceAdd, List.replicate]
  unfold spec_l16Verdict at h
  refine w_seq fun K1 hK1 => ?_
  refine w_reg gC ?_
  try simp only [W, Nat.reduceAdd]
  refine seq_n hK1 ?_
  refine w_seq fun K2 hK2 => ?_
  refine w_reg gC ?_
  try simp only [W, Nat.reduceAdd]
  refine w_call h fun b3 hb3 h => ?_
  refine spec_l1In_w hb3 hS fun H hS => ?_
  try simp only [W]
  refine seq_n hK2 ?_
  refine w_ret ?_
  refine fin_r1 hK0 rfl ?_
  try obtain rfl := Option.some.inj h
  exact hP _ hS
theorem spec_GoodCourt_w {a0 : Court} {r : (Bool)} (h : spec_GoodCourt a0 = some r) {F : List It} {H : Heap} (hS : Own H (F)) {P : AV → Heap → Prop} (hP : ∀ H', Own H' (F) → P (.bool r) H') : ACall C 87 [.agg [.int .i64 a0.Now, .fz (a0.Cases.map e_Case), .fz (a0.Line.map e_Slip)]] H P := by
  refine acall_of gC (res := [.tmp 2]) (n := 125) rfl rfl rfl rfl fun K0 hK0 => ?_
  simp only [W, Nat.reduceSub, Nat.reduceAdd, List.replicate]
  unfold spec_GoodCourt at h
  refine w_seq fun K1 hK1 => ?_
  refine w_reg gC ?_
  try simp only [W, Nat.reduceAdd]
  refine w_box hS rfl rfl rfl rfl fun ip2 wp2 H hS => ?_
  try simp only [W]
  refine seq_n hK1 ?_
  refine w_seq fun K4 hK4 => ?_
  refine w_seq fun K5 hK5 => ?_
  refine w_reg gC ?_
  try simp only [W, EE, Nat.reduceAdd, Nat.reduceBEq, hS.var 0 rfl]
  refine seq_n hK5 ?_
  obtain ⟨y7, hw8, g14⟩ := Option.bind_eq_some_iff.1 h
  refine w_join gC (fun s H => y7 = LR.next () ∧ s = (u :: .ptr ip2 wp2 0 0 :: u :: u :: u :: u :: u :: u :: u :: u :: u :: u :: u :: u :: u :: u :: u :: u :: u :: u :: u :: u :: u :: u :: u :: u :: u :: u :: u :: u :: u :: u :: u :: u :: u :: u :: u :: u :: u :: u :: u :: u :: u :: u :: u :: u :: u :: u :: u :: u :: u :: u :: u :: u :: u :: u :: u :: u :: u :: u :: u :: u :: u :: u :: u :: u :: u :: u :: u :: u :: u :: u :: u :: u :: u :: u :: u :: u :: u :: u :: u :: u :: u :: u :: u :: u :: u :: u :: u :: u :: u :: u :: u :: u :: u :: u :: u :: u :: u :: u :: u :: u :: u :: u :: u :: u :: u :: u :: u :: u :: u :: u :: u :: u :: u :: u :: u :: u :: u :: u :: u :: u :: u :: u :: u :: []) ∧ Own H (⟨.ptr ip2 wp2 0 0, 3, [.agg [.int .i64 a0.Now, .fz (a0.Cases.map e_Case), .fz (a0.Line.map e_Slip)]]⟩ :: F)) (fun K9 hK9 => ?_) (fun s H hq => ?_)
  · refine w_blk fun K10 hK10 => ?_
    refine w_loop gC hw8 (fun x s H => s = (u :: .ptr ip2 wp2 0 0 :: u :: u :: u :: u :: u :: u :: .fz (a0.Cases.map e_Case) :: .int .i64 (a0.Cases.length : Int) :: .int .i64 x :: u :: u :: u :: u :: u :: u :: u :: u :: u :: u :: u :: u :: u :: u :: u :: u :: u :: u :: u :: u :: u :: u :: u :: u :: u :: u :: u :: u :: u :: u :: u :: u :: u :: u :: u :: u :: u :: u :: u :: u :: u :: u :: u :: u :: u :: u :: u :: u :: u :: u :: u :: u :: u :: u :: u :: u :: u :: u :: u :: u :: u :: u :: u :: u :: u :: u :: u :: u :: u :: u :: u :: u :: u :: u :: u :: u :: u :: u :: u :: u :: u :: u :: u :: u :: u :: u :: u :: u :: u :: u :: u :: u :: u :: u :: u :: u :: u :: u :: u :: u :: u :: u :: u :: u :: u :: u :: u :: u :: u :: u :: u :: u :: u :: u :: []) ∧ Own H (⟨.ptr ip2 wp2 0 0, 3, [.agg [.int .i64 a0.Now, .fz (a0.Cases.map e_Case), .fz (a0.Line.map e_Slip)]]⟩ :: F)) ⟨rfl, hS⟩ (fun x6 y13 s H h hd12 hi K11 hK11 => ?_)
    skip
    try dsimp only at hi
    obtain ⟨rfl, hS⟩ := hi
    simp only [spec_GoodCourt_l0] at h
    refine w_seq fun K15 hK15 => ?_
    refine w_reg gC ?_
    try simp only [W, EE, Nat.reduceAdd]
    refine seq_n hK15 ?_
    refine w_seq fun K16 hK16 => ?_
    refine w_if ?_
    simp only [W]
    refine w_cnd h (fun hc h => ?_) (fun hc h => ?_)
    · refine w_skip ?_
      refine seq_n hK16 ?_
      refine w_seq fun K17 hK17 => ?_
      refine w_blk fun K18 hK18 => ?_
      refine w_seq fun K19 hK19 => ?_
      refine w_reg gC ?_
      try simp only [W, EE, Nat.reduceAdd]
      refine w_fz rfl rfl rfl (fun _ => rfl) h fun b20 hb20 h => ?_
      try simp only [W, EE, EN, reduceIte, Nat.reduceAdd, Nat.reduceLeDiff]
      refine w_alloc hS rfl rfl fun ip21 wp21 H hS => ?_
      try simp only [W]
      refine w_stv (a := .agg [.int .i64 b20.End, .bool b20.Asks, .int .i64 b20.Final, .int .i64 b20.Said]) (y' := .agg [.int .i64 b20.End, .bool b20.Asks, .int .i64 b20.Final, .int .i64 b20.Said]) 0 hS rfl rfl rfl rfl rfl rfl rfl rfl fun H hS => ?_
      try simp only [W]
      refine seq_n hK19 ?_
      refine w_seq fun K23 hK23 => ?_
      obtain ⟨y25, h, g26⟩ := Option.bind_eq_some_iff.1 h
      refine w_join gC (fun s H => ∃ x24 : Bool, y25 = (x24) ∧ s = (u :: .ptr ip2 wp2 0 0 :: u :: u :: u :: u :: u :: u :: .fz (a0.Cases.map e_Case) :: .int .i64 (a0.Cases.length : Int) :: .int .i64 x6 :: u :: u :: u :: u :: u :: u :: u :: u :: u :: u :: u :: u :: u :: u :: u :: u :: u :: u :: u :: u :: u :: u :: u :: u :: u :: u :: u :: u :: u :: u :: u :: u :: u :: u :: u :: u :: u :: u :: u :: u :: u :: u :: .bool x24 :: u :: u :: u :: u :: u :: u :: u :: u :: u :: u :: u :: u :: u :: u :: u :: u :: u :: u :: u :: u :: u :: u :: u :: u :: u :: u :: u :: u :: u :: u :: u :: u :: u :: u :: u :: u :: u :: u :: u :: u :: u :: u :: u :: u :: u :: u :: u :: u :: u :: u :: u :: u :: u :: u :: u :: u :: u :: u :: u :: u :: u :: u :: u :: u :: u :: u :: u :: u :: u :: u :: u :: []) ∧ Own H (⟨.ptr ip2 wp2 0 0, 3, [.agg [.int .i64 a0.Now, .fz (a0.Cases.map e_Case), .fz (a0.Line.map e_Slip)]]⟩ :: F)) (fun K27 hK27 => ?_) (fun s H hq => ?_)
      · refine w_seq fun K28 hK28 => ?_
        refine w_reg gC ?_
        try simp only [W, EE, Nat.reduceAdd, Nat.reduceBEq, hS.var 0 rfl]
        refine w_call h fun b29 hb29 h => ?_
        refine spec_l1In_w hb29 hS fun H hS => ?_
        try simp only [W]
        refine w_grdT h (fun hc h => ?_) (fun hc h => ?_)
        · try simp only [W, hc]
          refine seq_n hK28 ?_
          refine w_killE (s' := (u :: .ptr ip2 wp2 0 0 :: u :: u :: u :: u :: u :: u :: .fz (a0.Cases.map e_Case) :: .int .i64 (a0.Cases.length : Int) :: .int .i64 x6 :: u :: u :: u :: u :: u :: u :: u :: u :: u :: u :: u :: u :: u :: u :: u :: u :: u :: u :: u :: u :: u :: u :: u :: u :: u :: u :: u :: u :: u :: u :: u :: u :: u :: u :: u :: u :: u :: u :: u :: u :: u :: u :: .bool true :: u :: u :: u :: u :: u :: u :: u :: u :: u :: u :: u :: u :: u :: u :: u :: u :: u :: u :: u :: u :: u :: u :: u :: u :: u :: u :: u :: u :: u :: u :: u :: u :: u :: u :: u :: u :: u :: u :: u :: u :: u :: u :: u :: u :: u :: u :: u :: u :: u :: u :: u :: u :: u :: u :: u :: u :: u :: u :: u :: u :: u :: u :: u :: u :: u :: u :: u :: u :: u :: u :: u :: [])) rfl ?_
          exact cut_n hK27 ⟨_, (Option.some.inj h).symm, rfl, (hS.sel 2 [1] (by decide))⟩
        · try simp only [W, EE, Nat.reduceAdd, Nat.reduceBEq, hS.var 0 rfl, hc]
          refine w_call h fun b30 hb30 h => ?_
          refine spec_l16Verdict_w hb30 hS fun H hS => ?_
          try simp only [W, reduceIte, Bool.false_eq_true]
          refine w_grdT h (fun hc h => ?_) (fun hc h => ?_)
          · try simp only [W, hc]
            refine seq_n hK28 ?_
            refine w_killE (s' := (u :: .ptr ip2 wp2 0 0 :: u :: u :: u :: u :: u :: u :: .fz (a0.Cases.map e_Case) :: .int .i64 (a0.Cases.length : Int) :: .int .i64 x6 :: u :: u :: u :: u :: u :: u :: u :: u :: u :: u :: u :: u :: u :: u :: u :: u :: u :: u :: u :: u :: u :: u :: u :: u :: u :: u :: u :: u :: u :: u :: u :: u :: u :: u :: u :: u :: u :: u :: u :: u :: u :: u :: .bool true :: u :: u :: u :: u :: u :: u :: u :: u :: u :: u :: u :: u :: u :: u :: u :: u :: u :: u :: u :: u :: u :: u :: u :: u :: u :: u :: u :: u :: u :: u :: u :: u :: u :: u :: u :: u :: u :: u :: u :: u :: u :: u :: u :: u :: u :: u :: u :: u :: u :: u :: u :: u :: u :: u :: u :: u :: u :: u :: u :: u :: u :: u :: u :: u :: u :: u :: u :: u :: u :: u :: u :: [])) rfl ?_
            exact cut_n hK27 ⟨_, (Option.some.inj h).symm, rfl, (hS.sel 2 [1] (by decide))⟩
          · try simp only [W, EE, Nat.reduceAdd, Nat.reduceBEq, hS.var 0 rfl, hc]
            refine w_call h fun b31 hb31 h => ?_
            refine spec_l16Verdict_w hb31 hS fun H hS => ?_
            try simp only [W, reduceIte, Bool.false_eq_true]
            refine w_grdT h (fun hc h => ?_) (fun hc h => ?_)
            · try simp only [W, hc]
              refine seq_n hK28 ?_
              refine w_killE (s' := (u :: .ptr ip2 wp2 0 0 :: u :: u :: u :: u :: u :: u :: .fz (a0.Cases.map e_Case) :: .int .i64 (a0.Cases.length : Int) :: .int .i64 x6 :: u :: u :: u :: u :: u :: u :: u :: u :: u :: u :: u :: u :: u :: u :: u :: u :: u :: u :: u :: u :: u :: u :: u :: u :: u :: u :: u :: u :: u :: u :: u :: u :: u :: u :: u :: u :: u :: u :: u :: u :: u :: u :: .bool true :: u :: u :: u :: u :: u :: u :: u :: u :: u :: u :: u :: u :: u :: u :: u :: u :: u :: u :: u :: u :: u :: u :: u :: u :: u :: u :: u :: u :: u :: u :: u :: u :: u :: u :: u :: u :: u :: u :: u :: u :: u :: u :: u :: u :: u :: u :: u :: u :: u :: u :: u :: u :: u :: u :: u :: u :: u :: u :: u :: u :: u :: u :: u :: u :: u :: u :: u :: u :: u :: u :: u :: [])) rfl ?_
              exact cut_n hK27 ⟨_, (Option.some.inj h).symm, rfl, (hS.sel 2 [1] (by decide))⟩
            · try simp only [W, EE, Nat.reduceAdd, Nat.reduceBEq, hS.var 0 rfl, hc]
              refine w_grdT h (fun hc h => ?_) (fun hc h => ?_)
              · try simp only [W, EE, reduceIte, Nat.reduceAdd, Nat.reduceBEq, Bool.false_eq_true, hS.var 0 rfl, hc]
                refine w_grdT h (fun hc h => ?_) (fun hc h => ?_)
                · try simp only [W, hc]
                  refine seq_n hK28 ?_
                  refine w_killE (s' := (u :: .ptr ip2 wp2 0 0 :: u :: u :: u :: u :: u :: u :: .fz (a0.Cases.map e_Case) :: .int .i64 (a0.Cases.length : Int) :: .int .i64 x6 :: u :: u :: u :: u :: u :: u :: u :: u :: u :: u :: u :: u :: u :: u :: u :: u :: u :: u :: u :: u :: u :: u :: u :: u :: u :: u :: u :: u :: u :: u :: u :: u :: u :: u :: u :: u :: u :: u :: u :: u :: u :: u :: .bool true :: u :: u :: u :: u :: u :: u :: u :: u :: u :: u :: u :: u :: u :: u :: u :: u :: u :: u :: u :: u :: u :: u :: u :: u :: u :: u :: u :: u :: u :: u :: u :: u :: u :: u :: u :: u :: u :: u :: u :: u :: u :: u :: u :: u :: u :: u :: u :: u :: u :: u :: u :: u :: u :: u :: u :: u :: u :: u :: u :: u :: u :: u :: u :: u :: u :: u :: u :: u :: u :: u :: u :: [])) rfl ?_
                  exact cut_n hK27 ⟨_, (Option.some.inj h).symm, rfl, (hS.sel 2 [1] (by decide))⟩
                · try simp only [W, EE, Nat.reduceAdd, Nat.reduceBEq, hS.var 0 rfl, hc]
                  refine w_grdT h (fun hc h => ?_) (fun hc h => ?_)
                  · try simp only [W, EE, reduceIte, Nat.reduceAdd, Nat.reduceBEq, Bool.false_eq_true, hS.var 0 rfl, hS.var 1 rfl, hc]
                    refine seq_n hK28 ?_
                    refine w_killE (s' := (u :: .ptr ip2 wp2 0 0 :: u :: u :: u :: u :: u :: u :: .fz (a0.Cases.map e_Case) :: .int .i64 (a0.Cases.length : Int) :: .int .i64 x6 :: u :: u :: u :: u :: u :: u :: u :: u :: u :: u :: u :: u :: u :: u :: u :: u :: u :: u :: u :: u :: u :: u :: u :: u :: u :: u :: u :: u :: u :: u :: u :: u :: u :: u :: u :: u :: u :: u :: u :: u :: u :: u :: .bool (decide (b20.End < a0.Now)) :: u :: u :: u :: u :: u :: u :: u :: u :: u :: u :: u :: u :: u :: u :: u :: u :: u :: u :: u :: u :: u :: u :: u :: u :: u :: u :: u :: u :: u :: u :: u :: u :: u :: u :: u :: u :: u :: u :: u :: u :: u :: u :: u :: u :: u :: u :: u :: u :: u :: u :: u :: u :: u :: u :: u :: u :: u :: u :: u :: u :: u :: u :: u :: u :: u :: u :: u :: u :: u :: u :: u :: [])) rfl ?_
                    exact cut_n hK27 ⟨_, (Option.some.inj h).symm, rfl, (hS.sel 2 [1] (by decide))⟩
                  · try simp only [W, reduceIte, Bool.false_eq_true, hc]
                    refine seq_n hK28 ?_
                    refine w_killE (s' := (u :: .ptr ip2 wp2 0 0 :: u :: u :: u :: u :: u :: u :: .fz (a0.Cases.map e_Case) :: .int .i64 (a0.Cases.length : Int) :: .int .i64 x6 :: u :: u :: u :: u :: u :: u :: u :: u :: u :: u :: u :: u :: u :: u :: u :: u :: u :: u :: u :: u :: u :: u :: u :: u :: u :: u :: u :: u :: u :: u :: u :: u :: u :: u :: u :: u :: u :: u :: u :: u :: u :: u :: .bool false :: u :: u :: u :: u :: u :: u :: u :: u :: u :: u :: u :: u :: u :: u :: u :: u :: u :: u :: u :: u :: u :: u :: u :: u :: u :: u :: u :: u :: u :: u :: u :: u :: u :: u :: u :: u :: u :: u :: u :: u :: u :: u :: u :: u :: u :: u :: u :: u :: u :: u :: u :: u :: u :: u :: u :: u :: u :: u :: u :: u :: u :: u :: u :: u :: u :: u :: u :: u :: u :: u :: u :: [])) rfl ?_
                    exact cut_n hK27 ⟨_, (Option.some.inj h).symm, rfl, (hS.sel 2 [1] (by decide))⟩
              · try simp only [W, EE, reduceIte, Nat.reduceAdd, Nat.reduceBEq, Bool.false_eq_true, hS.var 0 rfl, hc]
                refine w_grdT h (fun hc h => ?_) (fun hc h => ?_)
                · try simp only [W, EE, reduceIte, Nat.reduceAdd, Nat.reduceBEq, Bool.false_eq_true, hS.var 0 rfl, hS.var 1 rfl, hc]
                  refine seq_n hK28 ?_
                  refine w_killE (s' := (u :: .ptr ip2 wp2 0 0 :: u :: u :: u :: u :: u :: u :: .fz (a0.Cases.map e_Case) :: .int .i64 (a0.Cases.length : Int) :: .int .i64 x6 :: u :: u :: u :: u :: u :: u :: u :: u :: u :: u :: u :: u :: u :: u :: u :: u :: u :: u :: u :: u :: u :: u :: u :: u :: u :: u :: u :: u :: u :: u :: u :: u :: u :: u :: u :: u :: u :: u :: u :: u :: u :: u :: .bool (decide (b20.End < a0.Now)) :: u :: u :: u :: u :: u :: u :: u :: u :: u :: u :: u :: u :: u :: u :: u :: u :: u :: u :: u :: u :: u :: u :: u :: u :: u :: u :: u :: u :: u :: u :: u :: u :: u :: u :: u :: u :: u :: u :: u :: u :: u :: u :: u :: u :: u :: u :: u :: u :: u :: u :: u :: u :: u :: u :: u :: u :: u :: u :: u :: u :: u :: u :: u :: u :: u :: u :: u :: u :: u :: u :: u :: [])) rfl ?_
                  exact cut_n hK27 ⟨_, (Option.some.inj h).symm, rfl, (hS.sel 2 [1] (by decide))⟩
                · try simp only [W, reduceIte, Bool.false_eq_true, hc]
                  refine seq_n hK28 ?_
                  refine w_killE (s' := (u :: .ptr ip2 wp2 0 0 :: u :: u :: u :: u :: u :: u :: .fz (a0.Cases.map e_Case) :: .int .i64 (a0.Cases.length : Int) :: .int .i64 x6 :: u :: u :: u :: u :: u :: u :: u :: u :: u :: u :: u :: u :: u :: u :: u :: u :: u :: u :: u :: u :: u :: u :: u :: u :: u :: u :: u :: u :: u :: u :: u :: u :: u :: u :: u :: u :: u :: u :: u :: u :: u :: u :: .bool false :: u :: u :: u :: u :: u :: u :: u :: u :: u :: u :: u :: u :: u :: u :: u :: u :: u :: u :: u :: u :: u :: u :: u :: u :: u :: u :: u :: u :: u :: u :: u :: u :: u :: u :: u :: u :: u :: u :: u :: u :: u :: u :: u :: u :: u :: u :: u :: u :: u :: u :: u :: u :: u :: u :: u :: u :: u :: u :: u :: u :: u :: u :: u :: u :: u :: u :: u :: u :: u :: u :: u :: [])) rfl ?_
                  exact cut_n hK27 ⟨_, (Option.some.inj h).symm, rfl, (hS.sel 2 [1] (by decide))⟩
      · obtain ⟨x24, ey, rfl, hS⟩ := hq; obtain rfl := ey.symm
        replace h := g26
        try dsimp only at h
        refine seq_n hK23 ?_
        refine w_if ?_
        simp only [W]
        refine w_cnd h (fun hc h => ?_) (fun hc h => ?_)
        · refine w_seq fun K32 hK32 => ?_
          refine w_reg gC ?_
          try simp only [W, Nat.reduceAdd]
          refine seq_n hK32 ?_
          refine w_ret ?_
          refine blk_r hK18 ?_
          refine seq_r hK17 ?_
          try obtain rfl := Option.some.inj h
          obtain rfl := hd12 _ rfl
          have h : (some (LR.done false) : Option (LR Unit (Bool))) = some (LR.done false) := rfl
          refine lp_r hK11 ?_
          refine blk_r hK10 ?_
          try obtain rfl := Option.some.inj h
          obtain rfl := Option.some.inj g14
          have h : (some false : Option (Bool)) = some false := rfl
          refine cut_r hK9 ?_
          refine seq_r hK4 ?_
          refine fin_r1 hK0 rfl ?_
          try obtain rfl := Option.some.inj h
          exact hP _ (hS.sel 1 [] (by decide))
        · refine w_skip ?_
          refine blk_n0 hK18 ?_
          refine seq_n hK17 ?_
          refine w_reg gC ?_
          try simp only [W, EE, Nat.reduceAdd]
          exact lp_n hK11 h ⟨rfl, hS⟩
    · refine w_exit ?_
      refine seq_x hK16 ?_
      try obtain rfl := Option.some.inj h
      obtain rfl := hd12 _ rfl
      have h : (some (LR.next ()) : Option (LR Unit (Bool))) = some (LR.next ()) := rfl
      refine lp_x hK11 ?_
      refine blk_e hK10 ?_
      exact cut_n hK9 ⟨(Option.some.inj h).symm, rfl, hS⟩
  · obtain ⟨rfl, rfl, hS⟩ := hq
    replace h := g14
    try dsimp only at h
    refine seq_n hK4 ?_
    refine w_seq fun K39 hK39 => ?_
    refine w_seq fun K40 hK40 => ?_
    refine w_reg gC ?_
    try simp only [W, EE, Nat.reduceAdd, Nat.reduceBEq, hS.var 0 rfl]
    refine seq_n hK40 ?_
    obtain ⟨y42, hw43, g49⟩ := Option.bind_eq_some_iff.1 h
    refine w_join gC (fun s H => y42 = LR.next () ∧ s = (u :: .ptr ip2 wp2 0 0 :: u :: u :: u :: u :: u :: u :: u :: u :: u :: u :: u :: u :: u :: u :: u :: u :: u :: u :: u :: u :: u :: u :: u :: u :: u :: u :: u :: u :: u :: u :: u :: u :: u :: u :: u :: u :: u :: u :: u :: u :: u :: u :: u :: u :: u :: u :: u :: u :: u :: u :: u :: u :: u :: u :: u :: u :: u :: u :: u :: u :: u :: u :: u :: u :: u :: u :: u :: u :: u :: u :: u :: u :: u :: u :: u :: u :: u :: u :: u :: u :: u :: u :: u :: u :: u :: u :: u :: u :: u :: u :: u :: u :: u :: u :: u :: u :: u :: u :: u :: u :: u :: u :: u :: u :: u :: u :: u :: u :: u :: u :: u :: u :: u :: u :: u :: u :: u :: u :: u :: u :: u :: u :: u :: []) ∧ Own H (⟨.ptr ip2 wp2 0 0, 3, [.agg [.int .i64 a0.Now, .fz (a0.Cases.map e_Case), .fz (a0.Line.map e_Slip)]]⟩ :: F)) (fun K44 hK44 => ?_) (fun s H hq => ?_)
    · refine w_blk fun K45 hK45 => ?_
      refine w_loop gC hw43 (fun x s H => s = (u :: .ptr ip2 wp2 0 0 :: u :: u :: u :: u :: u :: u :: u :: u :: u :: u :: u :: u :: u :: u :: u :: u :: u :: u :: u :: u :: u :: u :: u :: u :: u :: u :: u :: u :: u :: u :: u :: u :: u :: u :: u :: u :: u :: u :: u :: u :: u :: u :: u :: u :: u :: u :: u :: u :: u :: u :: u :: u :: u :: u :: .fz (a0.Line.map e_Slip) :: .int .i64 (a0.Line.length : Int) :: .int .i64 x :: u :: u :: u :: u :: u :: u :: u :: u :: u :: u :: u :: u :: u :: u :: u :: u :: u :: u :: u :: u :: u :: u :: u :: u :: u :: u :: u :: u :: u :: u :: u :: u :: u :: u :: u :: u :: u :: u :: u :: u :: u :: u :: u :: u :: u :: u :: u :: u :: u :: u :: u :: u :: u :: u :: u :: u :: u :: u :: u :: u :: u :: u :: u :: u :: u :: u :: []) ∧ Own H (⟨.ptr ip2 wp2 0 0, 3, [.agg [.int .i64 a0.Now, .fz (a0.Cases.map e_Case), .fz (a0.Line.map e_Slip)]]⟩ :: F)) ⟨rfl, hS⟩ (fun x41 y48 s H h hd47 hi K46 hK46 => ?_)
      skip
      try dsimp only at hi
      obtain ⟨rfl, hS⟩ := hi
      simp only [spec_GoodCourt_l1] at h
      refine w_seq fun K50 hK50 => ?_
      refine w_reg gC ?_
      try simp only [W, EE, Nat.reduceAdd]
      refine seq_n hK50 ?_
      refine w_seq fun K51 hK51 => ?_
      refine w_if ?_
      simp only [W]
      refine w_cnd h (fun hc h => ?_) (fun hc h => ?_)
      · refine w_skip ?_
        refine seq_n hK51 ?_
        refine w_seq fun K52 hK52 => ?_
        refine w_blk fun K53 hK53 => ?_
        refine w_seq fun K54 hK54 => ?_
        refine w_reg gC ?_
        try simp only [W, EE, Nat.reduceAdd]
        refine w_fz rfl rfl rfl (fun _ => rfl) h fun b55 hb55 h => ?_
        try simp only [W, EE, EN, reduceIte, Nat.reduceAdd, Nat.reduceLeDiff]
        refine w_alloc hS rfl rfl fun ip56 wp56 H hS => ?_
        try simp only [W]
        refine w_stv (a := .agg [.int .i64 b55.Kind, .int .i64 b55.Case, .int .i64 b55.What]) (y' := .agg [.int .i64 b55.Kind, .int .i64 b55.Case, .int .i64 b55.What]) 0 hS rfl rfl rfl rfl rfl rfl rfl rfl fun H hS => ?_
        try simp only [W]
        refine seq_n hK54 ?_
        refine w_seq fun K58 hK58 => ?_
        refine w_seq fun K59 hK59 => ?_
        obtain ⟨y61, h, g62⟩ := Option.bind_eq_some_iff.1 h
        refine w_join gC (fun s H => ∃ x60 : Bool, y61 = (x60) ∧ s = (u :: .ptr ip2 wp2 0 0 :: u :: u :: u :: u :: .ptr ip56 wp56 0 0 :: u :: u :: u :: u :: u :: u :: u :: u :: u :: u :: u :: u :: u :: u :: u :: u :: u :: u :: u :: u :: u :: u :: u :: u :: u :: u :: u :: u :: u :: u :: u :: u :: u :: u :: u :: u :: u :: u :: u :: u :: u :: u :: u :: u :: u :: u :: u :: u :: u :: .fz (a0.Line.map e_Slip) :: .int .i64 (a0.Line.length : Int) :: .int .i64 x41 :: u :: u :: u :: u :: u :: u :: u :: u :: u :: u :: u :: u :: u :: u :: u :: u :: u :: u :: u :: .bool x60 :: u :: u :: u :: u :: u :: u :: u :: u :: u :: u :: u :: u :: u :: u :: u :: u :: u :: u :: u :: u :: u :: u :: u :: u :: u :: u :: u :: u :: u :: u :: u :: u :: u :: u :: u :: u :: u :: u :: u :: u :: u :: u :: u :: u :: u :: u :: []) ∧ Own H (⟨.ptr ip2 wp2 0 0, 3, [.agg [.int .i64 a0.Now, .fz (a0.Cases.map e_Case), .fz (a0.Line.map e_Slip)]]⟩ :: ⟨.ptr ip56 wp56 0 0, 3, [.agg [.int .i64 b55.Kind, .int .i64 b55.Case, .int .i64 b55.What]]⟩ :: F)) (fun K63 hK63 => ?_) (fun s H hq => ?_)
        · refine w_seq fun K64 hK64 => ?_
          refine w_reg gC ?_
          try simp only [W, EE, Nat.reduceAdd, Nat.reduceBEq, hS.var 0 rfl]
          refine w_grdT h (fun hc h => ?_) (fun hc h => ?_)
          · try simp only [W, hc]
            refine seq_n hK64 ?_
            refine w_killE (s' := (u :: .ptr ip2 wp2 0 0 :: u :: u :: u :: u :: .ptr ip56 wp56 0 0 :: u :: u :: u :: u :: u :: u :: u :: u :: u :: u :: u :: u :: u :: u :: u :: u :: u :: u :: u :: u :: u :: u :: u :: u :: u :: u :: u :: u :: u :: u :: u :: u :: u :: u :: u :: u :: u :: u :: u :: u :: u :: u :: u :: u :: u :: u :: u :: u :: u :: .fz (a0.Line.map e_Slip) :: .int .i64 (a0.Line.length : Int) :: .int .i64 x41 :: u :: u :: u :: u :: u :: u :: u :: u :: u :: u :: u :: u :: u :: u :: u :: u :: u :: u :: u :: .bool true :: u :: u :: u :: u :: u :: u :: u :: u :: u :: u :: u :: u :: u :: u :: u :: u :: u :: u :: u :: u :: u :: u :: u :: u :: u :: u :: u :: u :: u :: u :: u :: u :: u :: u :: u :: u :: u :: u :: u :: u :: u :: u :: u :: u :: u :: u :: [])) rfl ?_
            exact cut_n hK63 ⟨_, (Option.some.inj h).symm, rfl, (hS.sel 2 [1, 0] (by decide))⟩
          · try simp only [W, EE, reduceIte, Nat.reduceAdd, Nat.reduceBEq, Bool.false_eq_true, hS.var 1 rfl, hS.var 0 rfl, hc]
            refine w_grdT h (fun hc h => ?_) (fun hc h => ?_)
            · try simp only [W, hc]
              refine seq_n hK64 ?_
              refine w_killE (s' := (u :: .ptr ip2 wp2 0 0 :: u :: u :: u :: u :: .ptr ip56 wp56 0 0 :: u :: u :: u :: u :: u :: u :: u :: u :: u :: u :: u :: u :: u :: u :: u :: u :: u :: u :: u :: u :: u :: u :: u :: u :: u :: u :: u :: u :: u :: u :: u :: u :: u :: u :: u :: u :: u :: u :: u :: u :: u :: u :: u :: u :: u :: u :: u :: u :: u :: .fz (a0.Line.map e_Slip) :: .int .i64 (a0.Line.length : Int) :: .int .i64 x41 :: u :: u :: u :: u :: u :: u :: u :: u :: u :: u :: u :: u :: u :: u :: u :: u :: u :: u :: u :: .bool true :: u :: u :: u :: u :: u :: u :: u :: u :: u :: u :: u :: u :: u :: u :: u :: u :: u :: u :: u :: u :: u :: u :: u :: u :: u :: u :: u :: u :: u :: u :: u :: u :: u :: u :: u :: u :: u :: u :: u :: u :: u :: u :: u :: u :: u :: u :: [])) rfl ?_
              exact cut_n hK63 ⟨_, (Option.some.inj h).symm, rfl, (hS.sel 2 [1, 0] (by decide))⟩
            · try simp only [W, EE, Nat.reduceAdd, Nat.reduceBEq, hS.var 0 rfl, hc]
              refine w_call h fun b65 hb65 h => ?_
              refine spec_l1In_w hb65 hS fun H hS => ?_
              try simp only [W, reduceIte, Bool.false_eq_true]
              refine seq_n hK64 ?_
              refine w_killE (s' := (u :: .ptr ip2 wp2 0 0 :: u :: u :: u :: u :: .ptr ip56 wp56 0 0 :: u :: u :: u :: u :: u :: u :: u :: u :: u :: u :: u :: u :: u :: u :: u :: u :: u :: u :: u :: u :: u :: u :: u :: u :: u :: u :: u :: u :: u :: u :: u :: u :: u :: u :: u :: u :: u :: u :: u :: u :: u :: u :: u :: u :: u :: u :: u :: u :: u :: .fz (a0.Line.map e_Slip) :: .int .i64 (a0.Line.length : Int) :: .int .i64 x41 :: u :: u :: u :: u :: u :: u :: u :: u :: u :: u :: u :: u :: u :: u :: u :: u :: u :: u :: u :: .bool (!b65) :: u :: u :: u :: u :: u :: u :: u :: u :: u :: u :: u :: u :: u :: u :: u :: u :: u :: u :: u :: u :: u :: u :: u :: u :: u :: u :: u :: u :: u :: u :: u :: u :: u :: u :: u :: u :: u :: u :: u :: u :: u :: u :: u :: u :: u :: u :: [])) rfl ?_
              exact cut_n hK63 ⟨_, (Option.some.inj h).symm, rfl, (hS.sel 2 [1, 0] (by decide))⟩
        · obtain ⟨x60, ey, rfl, hS⟩ := hq; obtain rfl := ey.symm
          replace h := g62
          try dsimp only at h
          refine seq_n hK59 ?_
          refine w_if ?_
          simp only [W]
          refine w_cnd h (fun hc h => ?_) (fun hc h => ?_)
          · refine w_seq fun K66 hK66 => ?_
            refine w_reg gC ?_
            try simp only [W, Nat.reduceAdd]
            refine seq_n hK66 ?_
            refine w_ret ?_
            refine seq_r hK58 ?_
            refine blk_r hK53 ?_
            refine seq_r hK52 ?_
            try obtain rfl := Option.some.inj h
            obtain rfl := hd47 _ rfl
            have h : (some (LR.done false) : Option (LR Unit (Bool))) = some (LR.done false) := rfl
            refine lp_r hK46 ?_
            refine blk_r hK45 ?_
            try obtain rfl := Option.some.inj h
            obtain rfl := Option.some.inj g49
            have h : (some false : Option (Bool)) = some false := rfl
            refine cut_r hK44 ?_
            refine seq_r hK39 ?_
            refine fin_r1 hK0 rfl ?_
            try obtain rfl := Option.some.inj h
            exact hP _ (hS.sel 2 [] (by decide))
          · refine w_skip ?_
            refine seq_n hK58 ?_
            refine w_seq fun K71 hK71 => ?_
            obtain ⟨y73, h, g74⟩ := Option.bind_eq_some_iff.1 h
            refine w_join gC (fun s H => ∃ x72 : Bool, y73 = (x72) ∧ s = (u :: .ptr ip2 wp2 0 0 :: u :: u :: u :: u :: u :: u :: u :: u :: u :: u :: u :: u :: u :: u :: u :: u :: u :: u :: u :: u :: u :: u :: u :: u :: u :: u :: u :: u :: u :: u :: u :: u :: u :: u :: u :: u :: u :: u :: u :: u :: u :: u :: u :: u :: u :: u :: u :: u :: u :: u :: u :: u :: u :: u :: .fz (a0.Line.map e_Slip) :: .int .i64 (a0.Line.length : Int) :: .int .i64 x41 :: u :: u :: u :: u :: u :: u :: u :: u :: u :: u :: u :: u :: u :: u :: u :: u :: u :: u :: u :: u :: u :: u :: u :: u :: u :: u :: u :: u :: u :: u :: u :: u :: u :: u :: u :: u :: u :: u :: u :: u :: u :: u :: u :: u :: u :: u :: u :: u :: u :: .bool x72 :: u :: u :: u :: u :: u :: u :: u :: u :: u :: u :: u :: u :: u :: u :: u :: u :: []) ∧ Own H (⟨.ptr ip2 wp2 0 0, 3, [.agg [.int .i64 a0.Now, .fz (a0.Cases.map e_Case), .fz (a0.Line.map e_Slip)]]⟩ :: F)) (fun K75 hK75 => ?_) (fun s H hq => ?_)
            · refine w_seq fun K76 hK76 => ?_
              refine w_draw0 gC (by kernel_rfl) ?_
              try simp only [W, EE, Nat.reduceAdd, Nat.reduceBEq, hS.var 1 rfl]
              refine w_grdT h (fun hc h => ?_) (fun hc h => ?_)
              · try simp only [W, EE, Nat.reduceAdd, Nat.reduceBEq, hS.var 1 rfl, hc]
                refine w_grdT h (fun hc h => ?_) (fun hc h => ?_)
                · try simp only [W, reduceIte, hc]
                  refine seq_n hK76 ?_
                  refine w_killE (s' := (u :: .ptr ip2 wp2 0 0 :: u :: u :: u :: u :: u :: u :: u :: u :: u :: u :: u :: u :: u :: u :: u :: u :: u :: u :: u :: u :: u :: u :: u :: u :: u :: u :: u :: u :: u :: u :: u :: u :: u :: u :: u :: u :: u :: u :: u :: u :: u :: u :: u :: u :: u :: u :: u :: u :: u :: u :: u :: u :: u :: u :: .fz (a0.Line.map e_Slip) :: .int .i64 (a0.Line.length : Int) :: .int .i64 x41 :: u :: u :: u :: u :: u :: u :: u :: u :: u :: u :: u :: u :: u :: u :: u :: u :: u :: u :: u :: u :: u :: u :: u :: u :: u :: u :: u :: u :: u :: u :: u :: u :: u :: u :: u :: u :: u :: u :: u :: u :: u :: u :: u :: u :: u :: u :: u :: u :: u :: .bool true :: u :: u :: u :: u :: u :: u :: u :: u :: u :: u :: u :: u :: u :: u :: u :: u :: [])) rfl ?_
                  exact cut_n hK75 ⟨_, (Option.some.inj h).symm, rfl, (hS.sel 2 [0] (by decide))⟩
                · try simp only [W, EE, Nat.reduceAdd, Nat.reduceBEq, hS.var 0 rfl, hS.var 1 rfl, hc]
                  refine w_fz rfl rfl rfl (fun _ => rfl) h fun b77 hb77 h => ?_
                  try simp only [W, EE, EN, reduceIte, Nat.reduceAdd, Nat.reduceBEq, Bool.false_eq_true]
                  refine w_grdT h (fun hc h => ?_) (fun hc h => ?_)
                  · try simp only [W, hc]
                    refine seq_n hK76 ?_
                    refine w_killE (s' := (u :: .ptr ip2 wp2 0 0 :: u :: u :: u :: u :: u :: u :: u :: u :: u :: u :: u :: u :: u :: u :: u :: u :: u :: u :: u :: u :: u :: u :: u :: u :: u :: u :: u :: u :: u :: u :: u :: u :: u :: u :: u :: u :: u :: u :: u :: u :: u :: u :: u :: u :: u :: u :: u :: u :: u :: u :: u :: u :: u :: u :: .fz (a0.Line.map e_Slip) :: .int .i64 (a0.Line.length : Int) :: .int .i64 x41 :: u :: u :: u :: u :: u :: u :: u :: u :: u :: u :: u :: u :: u :: u :: u :: u :: u :: u :: u :: u :: u :: u :: u :: u :: u :: u :: u :: u :: u :: u :: u :: u :: u :: u :: u :: u :: u :: u :: u :: u :: u :: u :: u :: u :: u :: u :: u :: u :: u :: .bool true :: u :: u :: u :: u :: u :: u :: u :: u :: u :: u :: u :: u :: u :: u :: u :: u :: [])) rfl ?_
                    exact cut_n hK75 ⟨_, (Option.some.inj h).symm, rfl, (hS.sel 2 [0] (by decide))⟩
                  · try simp only [W, EE, Nat.reduceAdd, Nat.reduceBEq, hS.var 1 rfl, hc]
                    refine w_grdT h (fun hc h => ?_) (fun hc h => ?_)
                    · try simp only [W, EE, reduceIte, Nat.reduceAdd, Nat.reduceBEq, Bool.false_eq_true, hS.var 1 rfl, hc]
                      refine seq_n hK76 ?_
                      refine w_killE (s' := (u :: .ptr ip2 wp2 0 0 :: u :: u :: u :: u :: u :: u :: u :: u :: u :: u :: u :: u :: u :: u :: u :: u :: u :: u :: u :: u :: u :: u :: u :: u :: u :: u :: u :: u :: u :: u :: u :: u :: u :: u :: u :: u :: u :: u :: u :: u :: u :: u :: u :: u :: u :: u :: u :: u :: u :: u :: u :: u :: u :: u :: .fz (a0.Line.map e_Slip) :: .int .i64 (a0.Line.length : Int) :: .int .i64 x41 :: u :: u :: u :: u :: u :: u :: u :: u :: u :: u :: u :: u :: u :: u :: u :: u :: u :: u :: u :: u :: u :: u :: u :: u :: u :: u :: u :: u :: u :: u :: u :: u :: u :: u :: u :: u :: u :: u :: u :: u :: u :: u :: u :: u :: u :: u :: u :: u :: u :: .bool (b55.What != 0) :: u :: u :: u :: u :: u :: u :: u :: u :: u :: u :: u :: u :: u :: u :: u :: u :: [])) rfl ?_
                      exact cut_n hK75 ⟨_, (Option.some.inj h).symm, rfl, (hS.sel 2 [0] (by decide))⟩
                    · try simp only [W, reduceIte, Bool.false_eq_true, hc]
                      refine seq_n hK76 ?_
                      refine w_killE (s' := (u :: .ptr ip2 wp2 0 0 :: u :: u :: u :: u :: u :: u :: u :: u :: u :: u :: u :: u :: u :: u :: u :: u :: u :: u :: u :: u :: u :: u :: u :: u :: u :: u :: u :: u :: u :: u :: u :: u :: u :: u :: u :: u :: u :: u :: u :: u :: u :: u :: u :: u :: u :: u :: u :: u :: u :: u :: u :: u :: u :: u :: .fz (a0.Line.map e_Slip) :: .int .i64 (a0.Line.length : Int) :: .int .i64 x41 :: u :: u :: u :: u :: u :: u :: u :: u :: u :: u :: u :: u :: u :: u :: u :: u :: u :: u :: u :: u :: u :: u :: u :: u :: u :: u :: u :: u :: u :: u :: u :: u :: u :: u :: u :: u :: u :: u :: u :: u :: u :: u :: u :: u :: u :: u :: u :: u :: u :: .bool false :: u :: u :: u :: u :: u :: u :: u :: u :: u :: u :: u :: u :: u :: u :: u :: u :: [])) rfl ?_
                      exact cut_n hK75 ⟨_, (Option.some.inj h).symm, rfl, (hS.sel 2 [0] (by decide))⟩
              · try simp only [W, EE, Nat.reduceAdd, Nat.reduceBEq, hS.var 1 rfl, hc]
                refine w_grdT h (fun hc h => ?_) (fun hc h => ?_)
                · try simp only [W, EE, reduceIte, Nat.reduceAdd, Nat.reduceBEq, Bool.false_eq_true, hS.var 1 rfl, hc]
                  refine seq_n hK76 ?_
                  refine w_killE (s' := (u :: .ptr ip2 wp2 0 0 :: u :: u :: u :: u :: u :: u :: u :: u :: u :: u :: u :: u :: u :: u :: u :: u :: u :: u :: u :: u :: u :: u :: u :: u :: u :: u :: u :: u :: u :: u :: u :: u :: u :: u :: u :: u :: u :: u :: u :: u :: u :: u :: u :: u :: u :: u :: u :: u :: u :: u :: u :: u :: u :: u :: .fz (a0.Line.map e_Slip) :: .int .i64 (a0.Line.length : Int) :: .int .i64 x41 :: u :: u :: u :: u :: u :: u :: u :: u :: u :: u :: u :: u :: u :: u :: u :: u :: u :: u :: u :: u :: u :: u :: u :: u :: u :: u :: u :: u :: u :: u :: u :: u :: u :: u :: u :: u :: u :: u :: u :: u :: u :: u :: u :: u :: u :: u :: u :: u :: u :: .bool (b55.What != 0) :: u :: u :: u :: u :: u :: u :: u :: u :: u :: u :: u :: u :: u :: u :: u :: u :: [])) rfl ?_
                  exact cut_n hK75 ⟨_, (Option.some.inj h).symm, rfl, (hS.sel 2 [0] (by decide))⟩
                · try simp only [W, reduceIte, Bool.false_eq_true, hc]
                  refine seq_n hK76 ?_
                  refine w_killE (s' := (u :: .ptr ip2 wp2 0 0 :: u :: u :: u :: u :: u :: u :: u :: u :: u :: u :: u :: u :: u :: u :: u :: u :: u :: u :: u :: u :: u :: u :: u :: u :: u :: u :: u :: u :: u :: u :: u :: u :: u :: u :: u :: u :: u :: u :: u :: u :: u :: u :: u :: u :: u :: u :: u :: u :: u :: u :: u :: u :: u :: u :: .fz (a0.Line.map e_Slip) :: .int .i64 (a0.Line.length : Int) :: .int .i64 x41 :: u :: u :: u :: u :: u :: u :: u :: u :: u :: u :: u :: u :: u :: u :: u :: u :: u :: u :: u :: u :: u :: u :: u :: u :: u :: u :: u :: u :: u :: u :: u :: u :: u :: u :: u :: u :: u :: u :: u :: u :: u :: u :: u :: u :: u :: u :: u :: u :: u :: .bool false :: u :: u :: u :: u :: u :: u :: u :: u :: u :: u :: u :: u :: u :: u :: u :: u :: [])) rfl ?_
                  exact cut_n hK75 ⟨_, (Option.some.inj h).symm, rfl, (hS.sel 2 [0] (by decide))⟩
            · obtain ⟨x72, ey, rfl, hS⟩ := hq; obtain rfl := ey.symm
              replace h := g74
              try dsimp only at h
              refine seq_n hK71 ?_
              refine w_if ?_
              simp only [W]
              refine w_cnd h (fun hc h => ?_) (fun hc h => ?_)
              · refine w_seq fun K78 hK78 => ?_
                refine w_reg gC ?_
                try simp only [W, Nat.reduceAdd]
                refine seq_n hK78 ?_
                refine w_ret ?_
                refine blk_r hK53 ?_
                refine seq_r hK52 ?_
                try obtain rfl := Option.some.inj h
                obtain rfl := hd47 _ rfl
                have h : (some (LR.done false) : Option (LR Unit (Bool))) = some (LR.done false) := rfl
                refine lp_r hK46 ?_
                refine blk_r hK45 ?_
                try obtain rfl := Option.some.inj h
                obtain rfl := Option.some.inj g49
                have h : (some false : Option (Bool)) = some false := rfl
                refine cut_r hK44 ?_
                refine seq_r hK39 ?_
                refine fin_r1 hK0 rfl ?_
                try obtain rfl := Option.some.inj h
                exact hP _ (hS.sel 1 [] (by decide))
              · refine w_skip ?_
                refine blk_n0 hK53 ?_
                refine seq_n hK52 ?_
                refine w_reg gC ?_
                try simp only [W, EE, Nat.reduceAdd]
                exact lp_n hK46 h ⟨rfl, hS⟩
      · refine w_exit ?_
        refine seq_x hK51 ?_
        try obtain rfl := Option.some.inj h
        obtain rfl := hd47 _ rfl
        have h : (some (LR.next ()) : Option (LR Unit (Bool))) = some (LR.next ()) := rfl
        refine lp_x hK46 ?_
        refine blk_e hK45 ?_
        exact cut_n hK44 ⟨(Option.some.inj h).symm, rfl, hS⟩
    · obtain ⟨rfl, rfl, hS⟩ := hq
      replace h := g49
      try dsimp only at h
      refine seq_n hK39 ?_
      refine w_seq fun K85 hK85 => ?_
      refine w_reg gC ?_
      try simp only [W, EE, Nat.reduceAdd, Nat.reduceBEq, hS.var 0 rfl]
      refine w_grdT h (fun hc h => ?_) (fun hc h => ?_)
      · try simp only [W, EE, Nat.reduceAdd, Nat.reduceBEq, hS.var 0 rfl, hc]
        refine w_call h fun b86 hb86 h => ?_
        refine spec_l1In_w hb86 hS fun H hS => ?_
        try simp only [W, reduceIte]
        refine w_grdT h (fun hc h => ?_) (fun hc h => ?_)
        · try simp only [W, EE, reduceIte, Nat.reduceAdd, Nat.reduceBEq, hS.var 0 rfl, hc]
          refine seq_n hK85 ?_
          refine w_ret ?_
          refine fin_r1 hK0 rfl ?_
          try obtain rfl := Option.some.inj h
          exact hP _ (hS.sel 1 [] (by decide))
        · try simp only [W, hc]
          refine seq_n hK85 ?_
          refine w_ret ?_
          refine fin_r1 hK0 rfl ?_
          try obtain rfl := Option.some.inj h
          exact hP _ (hS.sel 1 [] (by decide))
      · try simp only [W, hc]
        refine seq_n hK85 ?_
        refine w_ret ?_
        refine fin_r1 hK0 rfl ?_
        try obtain rfl := Option.some.inj h
        exact hP _ (hS.sel 1 [] (by decide))
theorem spec_StepCourt_w {a0 : Court} {a1 : CourtStep} {r : (Court × Bool)} (h : spec_StepCourt a0 a1 = some r) {F : List It} {H : Heap} (hS : Own H (F)) {P : AV → Heap → Prop} (hP : ∀ v40 : AV, isSl v40 → ∀ v42 : AV, isSl v42 → ∀ H', Own H' (⟨v40, 4, r.1.Cases.map e_Case⟩ :: ⟨v42, 3, r.1.Line.map e_Slip⟩ :: F) → P (.tup [.agg [.int .i64 r.1.Now, v40, v42], .bool r.2]) H') : ACall C 86 [.agg [.int .i64 a0.Now, .fz (a0.Cases.map e_Case), .fz (a0.Line.map e_Slip)], .agg [.int .i64 a1.Kind, .int .i64 a1.K]] H P := by
  refine acall_of gC (res := [.cell 4 68, .tmp 5]) (n := 24) rfl rfl rfl rfl fun K0 hK0 => ?_
  simp only [W, Nat.reduceSub, Nat.reduceAdd, List.replicate]
  unfold spec_StepCourt at h
  refine w_seq fun K1 hK1 => ?_
  refine w_reg gC ?_
  try simp only [W, Nat.reduceAdd]
  refine w_box hS rfl rfl rfl rfl fun ip2 wp2 H hS => ?_
  try simp only [W]
  refine w_box hS rfl rfl rfl rfl fun ip4 wp4 H hS => ?_
  try simp only [W]
  refine w_alloc hS rfl rfl fun ip6 wp6 H hS => ?_
  try simp only [W]
  refine seq_n hK1 ?_
  refine w_seq fun K8 hK8 => ?_
  refine w_seq fun K9 hK9 => ?_
  refine w_reg gC ?_
  try simp only [W, EE, reduceIte, Nat.reduceAdd, Nat.reduceLeDiff, hS.var 2 rfl]
  refine w_call h fun b10 hb10 h => ?_
  refine spec_GoodCourt_w hb10 hS fun H hS => ?_
  try simp only [W]
  refine seq_n hK9 ?_
  refine w_if ?_
  simp only [W]
  refine w_cnd h (fun hc h => ?_) (fun hc h => ?_)
  · refine w_seq fun K11 hK11 => ?_
    refine w_reg gC ?_
    try simp only [W, EE, Nat.reduceAdd]
    refine w_bld rfl rfl rfl rfl rfl ?_
    try simp only [W]
    refine w_stv (a := .agg [.int .i64 0, .nil, .nil]) (y' := .agg [.int .i64 0, .nil, .nil]) 0 hS rfl rfl rfl rfl rfl rfl rfl rfl fun H hS => ?_
    try simp only [W]
    refine seq_n hK11 ?_
    refine w_ret ?_
    refine seq_r hK8 ?_
    refine fin_r hK0 (res_c rfl rfl (hS.var 0 rfl) rfl (res_tc rfl rfl)) ?_
    try obtain rfl := Option.some.inj h
    exact hP _ isSl_nil _ isSl_nil _ (((hS.nil_ 3).nil_ 4).sel 5 [0, 1] (by decide))
  · refine w_skip ?_
    refine seq_n hK8 ?_
    refine w_seq fun K12 hK12 => ?_
    refine w_drawL gC [(3, []), (8, [6])] (by kernel_rfl) rfl (by kernel_rfl) ?_
    try simp only [W, EE, reduceIte, Nat.reduceAdd, Nat.reduceLeDiff, Nat.reduceBEq, hS.var 2 rfl, tabAt, qAt, Nat.reduceEqDiff, List.contains_cons, Nat.reduceBEq, Bool.or_self]
    refine w_callO (rsh := [[.sc, .sl [.sc, .sc, .sc, .sc], .sl [.sc, .sc, .sc]]]) (ys := [.agg [.int .i64 a0.Now, .fz (a0.Cases.map e_Case), .fz (a0.Line.map e_Slip)]]) h rfl (by rfl) fun b13 hb13 h => ⟨.agg [.int .i64 b13.Now, .own 4 (b13.Cases.map e_Case), .own 3 (b13.Line.map e_Slip)], spec_l16Own_w hb13 (Own.nil _) fun v14 qv14 v15 qv15 H hS => TV_ok rfl (TV_a (TC_sc rfl (TC_ow 0 hS rfl qv14 (fun _ _ => by simp [takeE, takeT, takeC, plainA, e_Case]) fun H hS => TC_ow 0 hS rfl qv15 (fun _ _ => by simp [takeE, takeT, takeC, plainA, e_Slip]) fun H hS => TC_nil (TV_n rfl)))), (nf_a (nf_c rfl (nf_c (noFz_o _ (fun _ => rfl) _) (nf_c (noFz_o _ (fun _ => rfl) _) nf_n)))), ?_⟩
    refine thaw_1 ?_
    refine TH_a ?_
    refine TH_p (fun _ => rfl) ?_
    refine TH_o hS (fun _ _ => rfl) (fun _ => rfl) fun v17 H qv17 hS => ?_
    refine TH_o hS (fun _ _ => rfl) (fun _ => rfl) fun v19 H qv19 hS => ?_
    refine TH_n ?_
    refine TH_n ?_
    try simp only [List.headD_cons]
    try simp only [W, EE, reduceIte, Nat.reduceAdd, Nat.reduceLeDiff, hS.var 3 rfl]
    refine w_call h fun b20 hb20 h => ?_
    obtain ⟨b21, b22⟩ := b20
    try dsimp only at h
    refine spec_l16Step_w hb20 (hS.sel 5 [1, 0, 2, 3, 4] (by decide)) qv17 qv19 fun v23 qv23 v25 qv25 H hS => ?_
    try simp only [W]
    refine w_alloc hS rfl rfl fun ip27 wp27 H hS => ?_
    try simp only [W]
    refine w_stv (a := .agg [.int .i64 b21.Now, v23, v25]) (y' := .agg [.int .i64 b21.Now, v23, v25]) 0 hS rfl rfl rfl rfl rfl (by simp only [storA, List.all_cons, List.all_nil, qv23.stor, qv25.stor]; rfl) rfl rfl fun H hS => ?_
    refine goK_late ?_
    refine lateG_s (by first | rfl | (simp [evalOp, W, EE, EN, rdAt, mkT, subL, AV.cells, hS.var 0 rfl, hS.var 3 rfl, hS.var 4 rfl, hS.var 5 rfl]; done)) ?_
    refine lateG_n ?_
    try simp only [W]
    refine seq_n hK12 ?_
    refine w_seq fun K29 hK29 => ?_
    refine w_seq fun K30 hK30 => ?_
    refine w_reg gC ?_
    try simp only [W, Nat.reduceAdd]
    refine seq_n hK30 ?_
    refine w_if ?_
    simp only [W]
    refine w_cnd h (fun hc h => ?_) (fun hc h => ?_)
    · refine w_seq fun K31 hK31 => ?_
      refine w_reg gC ?_
      try simp only [W, EE, Nat.reduceAdd]
      refine w_bld rfl rfl rfl rfl rfl ?_
      try simp only [W]
      refine w_stv (a := .agg [.int .i64 0, .nil, .nil]) (y' := .agg [.int .i64 0, .nil, .nil]) 3 hS rfl rfl rfl rfl rfl rfl rfl rfl fun H hS => ?_
      try simp only [W]
      refine seq_n hK31 ?_
      refine w_ret ?_
      refine seq_r hK29 ?_
      refine fin_r hK0 (res_c rfl rfl (hS.var 3 rfl) rfl (res_tc rfl rfl)) ?_
      try obtain rfl := Option.some.inj h
      exact hP _ isSl_nil _ isSl_nil _ (((hS.nil_ 3).nil_ 4).sel 8 [0, 1] (by decide))
    · refine w_skip ?_
      refine seq_n hK29 ?_
      refine w_seq fun K32 hK32 => ?_
      refine w_reg gC ?_
      try simp only [W, EE, reduceIte, Nat.reduceAdd, Nat.reduceLeDiff, Nat.reduceBEq, hS.var 0 rfl, List.contains_cons, Nat.reduceBEq, Bool.or_self]
      refine w_callO (rsh := [[.sc, .sl [.sc, .sc, .sc, .sc], .sl [.sc, .sc, .sc]]]) (ys := [.agg [.int .i64 b21.Now, .fz (b21.Cases.map e_Case), .fz (b21.Line.map e_Slip)]]) h rfl (pv_c (sn_agg (sm_c rfl (sm_c (sn_ow hS 1 rfl qv23 (fun _ => rfl)) (sm_c (sn_ow hS 2 rfl qv25 (fun _ => rfl)) (sm_n _))))) pv_n) fun b33 hb33 h => ⟨.agg [.int .i64 b33.Now, .own 4 (b33.Cases.map e_Case), .own 3 (b33.Line.map e_Slip)], spec_l16Own_w hb33 (Own.nil _) fun v34 qv34 v35 qv35 H hS => TV_ok rfl (TV_a (TC_sc rfl (TC_ow 0 hS rfl qv34 (fun _ _ => by simp [takeE, takeT, takeC, plainA, e_Case]) fun H hS => TC_ow 0 hS rfl qv35 (fun _ _ => by simp [takeE, takeT, takeC, plainA, e_Slip]) fun H hS => TC_nil (TV_n rfl)))), (nf_a (nf_c rfl (nf_c (noFz_o _ (fun _ => rfl) _) (nf_c (noFz_o _ (fun _ => rfl) _) nf_n)))), ?_⟩
      refine thaw_1 ?_
      refine TH_a ?_
      refine TH_p (fun _ => rfl) ?_
      refine TH_o hS (fun _ _ => rfl) (fun _ => rfl) fun v37 H qv37 hS => ?_
      refine TH_o hS (fun _ _ => rfl) (fun _ => rfl) fun v39 H qv39 hS => ?_
      refine TH_n ?_
      refine TH_n ?_
      try simp only [List.headD_cons]
      try simp only [W]
      refine w_stv (a := .agg [.int .i64 b33.Now, v37, v39]) (y' := .agg [.int .i64 b33.Now, v37, v39]) 5 hS rfl rfl rfl rfl rfl (by simp only [storA, List.all_cons, List.all_nil, qv37.stor, qv39.stor]; rfl) rfl rfl fun H hS => ?_
      try simp only [W]
      refine seq_n hK32 ?_
      refine w_ret ?_
      refine fin_r hK0 (res_c rfl rfl (hS.var 5 rfl) rfl (res_tc rfl rfl)) ?_
      try obtain rfl := Option.some.inj h
      exact hP _ qv37 _ qv39 _ (hS.sel 8 [1, 0] (by decide))
theorem laws_sameCourts_w {a0 : Court} {a1 : Court} {r : (Bool)} (h : laws_sameCourts a0 a1 = some r) {F : List It} {H : Heap} (hS : Own H (F)) {P : AV → Heap → Prop} (hP : ∀ H', Own H' (F) → P (.bool r) H') : ACall C 50 [.agg [.int .i64 a0.Now, .fz (a0.Cases.map e_Case), .fz (a0.Line.map e_Slip)], .agg [.int .i64 a1.Now, .fz (a1.Cases.map e_Case), .fz (a1.Line.map e_Slip)]] H P := by
  refine acall_of gC (res := [.tmp 4]) (n := 66) rfl rfl rfl rfl fun K0 hK0 => ?_
  simp only [W, Nat.reduceSub, Nat.reduceAdd, List.replicate]
  unfold laws_sameCourts at h
  refine w_seq fun K1 hK1 => ?_
  refine w_reg gC ?_
  try simp only [W, Nat.reduceAdd]
  refine w_box hS rfl rfl rfl rfl fun ip2 wp2 H hS => ?_
  try simp only [W]
  refine w_box hS rfl rfl rfl rfl fun ip4 wp4 H hS => ?_
  try simp only [W]
  refine seq_n hK1 ?_
  refine w_seq fun K6 hK6 => ?_
  refine w_seq fun K7 hK7 => ?_
  obtain ⟨y9, h, g10⟩ := Option.bind_eq_some_iff.1 h
  refine w_join gC (fun s H => ∃ x8 : Bool, y9 = (x8) ∧ s = (u :: u :: .ptr ip2 wp2 0 0 :: .ptr ip4 wp4 0 0 :: u :: u :: u :: u :: u :: u :: u :: u :: u :: u :: u :: u :: u :: u :: u :: u :: u :: u :: u :: u :: u :: u :: u :: u :: u :: .bool x8 :: u :: u :: u :: u :: u :: u :: u :: u :: u :: u :: u :: u :: u :: u :: u :: u :: u :: u :: u :: u :: u :: u :: u :: u :: u :: u :: u :: u :: u :: u :: u :: u :: u :: u :: u :: u :: []) ∧ Own H (⟨.ptr ip2 wp2 0 0, 3, [.agg [.int .i64 a0.Now, .fz (a0.Cases.map e_Case), .fz (a0.Line.map e_Slip)]]⟩ :: ⟨.ptr ip4 wp4 0 0, 3, [.agg [.int .i64 a1.Now, .fz (a1.Cases.map e_Case), .fz (a1.Line.map e_Slip)]]⟩ :: F)) (fun K11 hK11 => ?_) (fun s H hq => ?_)
  · refine w_seq fun K12 hK12 => ?_
    refine w_reg gC ?_
    try simp only [W, EE, Nat.reduceAdd, Nat.reduceBEq, hS.var 1 rfl, hS.var 0 rfl]
    refine w_grdT h (fun hc h => ?_) (fun hc h => ?_)
    · try simp only [W, hc]
      refine seq_n hK12 ?_
      refine w_killE (s' := (u :: u :: .ptr ip2 wp2 0 0 :: .ptr ip4 wp4 0 0 :: u :: u :: u :: u :: u :: u :: u :: u :: u :: u :: u :: u :: u :: u :: u :: u :: u :: u :: u :: u :: u :: u :: u :: u :: u :: .bool true :: u :: u :: u :: u :: u :: u :: u :: u :: u :: u :: u :: u :: u :: u :: u :: u :: u :: u :: u :: u :: u :: u :: u :: u :: u :: u :: u :: u :: u :: u :: u :: u :: u :: u :: u :: u :: [])) rfl ?_
      exact cut_n hK11 ⟨_, (Option.some.inj h).symm, rfl, (hS.sel 2 [1, 0] (by decide))⟩
    · try simp only [W, EE, reduceIte, Nat.reduceAdd, Nat.reduceBEq, Bool.false_eq_true, hS.var 1 rfl, hS.var 0 rfl, hc]
      refine w_grdT h (fun hc h => ?_) (fun hc h => ?_)
      · try simp only [W, hc]
        refine seq_n hK12 ?_
        refine w_killE (s' := (u :: u :: .ptr ip2 wp2 0 0 :: .ptr ip4 wp4 0 0 :: u :: u :: u :: u :: u :: u :: u :: u :: u :: u :: u :: u :: u :: u :: u :: u :: u :: u :: u :: u :: u :: u :: u :: u :: u :: .bool true :: u :: u :: u :: u :: u :: u :: u :: u :: u :: u :: u :: u :: u :: u :: u :: u :: u :: u :: u :: u :: u :: u :: u :: u :: u :: u :: u :: u :: u :: u :: u :: u :: u :: u :: u :: u :: [])) rfl ?_
        exact cut_n hK11 ⟨_, (Option.some.inj h).symm, rfl, (hS.sel 2 [1, 0] (by decide))⟩
      · try simp only [W, EE, reduceIte, Nat.reduceAdd, Nat.reduceBEq, Bool.false_eq_true, hS.var 1 rfl, hS.var 0 rfl, hc]
        refine seq_n hK12 ?_
        refine w_killE (s' := (u :: u :: .ptr ip2 wp2 0 0 :: .ptr ip4 wp4 0 0 :: u :: u :: u :: u :: u :: u :: u :: u :: u :: u :: u :: u :: u :: u :: u :: u :: u :: u :: u :: u :: u :: u :: u :: u :: u :: .bool ((a0.Line.length : Int) != (a1.Line.length : Int)) :: u :: u :: u :: u :: u :: u :: u :: u :: u :: u :: u :: u :: u :: u :: u :: u :: u :: u :: u :: u :: u :: u :: u :: u :: u :: u :: u :: u :: u :: u :: u :: u :: u :: u :: u :: u :: [])) rfl ?_
        exact cut_n hK11 ⟨_, (Option.some.inj h).symm, rfl, (hS.sel 2 [1, 0] (by decide))⟩
  · obtain ⟨x8, ey, rfl, hS⟩ := hq; obtain rfl := ey.symm
    replace h := g10
    try dsimp only at h
    refine seq_n hK7 ?_
    refine w_if ?_
    simp only [W]
    refine w_cnd h (fun hc h => ?_) (fun hc h => ?_)
    · refine w_seq fun K13 hK13 => ?_
      refine w_reg gC ?_
      try simp only [W, Nat.reduceAdd]
      refine seq_n hK13 ?_
      refine w_ret ?_
      refine seq_r hK6 ?_
      refine fin_r1 hK0 rfl ?_
      try obtain rfl := Option.some.inj h
      exact hP _ (hS.sel 2 [] (by decide))
    · refine w_skip ?_
      refine seq_n hK6 ?_
      refine w_seq fun K14 hK14 => ?_
      refine w_seq fun K15 hK15 => ?_
      refine w_reg gC ?_
      try simp only [W, EE, Nat.reduceAdd, Nat.reduceBEq, hS.var 0 rfl]
      refine seq_n hK15 ?_
      obtain ⟨y17, hw18, g24⟩ := Option.bind_eq_some_iff.1 h
      refine w_join gC (fun s H => y17 = LR.next () ∧ s = (u :: u :: .ptr ip2 wp2 0 0 :: .ptr ip4 wp4 0 0 :: u :: u :: u :: u :: u :: u :: u :: u :: u :: u :: u :: u :: u :: u :: u :: u :: u :: u :: u :: u :: u :: u :: u :: u :: u :: u :: u :: u :: u :: u :: u :: u :: u :: u :: u :: u :: u :: u :: u :: u :: u :: u :: u :: u :: u :: u :: u :: u :: u :: u :: u :: u :: u :: u :: u :: u :: u :: u :: u :: u :: u :: u :: []) ∧ Own H (⟨.ptr ip2 wp2 0 0, 3, [.agg [.int .i64 a0.Now, .fz (a0.Cases.map e_Case), .fz (a0.Line.map e_Slip)]]⟩ :: ⟨.ptr ip4 wp4 0 0, 3, [.agg [.int .i64 a1.Now, .fz (a1.Cases.map e_Case), .fz (a1.Line.map e_Slip)]]⟩ :: F)) (fun K19 hK19 => ?_) (fun s H hq => ?_)
      · refine w_blk fun K20 hK20 => ?_
        refine w_loop gC hw18 (fun x s H => s = (u :: u :: .ptr ip2 wp2 0 0 :: .ptr ip4 wp4 0 0 :: u :: u :: u :: u :: u :: u :: u :: u :: u :: u :: u :: u :: u :: u :: u :: u :: u :: u :: u :: u :: u :: u :: u :: u :: u :: u :: u :: u :: .int .i64 (a0.Cases.length : Int) :: .int .i64 x :: u :: u :: u :: u :: u :: u :: u :: u :: u :: u :: u :: u :: u :: u :: u :: u :: u :: u :: u :: u :: u :: u :: u :: u :: u :: u :: u :: u :: u :: u :: u :: u :: []) ∧ Own H (⟨.ptr ip2 wp2 0 0, 3, [.agg [.int .i64 a0.Now, .fz (a0.Cases.map e_Case), .fz (a0.Line.map e_Slip)]]⟩ :: ⟨.ptr ip4 wp4 0 0, 3, [.agg [.int .i64 a1.Now, .fz (a1.Cases.map e_Case), .fz (a1.Line.map e_Slip)]]⟩ :: F)) ⟨rfl, hS⟩ (fun x16 y23 s H h hd22 hi K21 hK21 => ?_)
        skip
        try dsimp only at hi
        obtain ⟨rfl, hS⟩ := hi
        simp only [laws_sameCourts_l0] at h
        refine w_seq fun K25 hK25 => ?_
        refine w_reg gC ?_
        try simp only [W, EE, Nat.reduceAdd]
        refine seq_n hK25 ?_
        refine w_seq fun K26 hK26 => ?_
        refine w_if ?_
        simp only [W]
        refine w_cnd h (fun hc h => ?_) (fun hc h => ?_)
        · refine w_skip ?_
          refine seq_n hK26 ?_
          refine w_seq fun K27 hK27 => ?_
          refine w_blk fun K28 hK28 => ?_
          refine w_seq fun K29 hK29 => ?_
          refine w_reg gC ?_
          try simp only [W, Nat.reduceAdd]
          refine seq_n hK29 ?_
          refine w_seq fun K30 hK30 => ?_
          refine w_draw0 gC (by kernel_rfl) ?_
          try simp only [W, EE, Nat.reduceAdd, Nat.reduceBEq, hS.var 0 rfl]
          refine w_fz rfl rfl rfl (fun _ => rfl) h fun b31 hb31 h => ?_
          try simp only [W, EE, EN, reduceIte, Nat.reduceAdd, Nat.reduceLeDiff, Nat.reduceBEq, hS.var 1 rfl]
          refine w_fz rfl rfl rfl (fun _ => rfl) h fun b32 hb32 h => ?_
          try simp only [W, EE, EN, reduceIte, Nat.reduceAdd, Nat.reduceLeDiff]
          refine seq_n hK30 ?_
          refine w_if ?_
          simp only [W]
          refine w_cnd h (fun hc h => ?_) (fun hc h => ?_)
          · refine w_seq fun K33 hK33 => ?_
            refine w_reg gC ?_
            try simp only [W, Nat.reduceAdd]
            refine seq_n hK33 ?_
            refine w_ret ?_
            refine blk_r hK28 ?_
            refine seq_r hK27 ?_
            try obtain rfl := Option.some.inj h
            obtain rfl := hd22 _ rfl
            have h : (some (LR.done false) : Option (LR Unit (Bool))) = some (LR.done false) := rfl
            refine lp_r hK21 ?_
            refine blk_r hK20 ?_
            try obtain rfl := Option.some.inj h
            obtain rfl := Option.some.inj g24
            have h : (some false : Option (Bool)) = some false := rfl
            refine cut_r hK19 ?_
            refine seq_r hK14 ?_
            refine fin_r1 hK0 rfl ?_
            try obtain rfl := Option.some.inj h
            exact hP _ (hS.sel 2 [] (by decide))
          · refine w_skip ?_
            refine blk_n0 hK28 ?_
            refine seq_n hK27 ?_
            refine w_reg gC ?_
            try simp only [W, EE, Nat.reduceAdd]
            exact lp_n hK21 h ⟨rfl, hS⟩
        · refine w_exit ?_
          refine seq_x hK26 ?_
          try obtain rfl := Option.some.inj h
          obtain rfl := hd22 _ rfl
          have h : (some (LR.next ()) : Option (LR Unit (Bool))) = some (LR.next ()) := rfl
          refine lp_x hK21 ?_
          refine blk_e hK20 ?_
          exact cut_n hK19 ⟨(Option.some.inj h).symm, rfl, hS⟩
      · obtain ⟨rfl, rfl, hS⟩ := hq
        replace h := g24
        try dsimp only at h
        refine seq_n hK14 ?_
        refine w_seq fun K40 hK40 => ?_
        refine w_seq fun K41 hK41 => ?_
        refine w_reg gC ?_
        try simp only [W, EE, Nat.reduceAdd, Nat.reduceBEq, hS.var 0 rfl]
        refine seq_n hK41 ?_
        obtain ⟨y43, hw44, g50⟩ := Option.bind_eq_some_iff.1 h
        refine w_join gC (fun s H => y43 = LR.next () ∧ s = (u :: u :: u :: u :: u :: u :: u :: u :: u :: u :: u :: u :: u :: u :: u :: u :: u :: u :: u :: u :: u :: u :: u :: u :: u :: u :: u :: u :: u :: u :: u :: u :: u :: u :: u :: u :: u :: u :: u :: u :: u :: u :: u :: u :: u :: u :: u :: u :: u :: u :: u :: u :: u :: u :: u :: u :: u :: u :: u :: u :: u :: u :: u :: u :: u :: u :: []) ∧ Own H (F)) (fun K45 hK45 => ?_) (fun s H hq => ?_)
        · refine w_blk fun K46 hK46 => ?_
          refine w_loop gC hw44 (fun x s H => s = (u :: u :: .ptr ip2 wp2 0 0 :: .ptr ip4 wp4 0 0 :: u :: u :: u :: u :: u :: u :: u :: u :: u :: u :: u :: u :: u :: u :: u :: u :: u :: u :: u :: u :: u :: u :: u :: u :: u :: u :: u :: u :: u :: u :: u :: u :: u :: u :: u :: u :: u :: u :: u :: u :: u :: u :: u :: u :: u :: u :: .int .i64 (a0.Line.length : Int) :: .int .i64 x :: u :: u :: u :: u :: u :: u :: u :: u :: u :: u :: u :: u :: u :: u :: []) ∧ Own H (⟨.ptr ip2 wp2 0 0, 3, [.agg [.int .i64 a0.Now, .fz (a0.Cases.map e_Case), .fz (a0.Line.map e_Slip)]]⟩ :: ⟨.ptr ip4 wp4 0 0, 3, [.agg [.int .i64 a1.Now, .fz (a1.Cases.map e_Case), .fz (a1.Line.map e_Slip)]]⟩ :: F)) ⟨rfl, hS⟩ (fun x42 y49 s H h hd48 hi K47 hK47 => ?_)
          skip
          try dsimp only at hi
          obtain ⟨rfl, hS⟩ := hi
          simp only [laws_sameCourts_l1] at h
          refine w_seq fun K51 hK51 => ?_
          refine w_reg gC ?_
          try simp only [W, EE, Nat.reduceAdd]
          refine seq_n hK51 ?_
          refine w_seq fun K52 hK52 => ?_
          refine w_if ?_
          simp only [W]
          refine w_cnd h (fun hc h => ?_) (fun hc h => ?_)
          · refine w_skip ?_
            refine seq_n hK52 ?_
            refine w_seq fun K53 hK53 => ?_
            refine w_blk fun K54 hK54 => ?_
            refine w_seq fun K55 hK55 => ?_
            refine w_reg gC ?_
            try simp only [W, Nat.reduceAdd]
            refine seq_n hK55 ?_
            refine w_seq fun K56 hK56 => ?_
            refine w_draw0 gC (by kernel_rfl) ?_
            try simp only [W, EE, Nat.reduceAdd, Nat.reduceBEq, hS.var 0 rfl]
            refine w_fz rfl rfl rfl (fun _ => rfl) h fun b57 hb57 h => ?_
            try simp only [W, EE, EN, reduceIte, Nat.reduceAdd, Nat.reduceLeDiff, Nat.reduceBEq, hS.var 1 rfl]
            refine w_fz rfl rfl rfl (fun _ => rfl) h fun b58 hb58 h => ?_
            try simp only [W, EE, EN, reduceIte, Nat.reduceAdd, Nat.reduceLeDiff]
            refine seq_n hK56 ?_
            refine w_if ?_
            simp only [W]
            refine w_cnd h (fun hc h => ?_) (fun hc h => ?_)
            · refine w_seq fun K59 hK59 => ?_
              refine w_reg gC ?_
              try simp only [W, Nat.reduceAdd]
              refine seq_n hK59 ?_
              refine w_ret ?_
              refine blk_r hK54 ?_
              refine seq_r hK53 ?_
              try obtain rfl := Option.some.inj h
              obtain rfl := hd48 _ rfl
              have h : (some (LR.done false) : Option (LR Unit (Bool))) = some (LR.done false) := rfl
              refine lp_r hK47 ?_
              refine blk_r hK46 ?_
              try obtain rfl := Option.some.inj h
              obtain rfl := Option.some.inj g50
              have h : (some false : Option (Bool)) = some false := rfl
              refine cut_r hK45 ?_
              refine seq_r hK40 ?_
              refine fin_r1 hK0 rfl ?_
              try obtain rfl := Option.some.inj h
              exact hP _ (hS.sel 2 [] (by decide))
            · refine w_skip ?_
              refine blk_n0 hK54 ?_
              refine seq_n hK53 ?_
              refine w_reg gC ?_
              try simp only [W, EE, Nat.reduceAdd]
              exact lp_n hK47 h ⟨rfl, hS⟩
          · refine w_exit ?_
            refine seq_x hK52 ?_
            try obtain rfl := Option.some.inj h
            obtain rfl := hd48 _ rfl
            have h : (some (LR.next ()) : Option (LR Unit (Bool))) = some (LR.next ()) := rfl
            refine lp_x hK47 ?_
            refine blk_e hK46 ?_
            exact cut_n hK45 ⟨(Option.some.inj h).symm, rfl, (hS.sel 2 [] (by decide))⟩
        · obtain ⟨rfl, rfl, hS⟩ := hq
          replace h := g50
          try dsimp only at h
          refine seq_n hK40 ?_
          refine w_seq fun K66 hK66 => ?_
          refine w_reg gC ?_
          try simp only [W, Nat.reduceAdd]
          refine seq_n hK66 ?_
          refine w_ret ?_
          refine fin_r1 hK0 rfl ?_
          try obtain rfl := Option.some.inj h
          exact hP _ hS
theorem spec_DrawGoodCourt_w {a0 : List Int} {r : (Court)} (h : spec_DrawGoodCourt a0 = some r) {F : List It} {H : Heap} (hS : Own H (F)) {P : AV → Heap → Prop} (hP : ∀ v15 : AV, isSl v15 → ∀ v17 : AV, isSl v17 → ∀ H', Own H' (⟨v15, 4, r.Cases.map e_Case⟩ :: ⟨v17, 3, r.Line.map e_Slip⟩ :: F) → P (.agg [.int .i64 r.Now, v15, v17]) H') : ACall C 193 [.fz (a0.map (AV.int .u8))] H P := by
  refine acall_of gC (res := [.cell 2 68]) (n := 9) rfl rfl rfl rfl fun K0 hK0 => ?_
  simp only [W, Nat.reduceSub, Nat.reduceAdd, List.replicate]
  unfold spec_DrawGoodCourt at h
  refine w_seq fun K1 hK1 => ?_
  refine w_reg gC ?_
  try simp only [W, Nat.reduceAdd]
  refine w_alloc hS rfl rfl fun ip2 wp2 H hS => ?_
  try simp only [W]
  refine seq_n hK1 ?_
  refine w_seq fun K4 hK4 => ?_
  refine w_reg gC ?_
  try simp only [W, EE, Nat.reduceAdd]
  refine w_bld rfl rfl rfl rfl rfl ?_
  try simp only [W]
  refine w_box hS rfl rfl rfl rfl fun ip5 wp5 H hS => ?_
  try simp only [W]
  refine seq_n hK4 ?_
  refine w_seq fun K7 hK7 => ?_
  refine w_reg gC ?_
  try simp only [W, Nat.reduceAdd]
  refine w_call h fun b8 hb8 h => ?_
  obtain ⟨b9, b10⟩ := b8
  try dsimp only at h
  refine spec_l1Cur_court_w hb8 hS fun v11 qv11 v13 qv13 H hS => ?_
  try simp only [W]
  refine w_stv (a := .agg [.int .i64 b9.Now, v11, v13]) (y' := .agg [.int .i64 b9.Now, v11, v13]) 3 hS rfl rfl rfl rfl rfl (by simp only [storA, List.all_cons, List.all_nil, qv11.stor, qv13.stor]; rfl) rfl rfl fun H hS => ?_
  try simp only [W]
  refine seq_n hK7 ?_
  refine w_ret ?_
  refine fin_r hK0 (res_c rfl rfl (hS.var 3 rfl) rfl rfl) ?_
  try obtain rfl := Option.some.inj h
  exact hP _ qv11 _ qv13 _ (hS.sel 4 [0, 1] (by decide))
theorem spec_DrawSettleCourt_w {a0 : List Int} {r : (Court)} (h : spec_DrawSettleCourt a0 = some r) {F : List It} {H : Heap} (hS : Own H (F)) {P : AV → Heap → Prop} (hP : ∀ v10 : AV, isSl v10 → ∀ v12 : AV, isSl v12 → ∀ H', Own H' (⟨v10, 4, r.Cases.map e_Case⟩ :: ⟨v12, 3, r.Line.map e_Slip⟩ :: F) → P (.agg [.int .i64 r.Now, v10, v12]) H') : ACall C 88 [.fz (a0.map (AV.int .u8))] H P := by
  refine acall_of gC (res := [.cell 2 68]) (n := 5) rfl rfl rfl rfl fun K0 hK0 => ?_
  simp only [W, Nat.reduceSub, Nat.reduceAdd, List.replicate]
  unfold spec_DrawSettleCourt at h
  refine w_seq fun K1 hK1 => ?_
  refine w_reg gC ?_
  try simp only [W, Nat.reduceAdd]
  refine w_alloc hS rfl rfl fun ip2 wp2 H hS => ?_
  try simp only [W]
  refine seq_n hK1 ?_
  refine w_seq fun K4 hK4 => ?_
  refine w_reg gC ?_
  try simp only [W, Nat.reduceAdd]
  refine w_call h fun b5 hb5 h => ?_
  refine spec_DrawGoodCourt_w hb5 hS fun v6 qv6 v8 qv8 H hS => ?_
  try simp only [W]
  refine w_stv (a := .agg [.int .i64 b5.Now, v6, v8]) (y' := .agg [.int .i64 b5.Now, v6, v8]) 2 hS rfl rfl rfl rfl rfl (by simp only [storA, List.all_cons, List.all_nil, qv6.stor, qv8.stor]; rfl) rfl rfl fun H hS => ?_
  try simp only [W]
  refine seq_n hK4 ?_
  refine w_ret ?_
  refine fin_r hK0 (res_c rfl rfl (hS.var 2 rfl) rfl rfl) ?_
  try obtain rfl := Option.some.inj h
  exact hP _ qv6 _ qv8 _ (hS.sel 3 [0, 1] (by decide))
theorem slices_IndexFunc_impl_Case_w {a0 : List Case} {g1 : Case → Option Bool} {f1 : FuncId} {c1 : List AV} {r : (Int)} (h : slices_IndexFunc_impl_Case a0 g1 = some r) {F : List It} {H : Heap} (hg1 : ∀ {x0 : Case} {r : Bool}, g1 x0 = some r → ∀ (L : List It) (n : Nat), L.drop n = F → ∀ (H : Heap), Own H L → ∀ (P : AV → Heap → Prop), (∀ H', Own H' L → P (.bool r) H') → ACall C f1 ([.agg [.int .i64 x0.End, .bool x0.Asks, .int .i64 x0.Final, .int .i64 x0.Said]] ++ c1) H P) (hS : Own H (F)) {P : AV → Heap → Prop} (hP : ∀ H', Own H' (F) → P (.int .i64 r) H') : ACall C 233 [.fz (a0.map e_Case), .fn f1 c1] H P := by
  refine acall_of gC (res := [.tmp 4]) (n := 19) rfl rfl rfl rfl fun K0 hK0 => ?_
  simp only [W, Nat.reduceSub, Nat.reduceAdd, List.replicate]
  unfold slices_IndexFunc_impl_Case at h
  refine w_seq fun K1 hK1 => ?_
  refine w_reg gC ?_
  try simp only [W, Nat.reduceAdd]
  refine seq_n hK1 ?_
  refine w_seq fun K2 hK2 => ?_
  refine w_seq fun K3 hK3 => ?_
  refine w_reg gC ?_
  try simp only [W, EE, Nat.reduceAdd]
  refine seq_n hK3 ?_
  obtain ⟨y5, hw6, g12⟩ := Option.bind_eq_some_iff.1 h
  refine w_join gC (fun s H => y5 = LR.next () ∧ s = [u, u, u, u, u, u, u, u, u, u, u, u, u, u, u, u, u, u, u] ∧ Own H (F)) (fun K7 hK7 => ?_) (fun s H hq => ?_)
  · refine w_blk fun K8 hK8 => ?_
    refine w_loop gC hw6 (fun x s H => s = [.fz (a0.map e_Case), .fn f1 c1, u, u, u, u, u, .int .i64 (a0.length : Int), .int .i64 x, u, u, u, u, u, u, u, u, u, u] ∧ Own H (F)) ⟨rfl, hS⟩ (fun x4 y11 s H h hd10 hi K9 hK9 => ?_)
    skip
    try dsimp only at hi
    obtain ⟨rfl, hS⟩ := hi
    simp only [slices_IndexFunc_impl_Case_l0] at h
    refine w_seq fun K13 hK13 => ?_
    refine w_reg gC ?_
    try simp only [W, EE, Nat.reduceAdd]
    refine seq_n hK13 ?_
    refine w_seq fun K14 hK14 => ?_
    refine w_if ?_
    simp only [W]
    refine w_cnd h (fun hc h => ?_) (fun hc h => ?_)
    · refine w_skip ?_
      refine seq_n hK14 ?_
      refine w_seq fun K15 hK15 => ?_
      refine w_blk fun K16 hK16 => ?_
      refine w_seq fun K17 hK17 => ?_
      refine w_reg gC ?_
      try simp only [W, Nat.reduceAdd]
      refine seq_n hK17 ?_
      refine w_seq fun K18 hK18 => ?_
      refine w_reg gC ?_
      try simp only [W, EE, Nat.reduceAdd]
      refine w_fz rfl rfl rfl (fun _ => rfl) h fun b19 hb19 h => ?_
      try simp only [W, EE, EN, reduceIte, Nat.reduceAdd, Nat.reduceLeDiff]
      refine w_call h fun b20 hb20 h => ?_
      refine hg1 hb20 _ 0 rfl _ hS _ fun H hS => ?_
      try simp only [W]
      refine seq_n hK18 ?_
      refine w_if ?_
      simp only [W]
      refine w_cnd h (fun hc h => ?_) (fun hc h => ?_)
      · refine w_seq fun K21 hK21 => ?_
        refine w_reg gC ?_
        try simp only [W, Nat.reduceAdd]
        refine seq_n hK21 ?_
        refine w_ret ?_
        refine blk_r hK16 ?_
        refine seq_r hK15 ?_
        try obtain rfl := Option.some.inj h
        obtain rfl := hd10 _ rfl
        have h : (some (LR.done x4) : Option (LR Unit (Int))) = some (LR.done x4) := rfl
        refine lp_r hK9 ?_
        refine blk_r hK8 ?_
        try obtain rfl := Option.some.inj h
        obtain rfl := Option.some.inj g12
        have h : (some x4 : Option (Int)) = some x4 := rfl
        refine cut_r hK7 ?_
        refine seq_r hK2 ?_
        refine fin_r1 hK0 rfl ?_
        try obtain rfl := Option.some.inj h
        exact hP _ hS
      · refine w_skip ?_
        refine blk_n0 hK16 ?_
        refine seq_n hK15 ?_
        refine w_reg gC ?_
        try simp only [W, EE, Nat.reduceAdd]
        exact lp_n hK9 h ⟨rfl, hS⟩
    · refine w_exit ?_
      refine seq_x hK14 ?_
      try obtain rfl := Option.some.inj h
      obtain rfl := hd10 _ rfl
      have h : (some (LR.next ()) : Option (LR Unit (Int))) = some (LR.next ()) := rfl
      refine lp_x hK9 ?_
      refine blk_e hK8 ?_
      exact cut_n hK7 ⟨(Option.some.inj h).symm, rfl, hS⟩
  · obtain ⟨rfl, rfl, hS⟩ := hq
    replace h := g12
    try dsimp only at h
    refine seq_n hK2 ?_
    refine w_seq fun K28 hK28 => ?_
    refine w_reg gC ?_
    try simp only [W, Nat.reduceAdd]
    refine seq_n hK28 ?_
    refine w_ret ?_
    refine fin_r1 hK0 rfl ?_
    try obtain rfl := Option.some.inj h
    exact hP _ hS
theorem impl_Court_unsettled_1_w {a0 : Case} {r : (Bool)} (h : impl_Court_unsettled_1 a0 = some r) {F : List It} {H : Heap} (hS : Own H (F)) {P : AV → Heap → Prop} (hP : ∀ H', Own H' (F) → P (.bool r) H') : ACall C 234 [.agg [.int .i64 a0.End, .bool a0.Asks, .int .i64 a0.Final, .int .i64 a0.Said]] H P := by
  refine acall_of gC (res := [.tmp 2]) (n := 6) rfl rfl rfl rfl fun K0 hK0 => ?_
  simp only [W, Nat.reduceSub, Nat.reduceAdd, List.replicate]
  unfold impl_Court_unsettled_1 at h
  refine w_seq fun K1 hK1 => ?_
  refine w_reg gC ?_
  try simp only [W, Nat.reduceAdd]
  refine w_box hS rfl rfl rfl rfl fun ip2 wp2 H hS => ?_
  try simp only [W]
  refine seq_n hK1 ?_
  refine w_seq fun K4 hK4 => ?_
  refine w_reg gC ?_
  try simp only [W, EE, Nat.reduceAdd, Nat.reduceBEq, hS.var 0 rfl]
  refine seq_n hK4 ?_
  refine w_ret ?_
  refine fin_r1 hK0 rfl ?_
  try obtain rfl := Option.some.inj h
  exact hP _ (hS.sel 1 [] (by decide))
theorem impl_Court_unsettled_w {a0 : Court} {i0 : Nat} {w0 : Nat} {r : (Int)} (h : impl_Court_unsettled a0 = some r) {F : List It} {H : Heap} (hm0 : ⟨.ptr i0 w0 0 0, 3, [.agg [.int .i64 a0.Now, .fz (a0.Cases.map e_Case), .fz (a0.Line.map e_Slip)]]⟩ ∈ F) (hS : Own H (F)) {P : AV → Heap → Prop} (hP : ∀ H', Own H' (F) → P (.int .i64 r) H') : ACall C 150 [.ptr i0 w0 0 0] H P := by
  refine acall_of gC (res := [.tmp 2]) (n := 8) rfl rfl rfl rfl fun K0 hK0 => ?_
  simp only [W, Nat.reduceSub, Nat.reduceAdd, List.replicate]
  unfold impl_Court_unsettled at h
  refine w_seq fun K1 hK1 => ?_
  refine w_reg gC ?_
  try simp only [W, Nat.reduceAdd]
  refine seq_n hK1 ?_
  refine w_seq fun K2 hK2 => ?_
  refine w_reg gC ?_
  try simp only [W, EE, Nat.reduceAdd, Nat.reduceBEq, hS.varm hm0]
  refine w_call h fun b3 hb3 h => ?_
  refine slices_IndexFunc_impl_Case_w hb3 (fun h _ n hL _ hS _ hP => impl_Court_unsettled_1_w h hS hP) hS fun H hS => ?_
  try simp only [W]
  refine seq_n hK2 ?_
  refine w_ret ?_
  refine fin_r1 hK0 rfl ?_
  try obtain rfl := Option.some.inj h
  exact hP _ hS
theorem impl_Court_unsettled_wq {a0 : Court} {r : (Int)} (h : impl_Court_unsettled a0 = some r) {F : List It} {H : Heap} (hS : Own H (F)) {P : AV → Heap → Prop} (hP : ∀ H', Own H' (F) → P (.int .i64 r) H') : ACall C 150 [.fe (.agg [.int .i64 a0.Now, .fz (a0.Cases.map e_Case), .fz (a0.Line.map e_Slip)]) 0] H P := by
  refine acall_of gC (res := [.tmp 2]) (n := 8) rfl rfl rfl rfl fun K0 hK0 => ?_
  simp only [W, Nat.reduceSub, Nat.reduceAdd, List.replicate]
  unfold impl_Court_unsettled at h
  refine w_seq fun K1 hK1 => ?_
  refine w_reg gC ?_
  try simp only [W, Nat.reduceAdd]
  refine seq_n hK1 ?_
  refine w_seq fun K2 hK2 => ?_
  refine w_reg gC ?_
  try simp only [W, EE, Nat.reduceAdd, Nat.reduceBEq]
  refine w_call h fun b3 hb3 h => ?_
  refine slices_IndexFunc_impl_Case_w hb3 (fun h _ n hL _ hS _ hP => impl_Court_unsettled_1_w h hS hP) hS fun H hS => ?_
  try simp only [W]
  refine seq_n hK2 ?_
  refine w_ret ?_
  refine fin_r1 hK0 rfl ?_
  try obtain rfl := Option.some.inj h
  exact hP _ hS
theorem impl_SettleCourt_w {a0 : Court} {r : (Court × Int × Bool)} (h : impl_SettleCourt a0 = some r) {F : List It} {H : Heap} (hS : Own H (F)) {P : AV → Heap → Prop} (hP : ∀ v71 : AV, isSl v71 → ∀ v73 : AV, isSl v73 → ∀ H', Own H' (⟨v71, 4, r.1.Cases.map e_Case⟩ :: ⟨v73, 3, r.1.Line.map e_Slip⟩ :: F) → P (.tup [.agg [.int .i64 r.1.Now, v71, v73], .int .i64 r.2.1, .bool r.2.2]) H') : ACall C 54 [.agg [.int .i64 a0.Now, .fz (a0.Cases.map e_Case), .fz (a0.Line.map e_Slip)]] H P := by
  refine acall_of gC (res := [.cell 2 68, .tmp 3, .tmp 4]) (n := 30) rfl rfl rfl rfl fun K0 hK0 => ?_
  simp only [W, Nat.reduceSub, Nat.reduceAdd, List.replicate]
  unfold impl_SettleCourt at h
  refine w_seq fun K1 hK1 => ?_
  refine w_reg gC ?_
  try simp only [W, Nat.reduceAdd]
  refine w_box hS rfl rfl rfl rfl fun ip2 wp2 H hS => ?_
  try simp only [W]
  refine w_alloc hS rfl rfl fun ip4 wp4 H hS => ?_
  try simp only [W]
  refine seq_n hK1 ?_
  refine w_seq fun K6 hK6 => ?_
  refine w_seq fun K7 hK7 => ?_
  refine w_reg gC ?_
  try simp only [W, EE, reduceIte, Nat.reduceAdd, Nat.reduceLeDiff, hS.var 1 rfl]
  refine w_call h fun b8 hb8 h => ?_
  refine impl_GoodCourt_w hb8 hS fun H hS => ?_
  try simp only [W]
  refine seq_n hK7 ?_
  refine w_if ?_
  simp only [W]
  refine w_cnd h (fun hc h => ?_) (fun hc h => ?_)
  · refine w_seq fun K9 hK9 => ?_
    refine w_reg gC ?_
    try simp only [W, EE, Nat.reduceAdd]
    refine w_bld rfl rfl rfl rfl rfl ?_
    try simp only [W]
    refine w_stv (a := .agg [.int .i64 0, .nil, .nil]) (y' := .agg [.int .i64 0, .nil, .nil]) 0 hS rfl rfl rfl rfl rfl rfl rfl rfl fun H hS => ?_
    try simp only [W]
    refine seq_n hK9 ?_
    refine w_ret ?_
    refine seq_r hK6 ?_
    refine fin_r hK0 (res_c rfl rfl (hS.var 0 rfl) rfl (res_tc rfl (res_tc rfl rfl))) ?_
    try obtain rfl := Option.some.inj h
    exact hP _ isSl_nil _ isSl_nil _ (((hS.nil_ 3).nil_ 4).sel 4 [0, 1] (by decide))
  · refine w_skip ?_
    refine seq_n hK6 ?_
    refine w_seq fun K10 hK10 => ?_
    refine w_reg gC ?_
    try simp only [W, EE, reduceIte, Nat.reduceAdd, Nat.reduceLeDiff, hS.var 1 rfl]
    refine w_call h fun b11 hb11 h => ?_
    refine impl_Court_copied_w hb11 hS fun v12 qv12 v14 qv14 H hS => ?_
    try simp only [W]
    refine w_alloc hS rfl rfl fun ip16 wp16 H hS => ?_
    try simp only [W]
    refine w_stv (a := .agg [.int .i64 b11.Now, v12, v14]) (y' := .agg [.int .i64 b11.Now, v12, v14]) 0 hS rfl rfl rfl rfl rfl (by simp only [storA, List.all_cons, List.all_nil, qv12.stor, qv14.stor]; rfl) rfl rfl fun H hS => ?_
    try simp only [W]
    refine seq_n hK10 ?_
    refine w_seq fun K18 hK18 => ?_
    refine w_seq fun K19 hK19 => ?_
    refine w_reg gC ?_
    try simp only [W, Nat.reduceAdd]
    refine w_callS (rsh := [[.sc]]) (ys := [.fe (.agg [.int .i64 b11.Now, .fz (b11.Cases.map e_Case), .fz (b11.Line.map e_Slip)]) 0]) h rfl (pv_c (sn_pt hS 0 rfl (sn_agg (sm_c rfl (sm_c (sn_ow hS 1 rfl qv12 (fun _ => rfl)) (sm_c (sn_ow hS 2 rfl qv14 (fun _ => rfl)) (sm_n _)))))) pv_n) fun b20 hb20 h => ⟨.int .i64 b20, impl_Court_unsettled_wq hb20 (Own.nil _) fun H hS => TV_ok rfl (TV_p rfl (TV_n rfl)), ⟨rfl, rfl, fun _ => rfl⟩, ?_⟩
    try simp only [W]
    refine seq_n hK19 ?_
    obtain ⟨y35, hw36, g42⟩ := Option.bind_eq_some_iff.1 h
    refine w_join gC (fun s H => ∃ x29 : Int, ∃ x30 : Int, ∃ x31 : List Case, ∃ x33 : List Slip, y35 = (x29, x30, x31, x33) ∧ ∃ v32 : AV, isSl v32 ∧ ∃ v34 : AV, isSl v34 ∧ s = [u, u, .ptr ip4 wp4 0 0, u, u, .ptr ip16 wp16 0 0, .int .i64 x29, u, u, u, u, u, u, u, u, u, u, u, u, u, u, u, u, u, u, u, u, u, u, u] ∧ Own H (⟨v32, 4, x31.map e_Case⟩ :: ⟨v34, 3, x33.map e_Slip⟩ :: ⟨.ptr ip4 wp4 0 0, 3, [.agg [.int .i64 0, .nil, .nil]]⟩ :: ⟨.ptr ip16 wp16 0 0, 3, [.agg [.int .i64 x30, v32, v34]]⟩ :: F)) (fun K37 hK37 => ?_) (fun s H hq => ?_)
    · refine w_blk fun K38 hK38 => ?_
      refine w_loop gC hw36 (fun x s H => match x with | (x21, x22, x23, x24, x26) => ∃ v25 : AV, isSl v25 ∧ ∃ v27 : AV, isSl v27 ∧ s = [u, u, .ptr ip4 wp4 0 0, u, u, .ptr ip16 wp16 0 0, .int .i64 x21, .int .i64 x22, u, u, u, u, u, u, u, u, u, u, u, u, u, u, u, u, u, u, u, u, u, u] ∧ Own H (⟨v25, 4, x24.map e_Case⟩ :: ⟨v27, 3, x26.map e_Slip⟩ :: ⟨.ptr ip4 wp4 0 0, 3, [.agg [.int .i64 0, .nil, .nil]]⟩ :: ⟨.ptr ip16 wp16 0 0, 3, [.agg [.int .i64 x23, v25, v27]]⟩ :: F)) ⟨_, qv12, _, qv14, rfl, (hS.sel 5 [1, 2, 3, 0] (by decide))⟩ (fun x y41 s H h hd40 hi K39 hK39 => ?_)
      obtain ⟨x21, x22, x23, x24, x26⟩ := x
      try dsimp only at hi
      obtain ⟨v25, qv25, v27, qv27, rfl, hS⟩ := hi
      simp only [impl_SettleCourt_l0] at h
      refine w_seq fun K43 hK43 => ?_
      refine w_seq fun K44 hK44 => ?_
      refine w_reg gC ?_
      try simp only [W, EE, Nat.reduceAdd]
      refine seq_n hK44 ?_
      refine w_if ?_
      simp only [W]
      refine w_cnd h (fun hc h => ?_) (fun hc h => ?_)
      · refine w_skip ?_
        refine seq_n hK43 ?_
        refine w_seq fun K45 hK45 => ?_
        refine w_blk fun K46 hK46 => ?_
        refine w_seq fun K47 hK47 => ?_
        refine w_reg gC ?_
        try simp only [W, EE, Nat.reduceAdd, Nat.reduceBEq, hS.var 3 rfl]
        refine w_stv (a := .nil) (y' := .agg [.int .i64 x23, v25, .nil]) 3 hS rfl rfl rfl rfl rfl rfl rfl rfl fun H hS => ?_
        try simp only [W]
        refine seq_n hK47 ?_
        refine w_seq fun K48 hK48 => ?_
        refine w_reg gC ?_
        try simp only [W, EE, Nat.reduceAdd]
        refine w_bld rfl rfl rfl rfl rfl ?_
        try simp only [W]
        have hS := hS.nil_ 3
        refine w_call h fun b50 hb50 h => ?_
        obtain ⟨b51, b52⟩ := b50
        try dsimp only at h
        refine impl_Court_step_w hb50 (hS.sel 5 [4, 1, 0, 2, 3] (by decide)) qv25 isSl_nil fun v53 qv53 v54 qv54 H hS => ?_
        try simp only [W]
        refine seq_n hK48 ?_
        refine w_seq fun K55 hK55 => ?_
        refine w_reg gC ?_
        try simp only [W, EE, Nat.reduceAdd]
        refine w_bld rfl rfl rfl rfl rfl ?_
        try simp only [W]
        refine w_call h fun b56 hb56 h => ?_
        obtain ⟨b57, b58⟩ := b56
        try dsimp only at h
        refine impl_Court_step_w hb56 hS qv53 qv54 fun v59 qv59 v60 qv60 H hS => ?_
        try simp only [W]
        refine seq_n hK55 ?_
        refine w_seq fun K61 hK61 => ?_
        refine w_reg gC ?_
        try simp only [W, EE, Nat.reduceAdd]
        refine w_bld rfl rfl rfl rfl rfl ?_
        try simp only [W]
        refine w_call h fun b62 hb62 h => ?_
        obtain ⟨b63, b64⟩ := b62
        try dsimp only at h
        refine impl_Court_step_w hb62 hS qv59 qv60 fun v65 qv65 v66 qv66 H hS => ?_
        try simp only [W]
        refine seq_n hK61 ?_
        refine w_reg gC ?_
        try simp only [W, EE, Nat.reduceAdd]
        refine blk_n0 hK46 ?_
        refine seq_n hK45 ?_
        refine w_reg gC ?_
        try simp only [W, Nat.reduceAdd]
        refine w_callS (rsh := [[.sc]]) (ys := [.fe (.agg [.int .i64 b64.Now, .fz (b64.Cases.map e_Case), .fz (b64.Line.map e_Slip)]) 0]) h rfl (pv_c (sn_pt hS 0 rfl (sn_agg (sm_c rfl (sm_c (sn_ow hS 1 rfl qv65 (fun _ => rfl)) (sm_c (sn_ow hS 2 rfl qv66 (fun _ => rfl)) (sm_n _)))))) pv_n) fun b67 hb67 h => ⟨.int .i64 b67, impl_Court_unsettled_wq hb67 (Own.nil _) fun H hS => TV_ok rfl (TV_p rfl (TV_n rfl)), ⟨rfl, rfl, fun _ => rfl⟩, ?_⟩
        try simp only [W]
        exact lp_n hK39 h ⟨_, qv65, _, qv66, rfl, (hS.sel 5 [1, 2, 4, 0] (by decide))⟩
      · refine w_exit ?_
        refine seq_x hK43 ?_
        try obtain rfl := Option.some.inj h
        obtain rfl := hd40 _ rfl
        have h : (some (x21, x23, x24, x26) : Option (Int × Int × (List Case) × (List Slip))) = some (x21, x23, x24, x26) := rfl
        refine lp_x hK39 ?_
        refine blk_e hK38 ?_
        exact cut_n hK37 ⟨_, _, _, _, (Option.some.inj h).symm, _, qv25, _, qv27, rfl, hS⟩
    · obtain ⟨x29, x30, x31, x33, rfl, v32, qv32, v34, qv34, rfl, hS⟩ := hq
      replace h := g42
      try dsimp only at h
      refine seq_n hK18 ?_
      refine w_seq fun K70 hK70 => ?_
      refine w_reg gC ?_
      try simp only [W, EE, reduceIte, Nat.reduceAdd, Nat.reduceLeDiff, hS.var 3 rfl]
      refine w_stv (a := .agg [.int .i64 x30, v32, v34]) (y' := .agg [.int .i64 x30, v32, v34]) 2 hS rfl rfl rfl rfl rfl (by simp only [storA, List.all_cons, List.all_nil, qv32.stor, qv34.stor]; rfl) rfl rfl fun H hS => ?_
      try simp only [W]
      refine seq_n hK70 ?_
      refine w_ret ?_
      refine fin_r hK0 (res_c rfl rfl (hS.var 2 rfl) rfl (res_tc rfl (res_tc rfl rfl))) ?_
      try obtain rfl := Option.some.inj h
      exact hP _ qv32 _ qv34 _ (hS.sel 4 [0, 1] (by decide))
theorem spec_l16Open_w {a0 : Court} {r : (Int)} (h : spec_l16Open a0 = some r) {F : List It} {H : Heap} (hS : Own H (F)) {P : AV → Heap → Prop} (hP : ∀ H', Own H' (F) → P (.int .i64 r) H') : ACall C 194 [.agg [.int .i64 a0.Now, .fz (a0.Cases.map e_Case), .fz (a0.Line.map e_Slip)]] H P := by
  refine acall_of gC (res := [.tmp 2]) (n := 18) rfl rfl rfl rfl fun K0 hK0 => ?_
  simp only [W, Nat.reduceSub, Nat.reduceAdd, List.replicate]
  unfold spec_l16Open at h
  refine w_seq fun K1 hK1 => ?_
  refine w_reg gC ?_
  try simp only [W, Nat.reduceAdd]
  refine w_box hS rfl rfl rfl rfl fun ip2 wp2 H hS => ?_
  try simp only [W]
  refine seq_n hK1 ?_
  refine w_seq fun K4 hK4 => ?_
  refine w_seq fun K5 hK5 => ?_
  refine w_reg gC ?_
  try simp only [W, EE, Nat.reduceAdd, Nat.reduceBEq, hS.var 0 rfl]
  refine seq_n hK5 ?_
  obtain ⟨y7, hw8, g14⟩ := Option.bind_eq_some_iff.1 h
  refine w_join gC (fun s H => y7 = LR.next () ∧ s = [u, u, u, u, u, u, u, u, u, u, u, u, u, u, u, u, u, u] ∧ Own H (F)) (fun K9 hK9 => ?_) (fun s H hq => ?_)
  · refine w_blk fun K10 hK10 => ?_
    refine w_loop gC hw8 (fun x s H => s = [u, u, u, u, u, u, .fz (a0.Cases.map e_Case), .int .i64 (a0.Cases.length : Int), .int .i64 x, u, u, u, u, u, u, u, u, u] ∧ Own H (F)) ⟨rfl, (hS.sel 1 [] (by decide))⟩ (fun x6 y13 s H h hd12 hi K11 hK11 => ?_)
    skip
    try dsimp only at hi
    obtain ⟨rfl, hS⟩ := hi
    simp only [spec_l16Open_l0] at h
    refine w_seq fun K15 hK15 => ?_
    refine w_reg gC ?_
    try simp only [W, EE, Nat.reduceAdd]
    refine seq_n hK15 ?_
    refine w_seq fun K16 hK16 => ?_
    refine w_if ?_
    simp only [W]
    refine w_cnd h (fun hc h => ?_) (fun hc h => ?_)
    · refine w_skip ?_
      refine seq_n hK16 ?_
      refine w_seq fun K17 hK17 => ?_
      refine w_blk fun K18 hK18 => ?_
      refine w_seq fun K19 hK19 => ?_
      refine w_reg gC ?_
      try simp only [W, EE, Nat.reduceAdd]
      refine w_fz rfl rfl rfl (fun _ => rfl) h fun b20 hb20 h => ?_
      try simp only [W, EE, EN, reduceIte, Nat.reduceAdd, Nat.reduceLeDiff]
      refine w_alloc hS rfl rfl fun ip21 wp21 H hS => ?_
      try simp only [W]
      refine w_stv (a := .agg [.int .i64 b20.End, .bool b20.Asks, .int .i64 b20.Final, .int .i64 b20.Said]) (y' := .agg [.int .i64 b20.End, .bool b20.Asks, .int .i64 b20.Final, .int .i64 b20.Said]) 0 hS rfl rfl rfl rfl rfl rfl rfl rfl fun H hS => ?_
      try simp only [W]
      refine seq_n hK19 ?_
      refine w_seq fun K23 hK23 => ?_
      refine w_reg gC ?_
      try simp only [W, EE, Nat.reduceAdd, Nat.reduceBEq, hS.var 0 rfl]
      refine seq_n hK23 ?_
      refine w_if ?_
      simp only [W]
      refine w_cnd h (fun hc h => ?_) (fun hc h => ?_)
      · refine w_seq fun K24 hK24 => ?_
        refine w_reg gC ?_
        try simp only [W, Nat.reduceAdd]
        refine seq_n hK24 ?_
        refine w_ret ?_
        refine blk_r hK18 ?_
        refine seq_r hK17 ?_
        try obtain rfl := Option.some.inj h
        obtain rfl := hd12 _ rfl
        have h : (some (LR.done x6) : Option (LR Unit (Int))) = some (LR.done x6) := rfl
        refine lp_r hK11 ?_
        refine blk_r hK10 ?_
        try obtain rfl := Option.some.inj h
        obtain rfl := Option.some.inj g14
        have h : (some x6 : Option (Int)) = some x6 := rfl
        refine cut_r hK9 ?_
        refine seq_r hK4 ?_
        refine fin_r1 hK0 rfl ?_
        try obtain rfl := Option.some.inj h
        exact hP _ (hS.sel 1 [] (by decide))
      · refine w_skip ?_
        refine blk_n0 hK18 ?_
        refine seq_n hK17 ?_
        refine w_reg gC ?_
        try simp only [W, EE, Nat.reduceAdd]
        exact lp_n hK11 h ⟨rfl, (hS.sel 1 [] (by decide))⟩
    · refine w_exit ?_
      refine seq_x hK16 ?_
      try obtain rfl := Option.some.inj h
      obtain rfl := hd12 _ rfl
      have h : (some (LR.next ()) : Option (LR Unit (Int))) = some (LR.next ()) := rfl
      refine lp_x hK11 ?_
      refine blk_e hK10 ?_
      exact cut_n hK9 ⟨(Option.some.inj h).symm, rfl, hS⟩
  · obtain ⟨rfl, rfl, hS⟩ := hq
    replace h := g14
    try dsimp only at h
    refine seq_n hK4 ?_
    refine w_seq fun K31 hK31 => ?_
    refine w_reg gC ?_
    try simp only [W, Nat.reduceAdd]
    refine seq_n hK31 ?_
    refine w_ret ?_
    refine fin_r1 hK0 rfl ?_
    try obtain rfl := Option.some.inj h
    exact hP _ hS
theorem spec_SettleCourt_w {a0 : Court} {r : (Court × Int × Bool)} (h : spec_SettleCourt a0 = some r) {F : List It} {H : Heap} (hS : Own H (F)) {P : AV → Heap → Prop} (hP : ∀ v86 : AV, isSl v86 → ∀ v88 : AV, isSl v88 → ∀ H', Own H' (⟨v86, 4, r.1.Cases.map e_Case⟩ :: ⟨v88, 3, r.1.Line.map e_Slip⟩ :: F) → P (.tup [.agg [.int .i64 r.1.Now, v86, v88], .int .i64 r.2.1, .bool r.2.2]) H') : ACall C 89 [.agg [.int .i64 a0.Now, .fz (a0.Cases.map e_Case), .fz (a0.Line.map e_Slip)]] H P := by
  refine acall_of gC (res := [.cell 2 68, .tmp 3, .tmp 4]) (n := 45) rfl rfl rfl rfl fun K0 hK0 => ?_
  simp only [W, Nat.reduceSub, Nat.reduceAdd, List.replicate]
  unfold spec_SettleCourt at h
  refine w_seq fun K1 hK1 => ?_
  refine w_reg gC ?_
  try simp only [W, Nat.reduceAdd]
  refine w_box hS rfl rfl rfl rfl fun ip2 wp2 H hS => ?_
  try simp only [W]
  refine w_alloc hS rfl rfl fun ip4 wp4 H hS => ?_
  try simp only [W]
  refine seq_n hK1 ?_
  refine w_seq fun K6 hK6 => ?_
  refine w_seq fun K7 hK7 => ?_
  refine w_reg gC ?_
  try simp only [W, EE, reduceIte, Nat.reduceAdd, Nat.reduceLeDiff, hS.var 1 rfl]
  refine w_call h fun b8 hb8 h => ?_
  refine spec_GoodCourt_w hb8 hS fun H hS => ?_
  try simp only [W]
  refine seq_n hK7 ?_
  refine w_if ?_
  simp only [W]
  refine w_cnd h (fun hc h => ?_) (fun hc h => ?_)
  · refine w_seq fun K9 hK9 => ?_
    refine w_reg gC ?_
    try simp only [W, EE, Nat.reduceAdd]
    refine w_bld rfl rfl rfl rfl rfl ?_
    try simp only [W]
    refine w_stv (a := .agg [.int .i64 0, .nil, .nil]) (y' := .agg [.int .i64 0, .nil, .nil]) 0 hS rfl rfl rfl rfl rfl rfl rfl rfl fun H hS => ?_
    try simp only [W]
    refine seq_n hK9 ?_
    refine w_ret ?_
    refine seq_r hK6 ?_
    refine fin_r hK0 (res_c rfl rfl (hS.var 0 rfl) rfl (res_tc rfl (res_tc rfl rfl))) ?_
    try obtain rfl := Option.some.inj h
    exact hP _ isSl_nil _ isSl_nil _ (((hS.nil_ 3).nil_ 4).sel 4 [0, 1] (by decide))
  · refine w_skip ?_
    refine seq_n hK6 ?_
    refine w_seq fun K10 hK10 => ?_
    refine w_reg gC ?_
    try simp only [W, EE, reduceIte, Nat.reduceAdd, Nat.reduceLeDiff, hS.var 1 rfl]
    refine w_call h fun b11 hb11 h => ?_
    refine spec_l16Own_w hb11 hS fun v12 qv12 v14 qv14 H hS => ?_
    try simp only [W]
    refine w_alloc hS rfl rfl fun ip16 wp16 H hS => ?_
    try simp only [W]
    refine w_stv (a := .agg [.int .i64 b11.Now, v12, v14]) (y' := .agg [.int .i64 b11.Now, v12, v14]) 0 hS rfl rfl rfl rfl rfl (by simp only [storA, List.all_cons, List.all_nil, qv12.stor, qv14.stor]; rfl) rfl rfl fun H hS => ?_
    try simp only [W]
    refine seq_n hK10 ?_
    refine w_seq fun K18 hK18 => ?_
    refine w_reg gC ?_
    try simp only [W, Nat.reduceAdd]
    refine seq_n hK18 ?_
    refine w_seq fun K19 hK19 => ?_
    refine w_seq fun K20 hK20 => ?_
    refine w_reg gC ?_
    try simp only [W, EE, reduceIte, Nat.reduceAdd, Nat.reduceLeDiff, hS.var 0 rfl]
    refine w_callS (rsh := [[.sc]]) (ys := [.agg [.int .i64 b11.Now, .fz (b11.Cases.map e_Case), .fz (b11.Line.map e_Slip)]]) h rfl (pv_c (sn_agg (sm_c rfl (sm_c (sn_ow hS 1 rfl qv12 (fun _ => rfl)) (sm_c (sn_ow hS 2 rfl qv14 (fun _ => rfl)) (sm_n _))))) pv_n) fun b21 hb21 h => ⟨.int .i64 b21, spec_l16Open_w hb21 (Own.nil _) fun H hS => TV_ok rfl (TV_p rfl (TV_n rfl)), ⟨rfl, rfl, fun _ => rfl⟩, ?_⟩
    try simp only [W]
    refine seq_n hK20 ?_
    obtain ⟨y37, hw38, g44⟩ := Option.bind_eq_some_iff.1 h
    refine w_join gC (fun s H => ∃ x31 : Int, ∃ x32 : Int, ∃ x33 : List Case, ∃ x35 : List Slip, y37 = (x31, x32, x33, x35) ∧ ∃ v34 : AV, isSl v34 ∧ ∃ v36 : AV, isSl v36 ∧ s = [u, u, .ptr ip4 wp4 0 0, u, u, .ptr ip16 wp16 0 0, .int .i64 x31, u, u, u, u, u, u, u, u, u, u, u, u, u, u, u, u, u, u, u, u, u, u, u, u, u, u, u, u, u, u, u, u, u, u, u, u, u, u] ∧ Own H (⟨v34, 4, x33.map e_Case⟩ :: ⟨v36, 3, x35.map e_Slip⟩ :: ⟨.ptr ip4 wp4 0 0, 3, [.agg [.int .i64 0, .nil, .nil]]⟩ :: ⟨.ptr ip16 wp16 0 0, 3, [.agg [.int .i64 x32, v34, v36]]⟩ :: F)) (fun K39 hK39 => ?_) (fun s H hq => ?_)
    · refine w_blk fun K40 hK40 => ?_
      refine w_loop gC hw38 (fun x s H => match x with | (x22, x23, x24, x25, x28) => ∃ v26 : AV, isSl v26 ∧ ∃ v29 : AV, isSl v29 ∧ s = [u, u, .ptr ip4 wp4 0 0, u, u, .ptr ip16 wp16 0 0, .int .i64 x22, .int .i64 x23, u, u, u, u, u, u, u, u, u, u, u, u, u, u, u, u, u, u, u, u, u, u, u, u, u, u, u, u, u, u, u, u, u, u, u, u, u] ∧ Own H (⟨v26, 4, x25.map e_Case⟩ :: ⟨v29, 3, x28.map e_Slip⟩ :: ⟨.ptr ip4 wp4 0 0, 3, [.agg [.int .i64 0, .nil, .nil]]⟩ :: ⟨.ptr ip16 wp16 0 0, 3, [.agg [.int .i64 x24, v26, v29]]⟩ :: F)) ⟨_, qv12, _, qv14, rfl, (hS.sel 5 [1, 2, 3, 0] (by decide))⟩ (fun x y43 s H h hd42 hi K41 hK41 => ?_)
      obtain ⟨x22, x23, x24, x25, x28⟩ := x
      try dsimp only at hi
      obtain ⟨v26, qv26, v29, qv29, rfl, hS⟩ := hi
      simp only [spec_SettleCourt_l0] at h
      refine w_seq fun K45 hK45 => ?_
      refine w_seq fun K46 hK46 => ?_
      refine w_reg gC ?_
      try simp only [W, EE, Nat.reduceAdd]
      refine seq_n hK46 ?_
      refine w_if ?_
      simp only [W]
      refine w_cnd h (fun hc h => ?_) (fun hc h => ?_)
      · refine w_skip ?_
        refine seq_n hK45 ?_
        refine w_seq fun K47 hK47 => ?_
        refine w_blk fun K48 hK48 => ?_
        refine w_seq fun K49 hK49 => ?_
        refine w_reg gC ?_
        try simp only [W, EE, Nat.reduceAdd, Nat.reduceBEq, hS.var 3 rfl]
        refine w_stv (a := .nil) (y' := .agg [.int .i64 x24, v26, .nil]) 3 hS rfl rfl rfl rfl rfl rfl rfl rfl fun H hS => ?_
        try simp only [W]
        refine seq_n hK49 ?_
        refine w_seq fun K50 hK50 => ?_
        refine w_reg gC ?_
        try simp only [W, EE, reduceIte, Nat.reduceAdd, Nat.reduceLeDiff, hS.var 3 rfl]
        refine w_bld rfl rfl rfl rfl rfl ?_
        try simp only [W]
        have hS := hS.nil_ 3
        refine w_call h fun b52 hb52 h => ?_
        obtain ⟨b53, b54⟩ := b52
        try dsimp only at h
        refine spec_l16Step_w hb52 (hS.sel 5 [1, 0, 2, 3, 4] (by decide)) qv26 isSl_nil fun v55 qv55 v57 qv57 H hS => ?_
        try simp only [W]
        refine w_stv (a := .agg [.int .i64 b53.Now, v55, v57]) (y' := .agg [.int .i64 b53.Now, v55, v57]) 4 hS rfl rfl rfl rfl rfl (by simp only [storA, List.all_cons, List.all_nil, qv55.stor, qv57.stor]; rfl) rfl rfl fun H hS => ?_
        try simp only [W]
        refine seq_n hK50 ?_
        refine w_seq fun K59 hK59 => ?_
        refine w_reg gC ?_
        try simp only [W, EE, reduceIte, Nat.reduceAdd, Nat.reduceLeDiff, hS.var 4 rfl]
        refine w_bld rfl rfl rfl rfl rfl ?_
        try simp only [W]
        refine w_call h fun b60 hb60 h => ?_
        obtain ⟨b61, b62⟩ := b60
        try dsimp only at h
        refine spec_l16Step_w hb60 hS qv55 qv57 fun v63 qv63 v65 qv65 H hS => ?_
        try simp only [W]
        refine w_stv (a := .agg [.int .i64 b61.Now, v63, v65]) (y' := .agg [.int .i64 b61.Now, v63, v65]) 4 hS rfl rfl rfl rfl rfl (by simp only [storA, List.all_cons, List.all_nil, qv63.stor, qv65.stor]; rfl) rfl rfl fun H hS => ?_
        try simp only [W]
        refine seq_n hK59 ?_
        refine w_seq fun K67 hK67 => ?_
        refine w_reg gC ?_
        try simp only [W, EE, reduceIte, Nat.reduceAdd, Nat.reduceLeDiff, hS.var 4 rfl]
        refine w_bld rfl rfl rfl rfl rfl ?_
        try simp only [W]
        refine w_call h fun b68 hb68 h => ?_
        obtain ⟨b69, b70⟩ := b68
        try dsimp only at h
        refine spec_l16Step_w hb68 hS qv63 qv65 fun v71 qv71 v73 qv73 H hS => ?_
        try simp only [W]
        refine w_stv (a := .agg [.int .i64 b69.Now, v71, v73]) (y' := .agg [.int .i64 b69.Now, v71, v73]) 4 hS rfl rfl rfl rfl rfl (by simp only [storA, List.all_cons, List.all_nil, qv71.stor, qv73.stor]; rfl) rfl rfl fun H hS => ?_
        try simp only [W]
        refine seq_n hK67 ?_
        refine w_reg gC ?_
        try simp only [W, EE, Nat.reduceAdd]
        refine blk_n0 hK48 ?_
        refine seq_n hK47 ?_
        refine w_reg gC ?_
        try simp only [W, EE, reduceIte, Nat.reduceAdd, Nat.reduceLeDiff, hS.var 4 rfl]
        refine w_callS (rsh := [[.sc]]) (ys := [.agg [.int .i64 b69.Now, .fz (b69.Cases.map e_Case), .fz (b69.Line.map e_Slip)]]) h rfl (pv_c (sn_agg (sm_c rfl (sm_c (sn_ow hS 0 rfl qv71 (fun _ => rfl)) (sm_c (sn_ow hS 1 rfl qv73 (fun _ => rfl)) (sm_n _))))) pv_n) fun b75 hb75 h => ⟨.int .i64 b75, spec_l16Open_w hb75 (Own.nil _) fun H hS => TV_ok rfl (TV_p rfl (TV_n rfl)), ⟨rfl, rfl, fun _ => rfl⟩, ?_⟩
        try simp only [W]
        exact lp_n hK41 h ⟨_, qv71, _, qv73, rfl, (hS.sel 5 [0, 1, 3, 4] (by decide))⟩
      · refine w_exit ?_
        refine seq_x hK45 ?_
        try obtain rfl := Option.some.inj h
        obtain rfl := hd42 _ rfl
        have h : (some (x22, x24, x25, x28) : Option (Int × Int × (List Case) × (List Slip))) = some (x22, x24, x25, x28) := rfl
        refine lp_x hK41 ?_
        refine blk_e hK40 ?_
        exact cut_n hK39 ⟨_, _, _, _, (Option.some.inj h).symm, _, qv26, _, qv29, rfl, hS⟩
    · obtain ⟨x31, x32, x33, x35, rfl, v34, qv34, v36, qv36, rfl, hS⟩ := hq
      replace h := g44
      try dsimp only at h
      refine seq_n hK19 ?_
      refine w_seq fun K78 hK78 => ?_
      refine w_reg gC ?_
      try simp only [W, EE, reduceIte, Nat.reduceAdd, Nat.reduceLeDiff, Nat.reduceBEq, hS.var 3 rfl, List.contains_cons, Nat.reduceBEq, Bool.or_self]
      refine w_callO (rsh := [[.sc, .sl [.sc, .sc, .sc, .sc], .sl [.sc, .sc, .sc]]]) (ys := [.agg [.int .i64 x32, .fz (x33.map e_Case), .fz (x35.map e_Slip)]]) h rfl (pv_c (sn_agg (sm_c rfl (sm_c (sn_ow hS 0 rfl qv34 (fun _ => rfl)) (sm_c (sn_ow hS 1 rfl qv36 (fun _ => rfl)) (sm_n _))))) pv_n) fun b79 hb79 h => ⟨.agg [.int .i64 b79.Now, .own 4 (b79.Cases.map e_Case), .own 3 (b79.Line.map e_Slip)], spec_l16Own_w hb79 (Own.nil _) fun v80 qv80 v81 qv81 H hS => TV_ok rfl (TV_a (TC_sc rfl (TC_ow 0 hS rfl qv80 (fun _ _ => by simp [takeE, takeT, takeC, plainA, e_Case]) fun H hS => TC_ow 0 hS rfl qv81 (fun _ _ => by simp [takeE, takeT, takeC, plainA, e_Slip]) fun H hS => TC_nil (TV_n rfl)))), (nf_a (nf_c rfl (nf_c (noFz_o _ (fun _ => rfl) _) (nf_c (noFz_o _ (fun _ => rfl) _) nf_n)))), ?_⟩
      refine thaw_1 ?_
      refine TH_a ?_
      refine TH_p (fun _ => rfl) ?_
      refine TH_o hS (fun _ _ => rfl) (fun _ => rfl) fun v83 H qv83 hS => ?_
      refine TH_o hS (fun _ _ => rfl) (fun _ => rfl) fun v85 H qv85 hS => ?_
      refine TH_n ?_
      refine TH_n ?_
      try simp only [List.headD_cons]
      try simp only [W]
      refine w_stv (a := .agg [.int .i64 b79.Now, v83, v85]) (y' := .agg [.int .i64 b79.Now, v83, v85]) 4 hS rfl rfl rfl rfl rfl (by simp only [storA, List.all_cons, List.all_nil, qv83.stor, qv85.stor]; rfl) rfl rfl fun H hS => ?_
      try simp only [W]
      refine seq_n hK78 ?_
      refine w_ret ?_
      refine fin_r hK0 (res_c rfl rfl (hS.var 4 rfl) rfl (res_tc rfl (res_tc rfl rfl))) ?_
      try obtain rfl := Option.some.inj h
      exact hP _ qv83 _ qv85 _ (hS.sel 6 [1, 0] (by decide))
theorem impl_IsSettled_w {a0 : Court} {r : (Bool × Bool)} (h : impl_IsSettled a0 = some r) {F : List It} {H : Heap} (hS : Own H (F)) {P : AV → Heap → Prop} (hP : ∀ H', Own H' (F) → P (.tup [.bool r.1, .bool r.2]) H') : ACall C 55 [.agg [.int .i64 a0.Now, .fz (a0.Cases.map e_Case), .fz (a0.Line.map e_Slip)]] H P := by
  refine acall_of gC (res := [.tmp 2, .tmp 3]) (n := 9) rfl rfl rfl rfl fun K0 hK0 => ?_
  simp only [W, Nat.reduceSub, Nat.reduceAdd, List.replicate]
  unfold impl_IsSettled at h
  refine w_seq fun K1 hK1 => ?_
  refine w_reg gC ?_
  try simp only [W, Nat.reduceAdd]
  refine w_box hS rfl rfl rfl rfl fun ip2 wp2 H hS => ?_
  try simp only [W]
  refine seq_n hK1 ?_
  refine w_seq fun K4 hK4 => ?_
  refine w_seq fun K5 hK5 => ?_
  refine w_reg gC ?_
  try simp only [W, EE, reduceIte, Nat.reduceAdd, Nat.reduceLeDiff, hS.var 0 rfl]
  refine w_call h fun b6 hb6 h => ?_
  refine impl_GoodCourt_w hb6 hS fun H hS => ?_
  try simp only [W]
  refine seq_n hK5 ?_
  refine w_if ?_
  simp only [W]
  refine w_cnd h (fun hc h => ?_) (fun hc h => ?_)
  · refine w_seq fun K7 hK7 => ?_
    refine w_reg gC ?_
    try simp only [W, Nat.reduceAdd]
    refine seq_n hK7 ?_
    refine w_ret ?_
    refine seq_r hK4 ?_
    refine fin_r2 hK0 rfl rfl ?_
    try obtain rfl := Option.some.inj h
    exact hP _ (hS.sel 1 [] (by decide))
  · refine w_skip ?_
    refine seq_n hK4 ?_
    refine w_seq fun K8 hK8 => ?_
    refine w_reg gC ?_
    try simp only [W, Nat.reduceAdd]
    refine w_call h fun b9 hb9 h => ?_
    refine impl_Court_unsettled_w hb9 (List.mem_of_getElem? (i := 0) rfl) hS fun H hS => ?_
    try simp only [W, EE]
    refine seq_n hK8 ?_
    refine w_ret ?_
    refine fin_r2 hK0 rfl rfl ?_
    try obtain rfl := Option.some.inj h
    exact hP _ (hS.sel 1 [] (by decide))
theorem spec_IsSettled_w {a0 : Court} {r : (Bool × Bool)} (h : spec_IsSettled a0 = some r) {F : List It} {H : Heap} (hS : Own H (F)) {P : AV → Heap → Prop} (hP : ∀ H', Own H' (F) → P (.tup [.bool r.1, .bool r.2]) H') : ACall C 90 [.agg [.int .i64 a0.Now, .fz (a0.Cases.map e_Case), .fz (a0.Line.map e_Slip)]] H P := by
  refine acall_of gC (res := [.tmp 2, .tmp 3]) (n := 10) rfl rfl rfl rfl fun K0 hK0 => ?_
  simp only [W, Nat.reduceSub, Nat.reduceAdd, List.replicate]
  unfold spec_IsSettled at h
  refine w_seq fun K1 hK1 => ?_
  refine w_reg gC ?_
  try simp only [W, Nat.reduceAdd]
  refine w_box hS rfl rfl rfl rfl fun ip2 wp2 H hS => ?_
  try simp only [W]
  refine seq_n hK1 ?_
  refine w_seq fun K4 hK4 => ?_
  refine w_seq fun K5 hK5 => ?_
  refine w_reg gC ?_
  try simp only [W, EE, reduceIte, Nat.reduceAdd, Nat.reduceLeDiff, hS.var 0 rfl]
  refine w_call h fun b6 hb6 h => ?_
  refine spec_GoodCourt_w hb6 hS fun H hS => ?_
  try simp only [W]
  refine seq_n hK5 ?_
  refine w_if ?_
  simp only [W]
  refine w_cnd h (fun hc h => ?_) (fun hc h => ?_)
  · refine w_seq fun K7 hK7 => ?_
    refine w_reg gC ?_
    try simp only [W, Nat.reduceAdd]
    refine seq_n hK7 ?_
    refine w_ret ?_
    refine seq_r hK4 ?_
    refine fin_r2 hK0 rfl rfl ?_
    try obtain rfl := Option.some.inj h
    exact hP _ (hS.sel 1 [] (by decide))
  · refine w_skip ?_
    refine seq_n hK4 ?_
    refine w_seq fun K8 hK8 => ?_
    refine w_reg gC ?_
    try simp only [W, EE, reduceIte, Nat.reduceAdd, Nat.reduceLeDiff, hS.var 0 rfl]
    refine w_call h fun b9 hb9 h => ?_
    refine spec_l16Open_w hb9 hS fun H hS => ?_
    try simp only [W, EE]
    refine seq_n hK8 ?_
    refine w_ret ?_
    refine fin_r2 hK0 rfl rfl ?_
    try obtain rfl := Option.some.inj h
    exact hP _ (hS.sel 1 [] (by decide))
theorem impl_AgreesIn_w {a0 : Court} {r : (Bool × Bool)} (h : impl_AgreesIn a0 = some r) {F : List It} {H : Heap} (hS : Own H (F)) {P : AV → Heap → Prop} (hP : ∀ H', Own H' (F) → P (.tup [.bool r.1, .bool r.2]) H') : ACall C 51 [.agg [.int .i64 a0.Now, .fz (a0.Cases.map e_Case), .fz (a0.Line.map e_Slip)]] H P := by
  refine acall_of gC (res := [.tmp 2, .tmp 3]) (n := 7) rfl rfl rfl rfl fun K0 hK0 => ?_
  simp only [W, Nat.reduceSub, Nat.reduceAdd, List.replicate]
  unfold impl_AgreesIn at h
  refine w_seq fun K1 hK1 => ?_
  refine w_reg gC ?_
  try simp only [W, Nat.reduceAdd]
  refine w_box hS rfl rfl rfl rfl fun ip2 wp2 H hS => ?_
  try simp only [W]
  refine seq_n hK1 ?_
  refine w_seq fun K4 hK4 => ?_
  refine w_seq fun K5 hK5 => ?_
  refine w_reg gC ?_
  try simp only [W, EE, reduceIte, Nat.reduceAdd, Nat.reduceLeDiff, hS.var 0 rfl]
  refine w_call h fun b6 hb6 h => ?_
  refine impl_GoodCourt_w hb6 hS fun H hS => ?_
  try simp only [W]
  refine seq_n hK5 ?_
  refine w_if ?_
  simp only [W]
  refine w_cnd h (fun hc h => ?_) (fun hc h => ?_)
  · refine w_seq fun K7 hK7 => ?_
    refine w_reg gC ?_
    try simp only [W, Nat.reduceAdd]
    refine seq_n hK7 ?_
    refine w_ret ?_
    refine seq_r hK4 ?_
    refine fin_r2 hK0 rfl rfl ?_
    try obtain rfl := Option.some.inj h
    exact hP _ (hS.sel 1 [] (by decide))
  · refine w_skip ?_
    refine seq_n hK4 ?_
    refine w_seq fun K8 hK8 => ?_
    refine w_reg gC ?_
    try simp only [W, Nat.reduceAdd]
    refine seq_n hK8 ?_
    refine w_ret ?_
    refine fin_r2 hK0 rfl rfl ?_
    try obtain rfl := Option.some.inj h
    exact hP _ (hS.sel 1 [] (by decide))
theorem spec_AgreesIn_w {a0 : Court} {r : (Bool × Bool)} (h : spec_AgreesIn a0 = some r) {F : List It} {H : Heap} (hS : Own H (F)) {P : AV → Heap → Prop} (hP : ∀ H', Own H' (F) → P (.tup [.bool r.1, .bool r.2]) H') : ACall C 91 [.agg [.int .i64 a0.Now, .fz (a0.Cases.map e_Case), .fz (a0.Line.map e_Slip)]] H P := by
  refine acall_of gC (res := [.tmp 2, .tmp 3]) (n := 27) rfl rfl rfl rfl fun K0 hK0 => ?_
  simp only [W, Nat.reduceSub, Nat.reduceAdd, List.replicate]
  unfold spec_AgreesIn at h
  refine w_seq fun K1 hK1 => ?_
  refine w_reg gC ?_
  try simp only [W, Nat.reduceAdd]
  refine w_box hS rfl rfl rfl rfl fun ip2 wp2 H hS => ?_
  try simp only [W]
  refine seq_n hK1 ?_
  refine w_seq fun K4 hK4 => ?_
  refine w_seq fun K5 hK5 => ?_
  refine w_reg gC ?_
  try simp only [W, EE, reduceIte, Nat.reduceAdd, Nat.reduceLeDiff, hS.var 0 rfl]
  refine w_call h fun b6 hb6 h => ?_
  refine spec_GoodCourt_w hb6 hS fun H hS => ?_
  try simp only [W]
  refine seq_n hK5 ?_
  refine w_if ?_
  simp only [W]
  refine w_cnd h (fun hc h => ?_) (fun hc h => ?_)
  · refine w_seq fun K7 hK7 => ?_
    refine w_reg gC ?_
    try simp only [W, Nat.reduceAdd]
    refine seq_n hK7 ?_
    refine w_ret ?_
    refine seq_r hK4 ?_
    refine fin_r2 hK0 rfl rfl ?_
    try obtain rfl := Option.some.inj h
    exact hP _ (hS.sel 1 [] (by decide))
  · refine w_skip ?_
    refine seq_n hK4 ?_
    refine w_seq fun K8 hK8 => ?_
    refine w_seq fun K9 hK9 => ?_
    refine w_reg gC ?_
    try simp only [W, EE, Nat.reduceAdd, Nat.reduceBEq, hS.var 0 rfl]
    refine seq_n hK9 ?_
    obtain ⟨y11, hw12, g18⟩ := Option.bind_eq_some_iff.1 h
    refine w_join gC (fun s H => y11 = LR.next () ∧ s = [u, u, u, u, u, u, u, u, u, u, u, u, u, u, u, u, u, u, u, u, u, u, u, u, u, u, u] ∧ Own H (F)) (fun K13 hK13 => ?_) (fun s H hq => ?_)
    · refine w_blk fun K14 hK14 => ?_
      refine w_loop gC hw12 (fun x s H => s = [u, u, u, u, u, u, u, u, u, u, .fz (a0.Cases.map e_Case), .int .i64 (a0.Cases.length : Int), .int .i64 x, u, u, u, u, u, u, u, u, u, u, u, u, u, u] ∧ Own H (F)) ⟨rfl, (hS.sel 1 [] (by decide))⟩ (fun x10 y17 s H h hd16 hi K15 hK15 => ?_)
      skip
      try dsimp only at hi
      obtain ⟨rfl, hS⟩ := hi
      simp only [spec_AgreesIn_l0] at h
      refine w_seq fun K19 hK19 => ?_
      refine w_reg gC ?_
      try simp only [W, EE, Nat.reduceAdd]
      refine seq_n hK19 ?_
      refine w_seq fun K20 hK20 => ?_
      refine w_if ?_
      simp only [W]
      refine w_cnd h (fun hc h => ?_) (fun hc h => ?_)
      · refine w_skip ?_
        refine seq_n hK20 ?_
        refine w_seq fun K21 hK21 => ?_
        refine w_blk fun K22 hK22 => ?_
        refine w_seq fun K23 hK23 => ?_
        refine w_reg gC ?_
        try simp only [W, EE, Nat.reduceAdd]
        refine w_fz rfl rfl rfl (fun _ => rfl) h fun b24 hb24 h => ?_
        try simp only [W, EE, EN, reduceIte, Nat.reduceAdd, Nat.reduceLeDiff]
        refine w_alloc hS rfl rfl fun ip25 wp25 H hS => ?_
        try simp only [W]
        refine w_stv (a := .agg [.int .i64 b24.End, .bool b24.Asks, .int .i64 b24.Final, .int .i64 b24.Said]) (y' := .agg [.int .i64 b24.End, .bool b24.Asks, .int .i64 b24.Final, .int .i64 b24.Said]) 0 hS rfl rfl rfl rfl rfl rfl rfl rfl fun H hS => ?_
        try simp only [W]
        refine seq_n hK23 ?_
        refine w_seq fun K27 hK27 => ?_
        obtain ⟨y29, h, g30⟩ := Option.bind_eq_some_iff.1 h
        refine w_join gC (fun s H => ∃ x28 : Bool, y29 = (x28) ∧ s = [u, u, u, u, u, u, u, u, u, u, .fz (a0.Cases.map e_Case), .int .i64 (a0.Cases.length : Int), .int .i64 x10, u, u, u, u, u, u, u, u, u, u, u, u, .bool x28, u] ∧ Own H (F)) (fun K31 hK31 => ?_) (fun s H hq => ?_)
        · refine w_seq fun K32 hK32 => ?_
          refine w_reg gC ?_
          try simp only [W, EE, Nat.reduceAdd, Nat.reduceBEq, hS.var 0 rfl]
          refine w_grdT h (fun hc h => ?_) (fun hc h => ?_)
          · try simp only [W, EE, reduceIte, Nat.reduceAdd, Nat.reduceBEq, hS.var 0 rfl, hc]
            refine seq_n hK32 ?_
            refine w_kill ?_
            exact cut_n hK31 ⟨_, (Option.some.inj h).symm, rfl, (hS.sel 1 [] (by decide))⟩
          · try simp only [W, hc]
            refine seq_n hK32 ?_
            refine w_kill ?_
            exact cut_n hK31 ⟨_, (Option.some.inj h).symm, rfl, (hS.sel 1 [] (by decide))⟩
        · obtain ⟨x28, ey, rfl, hS⟩ := hq; obtain rfl := ey.symm
          replace h := g30
          try dsimp only at h
          refine seq_n hK27 ?_
          refine w_if ?_
          simp only [W]
          refine w_cnd h (fun hc h => ?_) (fun hc h => ?_)
          · refine w_seq fun K33 hK33 => ?_
            refine w_reg gC ?_
            try simp only [W, Nat.reduceAdd]
            refine seq_n hK33 ?_
            refine w_ret ?_
            refine blk_r hK22 ?_
            refine seq_r hK21 ?_
            try obtain rfl := Option.some.inj h
            obtain rfl := hd16 _ rfl
            have h : (some (LR.done (false, true)) : Option (LR Unit (Bool × Bool))) = some (LR.done (false, true)) := rfl
            refine lp_r hK15 ?_
            refine blk_r hK14 ?_
            try obtain rfl := Option.some.inj h
            obtain rfl := Option.some.inj g18
            have h : (some (false, true) : Option (Bool × Bool)) = some (false, true) := rfl
            refine cut_r hK13 ?_
            refine seq_r hK8 ?_
            refine fin_r2 hK0 rfl rfl ?_
            try obtain rfl := Option.some.inj h
            exact hP _ hS
          · refine w_skip ?_
            refine blk_n0 hK22 ?_
            refine seq_n hK21 ?_
            refine w_reg gC ?_
            try simp only [W, EE, Nat.reduceAdd]
            exact lp_n hK15 h ⟨rfl, hS⟩
      · refine w_exit ?_
        refine seq_x hK20 ?_
        try obtain rfl := Option.some.inj h
        obtain rfl := hd16 _ rfl
        have h : (some (LR.next ()) : Option (LR Unit (Bool × Bool))) = some (LR.next ()) := rfl
        refine lp_x hK15 ?_
        refine blk_e hK14 ?_
        exact cut_n hK13 ⟨(Option.some.inj h).symm, rfl, hS⟩
    · obtain ⟨rfl, rfl, hS⟩ := hq
      replace h := g18
      try dsimp only at h
      refine seq_n hK8 ?_
      refine w_seq fun K40 hK40 => ?_
      refine w_reg gC ?_
      try simp only [W, Nat.reduceAdd]
      refine seq_n hK40 ?_
      refine w_ret ?_
      refine fin_r2 hK0 rfl rfl ?_
      try obtain rfl := Option.some.inj h
      exact hP _ hS
theorem spec_DrawNewCourt_w {a0 : List Int} {r : (List Int)} (h : spec_DrawNewCourt a0 = some r) {F : List It} {H : Heap} (hS : Own H (F)) {P : AV → Heap → Prop} (hP : ∀ v23 : AV, isSl v23 → ∀ H', Own H' (⟨v23, 1, r.map (AV.int .i64)⟩ :: F) → P (v23) H') : ACall C 92 [.fz (a0.map (AV.int .u8))] H P := by
  refine acall_of gC (res := [.tmp 2]) (n := 15) rfl rfl rfl rfl fun K0 hK0 => ?_
  simp only [W, Nat.reduceSub, Nat.reduceAdd, List.replicate]
  unfold spec_DrawNewCourt at h
  refine w_seq fun K1 hK1 => ?_
  refine w_reg gC ?_
  try simp only [W, Nat.reduceAdd]
  refine seq_n hK1 ?_
  refine w_seq fun K2 hK2 => ?_
  refine w_reg gC ?_
  try simp only [W, EE, Nat.reduceAdd]
  refine w_bld rfl rfl rfl rfl rfl ?_
  try simp only [W]
  refine w_box hS rfl rfl rfl rfl fun ip3 wp3 H hS => ?_
  try simp only [W]
  refine seq_n hK2 ?_
  refine w_seq fun K5 hK5 => ?_
  refine w_seq fun K6 hK6 => ?_
  refine w_reg gC ?_
  try simp only [W, Nat.reduceAdd]
  refine w_call h fun b7 hb7 h => ?_
  obtain ⟨b8, b9⟩ := b7
  try dsimp only at h
  refine spec_l1Cur_one_w hb7 hS fun H hS => ?_
  try simp only [W]
  refine seq_n hK6 ?_
  refine w_if ?_
  simp only [W]
  refine w_cnd h (fun hc h => ?_) (fun hc h => ?_)
  · refine w_seq fun K10 hK10 => ?_
    refine w_reg gC ?_
    try simp only [W, Nat.reduceAdd]
    refine w_call h fun b11 hb11 h => ?_
    obtain ⟨b12, b13⟩ := b11
    try dsimp only at h
    refine spec_l1Cur_pick_w hb11 hS fun H hS => ?_
    try simp only [W, EE]
    refine w_make (c := (AV.int .i64)) hS rfl rfl rfl rfl rfl rfl h fun v14 H x16 qv14 hm h hS => ?_
    try simp only [W]
    refine seq_n hK10 ?_
    refine w_ret ?_
    refine seq_r hK5 ?_
    refine fin_r1 hK0 rfl ?_
    try obtain rfl := Option.some.inj h
    exact hP _ qv14 _ (hS.sel 2 [0] (by decide))
  · refine w_skip ?_
    refine seq_n hK5 ?_
    refine w_seq fun K17 hK17 => ?_
    refine w_reg gC ?_
    try simp only [W, Nat.reduceAdd]
    refine w_call h fun b18 hb18 h => ?_
    obtain ⟨b19, b20⟩ := b18
    try dsimp only at h
    refine spec_l1Cur_ends_w hb18 hS fun v21 qv21 H hS => ?_
    try simp only [W]
    refine seq_n hK17 ?_
    refine w_ret ?_
    refine fin_r1 hK0 rfl ?_
    try obtain rfl := Option.some.inj h
    exact hP _ qv21 _ (hS.sel 2 [0] (by decide))
theorem impl_NewCourt_w {a0 : List Int} {r : (Court × Bool)} (h : impl_NewCourt a0 = some r) {F : List It} {H : Heap} (hS : Own H (F)) {P : AV → Heap → Prop} (hP : ∀ v41 : AV, isSl v41 → ∀ v43 : AV, isSl v43 → ∀ H', Own H' (⟨v41, 4, r.1.Cases.map e_Case⟩ :: ⟨v43, 3, r.1.Line.map e_Slip⟩ :: F) → P (.tup [.agg [.int .i64 r.1.Now, v41, v43], .bool r.2]) H') : ACall C 93 [.fz (a0.map (AV.int .i64))] H P := by
  refine acall_of gC (res := [.cell 2 68, .tmp 3]) (n := 27) rfl rfl rfl rfl fun K0 hK0 => ?_
  simp only [W, Nat.reduceSub, Nat.reduceAdd, List.replicate]
  unfold impl_NewCourt at h
  refine w_seq fun K1 hK1 => ?_
  refine w_reg gC ?_
  try simp only [W, Nat.reduceAdd]
  refine w_alloc hS rfl rfl fun ip2 wp2 H hS => ?_
  try simp only [W]
  refine seq_n hK1 ?_
  refine w_seq fun K4 hK4 => ?_
  refine w_reg gC ?_
  try simp only [W, EE, Nat.reduceAdd]
  refine w_bld rfl rfl rfl rfl rfl ?_
  try simp only [W]
  refine w_alloc hS rfl rfl fun ip5 wp5 H hS => ?_
  try simp only [W]
  refine w_stv (a := .agg [.int .i64 0, .nil, .nil]) (y' := .agg [.int .i64 0, .nil, .nil]) 0 hS rfl rfl rfl rfl rfl rfl rfl rfl fun H hS => ?_
  try simp only [W]
  refine seq_n hK4 ?_
  refine w_seq fun K7 hK7 => ?_
  refine w_seq fun K8 hK8 => ?_
  refine w_reg gC ?_
  try simp only [W, EE, Nat.reduceAdd]
  refine seq_n hK8 ?_
  obtain ⟨y15, hw16, g22⟩ := Option.bind_eq_some_iff.1 h
  refine w_join gC (fun s H => ∃ x13 : List Case, y15 = (x13) ∧ ∃ v14 : AV, isSl v14 ∧ s = [u, u, .ptr ip2 wp2 0 0, u, .ptr ip5 wp5 0 0, u, u, u, u, u, u, u, u, u, u, u, u, u, u, u, u, u, u, u, u, u, u] ∧ Own H (⟨v14, 4, x13.map e_Case⟩ :: ⟨.ptr ip2 wp2 0 0, 3, [.agg [.int .i64 0, .nil, .nil]]⟩ :: ⟨.ptr ip5 wp5 0 0, 3, [.agg [.int .i64 0, v14, .nil]]⟩ :: F)) (fun K17 hK17 => ?_) (fun s H hq => ?_)
  · refine w_blk fun K18 hK18 => ?_
    refine w_loop gC hw16 (fun x s H => match x with | (x9, x10) => ∃ v11 : AV, isSl v11 ∧ s = [u, u, .ptr ip2 wp2 0 0, u, .ptr ip5 wp5 0 0, u, u, u, .fz (a0.map (AV.int .i64)), .int .i64 (a0.length : Int), .int .i64 x9, u, u, u, u, u, u, u, u, u, u, u, u, u, u, u, u] ∧ Own H (⟨v11, 4, x10.map e_Case⟩ :: ⟨.ptr ip2 wp2 0 0, 3, [.agg [.int .i64 0, .nil, .nil]]⟩ :: ⟨.ptr ip5 wp5 0 0, 3, [.agg [.int .i64 0, v11, .nil]]⟩ :: F)) ⟨_, isSl_nil, rfl, ((hS.nil_ 4).sel 3 [0, 2, 1] (by decide))⟩ (fun x y21 s H h hd20 hi K19 hK19 => ?_)
    obtain ⟨x9, x10⟩ := x
    try dsimp only at hi
    obtain ⟨v11, qv11, rfl, hS⟩ := hi
    simp only [impl_NewCourt_l0] at h
    refine w_seq fun K23 hK23 => ?_
    refine w_reg gC ?_
    try simp only [W, EE, Nat.reduceAdd]
    refine seq_n hK23 ?_
    refine w_seq fun K24 hK24 => ?_
    refine w_if ?_
    simp only [W]
    refine w_cnd h (fun hc h => ?_) (fun hc h => ?_)
    · refine w_skip ?_
      refine seq_n hK24 ?_
      refine w_seq fun K25 hK25 => ?_
      refine w_blk fun K26 hK26 => ?_
      refine w_seq fun K27 hK27 => ?_
      refine w_reg gC ?_
      try simp only [W, EE, Nat.reduceAdd]
      refine w_fz rfl rfl rfl (fun _ => rfl) h fun b28 hb28 h => ?_
      try simp only [W, EE]
      refine seq_n hK27 ?_
      refine w_reg gC ?_
      try simp only [W, EE, Nat.reduceAdd, Nat.reduceBEq, hS.var 2 rfl]
      refine w_bld rfl rfl rfl rfl rfl ?_
      try simp only [W]
      refine w_lit (el := ([(⟨b28, false, 0, 0⟩ : Case)] : List Case).map e_Case) hS rfl rfl rfl rfl rfl rfl rfl fun v29 H qv29 hS => ?_
      try simp only [W, EE]
      refine w_appV (l := x10) (c := e_Case) 1 hS rfl qv11 rfl rfl rfl (hS.elems 0 rfl qv29) (fun _ => rfl) rfl h fun v32 H x31 qv32 hm h hS => ?_
      try simp only [W, EE, Nat.reduceAdd, Nat.reduceBEq, hS.var 3 rfl]
      refine w_stv (a := v32) (y' := .agg [.int .i64 0, v32, .nil]) 3 hS rfl rfl rfl rfl (by rw [qv32.cells]; rfl) qv32.stora (qv32.wr _ _ (by simp)) rfl fun H hS => ?_
      try simp only [W]
      refine blk_n0 hK26 ?_
      refine seq_n hK25 ?_
      refine w_reg gC ?_
      try simp only [W, EE, Nat.reduceAdd]
      exact lp_n hK19 h ⟨_, qv32, rfl, (hS.sel 4 [1, 2, 3] (by decide))⟩
    · refine w_exit ?_
      refine seq_x hK24 ?_
      try obtain rfl := Option.some.inj h
      obtain rfl := hd20 _ rfl
      have h : (some (x10) : Option ((List Case))) = some (x10) := rfl
      refine lp_x hK19 ?_
      refine blk_e hK18 ?_
      exact cut_n hK17 ⟨_, (Option.some.inj h).symm, _, qv11, rfl, hS⟩
  · obtain ⟨x13, ey, v14, qv14, rfl, hS⟩ := hq; obtain rfl := ey.symm
    replace h := g22
    try dsimp only at h
    refine seq_n hK7 ?_
    refine w_seq fun K36 hK36 => ?_
    refine w_seq fun K37 hK37 => ?_
    refine w_reg gC ?_
    try simp only [W, EE, reduceIte, Nat.reduceAdd, Nat.reduceLeDiff, hS.var 2 rfl]
    refine w_callS (rsh := [[.sc]]) (ys := [.agg [.int .i64 0, .fz (x13.map e_Case), .fz []]]) h rfl (pv_c (sn_agg (sm_c rfl (sm_c (sn_ow hS 0 rfl qv14 (fun _ => rfl)) (sm_c rfl (sm_n _))))) pv_n) fun b38 hb38 h => ⟨.bool b38, impl_GoodCourt_w hb38 (Own.nil _) fun H hS => TV_ok rfl (TV_p rfl (TV_n rfl)), ⟨rfl, rfl, fun _ => rfl⟩, ?_⟩
    try simp only [W]
    refine seq_n hK37 ?_
    refine w_if ?_
    simp only [W]
    refine w_cnd h (fun hc h => ?_) (fun hc h => ?_)
    · refine w_seq fun K39 hK39 => ?_
      refine w_reg gC ?_
      try simp only [W, EE, Nat.reduceAdd]
      refine w_bld rfl rfl rfl rfl rfl ?_
      try simp only [W]
      refine w_stv (a := .agg [.int .i64 0, .nil, .nil]) (y' := .agg [.int .i64 0, .nil, .nil]) 1 hS rfl rfl rfl rfl rfl rfl rfl rfl fun H hS => ?_
      try simp only [W]
      refine seq_n hK39 ?_
      refine w_ret ?_
      refine seq_r hK36 ?_
      refine fin_r hK0 (res_c rfl rfl (hS.var 1 rfl) rfl (res_tc rfl rfl)) ?_
      try obtain rfl := Option.some.inj h
      exact hP _ isSl_nil _ isSl_nil _ (((hS.nil_ 3).nil_ 4).sel 5 [0, 1] (by decide))
    · refine w_skip ?_
      refine seq_n hK36 ?_
      refine w_seq fun K40 hK40 => ?_
      refine w_reg gC ?_
      try simp only [W, EE, reduceIte, Nat.reduceAdd, Nat.reduceLeDiff, hS.var 2 rfl]
      refine w_stv (a := .agg [.int .i64 0, v14, .nil]) (y' := .agg [.int .i64 0, v14, .nil]) 1 hS rfl rfl rfl rfl rfl (by simp only [storA, List.all_cons, List.all_nil, qv14.stor]; rfl) rfl rfl fun H hS => ?_
      try simp only [W]
      refine seq_n hK40 ?_
      refine w_ret ?_
      refine fin_r hK0 (res_c rfl rfl (hS.var 1 rfl) rfl (res_tc rfl rfl)) ?_
      try obtain rfl := Option.some.inj h
      exact hP _ qv14 _ isSl_nil _ ((hS.nil_ 3).sel 4 [1, 0] (by decide))
end Go.VxW
