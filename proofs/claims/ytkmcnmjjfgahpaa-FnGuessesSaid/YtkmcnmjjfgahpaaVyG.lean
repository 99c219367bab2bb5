import Derived.Test.YtkmcnmjjfgahpaaVyGF
import Derived.Test.YtkmcnmjjfgahpaaProg
import Derived.Test.YtkmcnmjjfgahpaaVaD
import Derived.KernelRfl
open Go Go.VS
set_option maxRecDepth 8000
set_option maxHeartbeats 4000000
namespace Go.VxW
def e_Guess (x : Guess) : AV := .agg [.int .i64 x.Mean, .int .i64 x.Swing, .int .i64 x.Many, .int .i64 x.Back]
def e_Seen (x : Seen) : AV := .agg [.int .i64 x.Took, .bool x.Twice, .bool x.Lost]
def e_L1Cur (x : L1Cur) : AV := .agg [.fz (x.Code.map (AV.int .u8)), .int .i64 x.At, .int .u64 x.Seed]
def E : TEnv := fun t => match t with
  | 3 => some { sz := 1, agg := false, zero := [AV.int IntKind.i64 0], bytes := 8, und := UD.it IntKind.i64, eqok := true }
  | 4 => some { sz := 1, agg := false, zero := [AV.bool false], bytes := 1, und := UD.bl, eqok := true }
  | 5 => some { sz := 1, agg := false, zero := [AV.int IntKind.u8 0], bytes := 1, und := UD.it IntKind.u8, eqok := true }
  | 48 => some { sz := 1, agg := false, zero := [AV.nil], bytes := 24, und := UD.sl 3, eqok := true }
  | 72 => some { sz := 1, agg := false, zero := [AV.nil], bytes := 24, und := UD.sl 5, eqok := true }
  | 74 => some { sz := 4, agg := true, zero := [AV.int IntKind.i64 0, AV.int IntKind.i64 0, AV.int IntKind.i64 0, AV.int IntKind.i64 0], bytes := 32, und := UD.st [(0, 3), (1, 3), (2, 3), (3, 3)], eqok := true }
  | 76 => some { sz := 3, agg := true, zero := [AV.int IntKind.i64 0, AV.bool false, AV.bool false], bytes := 16, und := UD.st [(0, 3), (1, 4), (2, 4)], eqok := true }
  | 86 => some { sz := 1, agg := false, zero := [AV.nil], bytes := 24, und := UD.sl 76, eqok := true }
  | 150 => some { sz := 1, agg := false, zero := [AV.nilp], bytes := 8, und := UD.pt, eqok := true }
  | 151 => some { sz := 1, agg := false, zero := [AV.int IntKind.u64 0], bytes := 8, und := UD.it IntKind.u64, eqok := true }
  | 153 => some { sz := 3, agg := true, zero := [AV.nil, AV.int IntKind.i64 0, AV.int IntKind.u64 0], bytes := 40, und := UD.st [(0, 72), (1, 3), (2, 151)], eqok := true }
  | 165 => some { sz := 1, agg := false, zero := [AV.int IntKind.u64 0], bytes := 8, und := UD.it IntKind.u64, eqok := true }
  | _ => none
def pol : FuncId → FPol := fun f => match f with
  | 11 => { rsh := [[.sc]], frz := [(8, [], some [1, 5, 6, 7, 8, 11, 78]), (12, [], some [1, 5, 6, 11, 15, 99]), (14, [], some [1, 121]), (19, [], some [18, 19, 141])], cnds := [(79, [1])] }
  | 48 => { rsh := [[.sc, .sc, .sc, .sc], [.sc, .sc, .sc]] }
  | 49 => { rsh := [[.sc, .sc, .sc, .sc], [.sc]], frz := [(1, [], some [2, 3, 4, 13])] }
  | 50 => { rsh := [[.sc, .sc, .sc, .sc], [.sc]], frz := [(1, [], some [2, 3, 4, 13])] }
  | 51 => { rsh := [[.sc], [.sc]] }
  | 52 => { rsh := [[.sc], [.sc]] }
  | 53 => { rsh := [[.sc]] }
  | 54 => { rsh := [[.sc]], fz := [(2, [(2, [([8], [.sl [.sc]])])])] }
  | 55 => { rsh := [[.sc, .sc, .sc, .sc], [.sc]] }
  | 56 => { rsh := [[.sc, .sc, .sc, .sc], [.sc]] }
  | 59 => { rsh := [[.sc, .sc, .sc, .sc], [.sc]], loops := [(0, { keep := [4, 6, 23, 24, 25] })], blocks := [(0, [4, 6])], frz := [(2, [], some [1, 4, 6, 21])] }
  | 86 => { rsh := [[.sc]] }
  | 95 => { rsh := [[.sc]] }
  | 126 => { rsh := [[.sc, .sc, .sc, .sc]], frz := [(2, [], some [0, 2, 3, 19])], fz := [(1, [(5, [([10], [.sl [.sc, .sc, .sc]])])]), (3, [(2, [([21], [.sl [.sc]])]), (5, [([24], [.sl [.sc]])]), (8, [([27], [.sl [.sc]])])])], cnds := [(19, [2, 3])] }
  | 127 => { rsh := [[.sc, .sc, .sc]], fz := [(6, [(6, [([23], [.sl [.sc]])])])] }
  | 128 => { rsh := [[.sc]] }
  | 129 => { rsh := [], regs := [(8, [17], [])] }
  | 130 => { rsh := [[.sc]] }
  | 131 => { rsh := [[.sc]] }
  | 132 => { rsh := [[.sc, .sc, .sc, .sc]], cnds := [(35, [2, 4, 5])] }
  | 133 => { rsh := [[.sc]] }
  | 134 => { rsh := [[.sc]] }
  | 135 => { rsh := [[.sl [.sc, .sc, .sc]]], loops := [(0, { keep := [0, 3, 4] })], blocks := [(0, [3])], cnds := [(8, [0, 3, 4])] }
  | 137 => { rsh := [[.sc]] }
  | 149 => { rsh := [[.sc]], cnds := [(11, [1, 5])] }
  | 180 => { rsh := [[.sc]] }
  | 181 => { rsh := [[.sc]] }
  | 185 => { rsh := [[.sc]], cnds := [(13, [0, 3])] }
  | _ => {}
noncomputable def code : FuncId → Option Func := fun f => match f with
  | 11 => some Go.Proofs.Try.f11
  | 48 => some Go.Proofs.Try.f48
  | 49 => some Go.Proofs.Try.f49
  | 50 => some Go.Proofs.Try.f50
  | 51 => some Go.Proofs.Try.f51
  | 52 => some Go.Proofs.Try.f52
  | 53 => some Go.Proofs.Try.f53
  | 54 => some Go.Proofs.Try.f54
  | 55 => some Go.Proofs.Try.f55
  | 56 => some Go.Proofs.Try.f56
  | 59 => some Go.Proofs.Try.f59
  | 86 => some Go.Proofs.Try.f86
  | 95 => some Go.Proofs.Try.f95
  | 126 => some Go.Proofs.Try.f126
  | 127 => some Go.Proofs.Try.f127
  | 128 => some Go.Proofs.Try.f128
  | 129 => some Go.Proofs.Try.f129
  | 130 => some Go.Proofs.Try.f130
  | 131 => some Go.Proofs.Try.f131
  | 132 => some Go.Proofs.Try.f132
  | 133 => some Go.Proofs.Try.f133
  | 134 => some Go.Proofs.Try.f134
  | 135 => some Go.Proofs.Try.f135
  | 137 => some Go.Proofs.Try.f137
  | 149 => some Go.Proofs.Try.f149
  | 180 => some Go.Proofs.Try.f180
  | 181 => some Go.Proofs.Try.f181
  | 185 => some Go.Proofs.Try.f185
  | _ => none
noncomputable def C : Ctx := ⟨E, pol, code, fun _ _ _ _ => False⟩
theorem gC : Good C := ⟨fun _ _ _ _ _ _ h => h, fun _ _ _ _ h => h.elim⟩
theorem cE : C.E = E := rfl
theorem E3 : E 3 = some { sz := 1, agg := false, zero := [AV.int IntKind.i64 0], bytes := 8, und := UD.it IntKind.i64, eqok := true } := rfl
theorem E4 : E 4 = some { sz := 1, agg := false, zero := [AV.bool false], bytes := 1, und := UD.bl, eqok := true } := rfl
theorem E5 : E 5 = some { sz := 1, agg := false, zero := [AV.int IntKind.u8 0], bytes := 1, und := UD.it IntKind.u8, eqok := true } := rfl
theorem E48 : E 48 = some { sz := 1, agg := false, zero := [AV.nil], bytes := 24, und := UD.sl 3, eqok := true } := rfl
theorem E72 : E 72 = some { sz := 1, agg := false, zero := [AV.nil], bytes := 24, und := UD.sl 5, eqok := true } := rfl
theorem E74 : E 74 = some { sz := 4, agg := true, zero := [AV.int IntKind.i64 0, AV.int IntKind.i64 0, AV.int IntKind.i64 0, AV.int IntKind.i64 0], bytes := 32, und := UD.st [(0, 3), (1, 3), (2, 3), (3, 3)], eqok := true } := rfl
theorem E76 : E 76 = some { sz := 3, agg := true, zero := [AV.int IntKind.i64 0, AV.bool false, AV.bool false], bytes := 16, und := UD.st [(0, 3), (1, 4), (2, 4)], eqok := true } := rfl
theorem E86 : E 86 = some { sz := 1, agg := false, zero := [AV.nil], bytes := 24, und := UD.sl 76, eqok := true } := rfl
theorem E150 : E 150 = some { sz := 1, agg := false, zero := [AV.nilp], bytes := 8, und := UD.pt, eqok := true } := rfl
theorem E151 : E 151 = some { sz := 1, agg := false, zero := [AV.int IntKind.u64 0], bytes := 8, und := UD.it IntKind.u64, eqok := true } := rfl
theorem E153 : E 153 = some { sz := 3, agg := true, zero := [AV.nil, AV.int IntKind.i64 0, AV.int IntKind.u64 0], bytes := 40, und := UD.st [(0, 72), (1, 3), (2, 151)], eqok := true } := rfl
theorem E165 : E 165 = some { sz := 1, agg := false, zero := [AV.int IntKind.u64 0], bytes := 8, und := UD.it IntKind.u64, eqok := true } := rfl
theorem EE : type_of% (And.intro @cE <| And.intro @E3 <| And.intro @E4 <| And.intro @E5 <| And.intro @E48 <| And.intro @E72 <| And.intro @E74 <| And.intro @E76 <| And.intro @E86 <| And.intro @E150 <| And.intro @E151 <| And.intro @E153 @E165) := And.intro @cE <| And.intro @E3 <| And.intro @E4 <| And.intro @E5 <| And.intro @E48 <| And.intro @E72 <| And.intro @E74 <| And.intro @E76 <| And.intro @E86 <| And.intro @E150 <| And.intro @E151 <| And.intro @E153 @E165
theorem e_Guess_d (x : Guess) : e_Guess x = .agg [.int .i64 x.Mean, .int .i64 x.Swing, .int .i64 x.Many, .int .i64 x.Back] := rfl
theorem e_L1Cur_d (x : L1Cur) : e_L1Cur x = .agg [.fz (x.Code.map (AV.int .u8)), .int .i64 x.At, .int .u64 x.Seed] := rfl
theorem e_Seen_d (x : Seen) : e_Seen x = .agg [.int .i64 x.Took, .bool x.Twice, .bool x.Lost] := rfl
theorem EN : type_of% (And.intro @e_Guess_d <| And.intro @e_L1Cur_d <| And.intro @e_Seen_d @killB_n) := And.intro @e_Guess_d <| And.intro @e_L1Cur_d <| And.intro @e_Seen_d @killB_n
theorem spec_l1Cur_next_w {a0 : L1Cur} {i0 : Nat} {w0 : Nat} {r : (Int × L1Cur)} (h : spec_l1Cur_next a0 = some r) {F : List It} {H : Heap} (hS : Own H (⟨.ptr i0 w0 0 0, 3, [.agg [.fz (a0.Code.map (AV.int .u8)), .int .i64 a0.At, .int .u64 a0.Seed]]⟩ :: F)) {P : AV → Heap → Prop} (hP : ∀ H', Own H' (⟨.ptr i0 w0 0 0, 3, [.agg [.fz (r.2.Code.map (AV.int .u8)), .int .i64 r.2.At, .int .u64 r.2.Seed]]⟩ :: F) → P (.int .i64 r.1) H') : ACall C 185 [.ptr i0 w0 0 0] H P := by
  refine acall_of gC (res := [.tmp 2]) (n := 62) rfl rfl rfl rfl fun K0 hK0 => ?_
  simp only [W, Nat.reduceSub, Nat.reduceAdd, List.replicate]
  unfold spec_l1Cur_next at h
  refine w_seq fun K1 hK1 => ?_
  refine w_reg gC ?_
  try simp only [W, Nat.reduceAdd]
  refine seq_n hK1 ?_
  refine w_seq fun K2 hK2 => ?_
  refine w_reg gC ?_
  try simp only [W, Nat.reduceAdd]
  refine seq_n hK2 ?_
  refine w_seq fun K3 hK3 => ?_
  refine w_seq fun K4 hK4 => ?_
  refine w_draw0 gC (by kernel_rfl) ?_
  try simp only [W, EE, Nat.reduceAdd, Nat.reduceBEq, hS.var 0 rfl]
  refine seq_n hK4 ?_
  obtain ⟨y6, h, g7⟩ := Option.bind_eq_some_iff.1 h
  refine w_join gC (fun s H => ∃ x5 : Int, y6 = (x5) ∧ s = [.ptr i0 w0 0 0, u, u, .int .i64 x5, u, u, u, u, u, u, u, u, u, u, u, u, u, u, u, u, u, u, u, u, u, u, u, u, u, u, u, u, u, u, u, u, u, u, u, u, u, u, u, u, u, u, u, u, u, u, u, u, u, u, u, u, u, u, u, u, u, u] ∧ Own H (⟨.ptr i0 w0 0 0, 3, [.agg [.fz (a0.Code.map (AV.int .u8)), .int .i64 a0.At, .int .u64 a0.Seed]]⟩ :: F)) (fun K8 hK8 => ?_) (fun s H hq => ?_)
  · refine w_seq fun K9 hK9 => ?_
    refine w_if ?_
    simp only [W]
    refine w_cnd h (fun hc h => ?_) (fun hc h => ?_)
    · refine w_draw0 gC (by kernel_rfl) ?_
      try simp only [W, EE, Nat.reduceAdd, Nat.reduceBEq, hS.var 0 rfl]
      refine w_fz rfl rfl rfl (fun _ => rfl) h fun b10 hb10 h => ?_
      try simp only [W, EE]
      refine seq_n hK9 ?_
      refine w_kill ?_
      exact cut_n hK8 ⟨_, (Option.some.inj h).symm, rfl, hS⟩
    · refine w_skip ?_
      refine seq_n hK9 ?_
      refine w_kill ?_
      exact cut_n hK8 ⟨_, (Option.some.inj h).symm, rfl, hS⟩
  · obtain ⟨x5, ey, rfl, hS⟩ := hq; obtain rfl := ey.symm
    replace h := g7
    try dsimp only at h
    refine seq_n hK3 ?_
    refine w_seq fun K11 hK11 => ?_
    refine w_reg gC ?_
    try simp only [W, EE, Nat.reduceAdd, Nat.reduceBEq, hS.var 0 rfl]
    refine w_stv (a := .int .i64 (IntKind.i64.wrap (a0.At + 1))) (y' := .agg [.fz (a0.Code.map (AV.int .u8)), .int .i64 (IntKind.i64.wrap (a0.At + 1)), .int .u64 a0.Seed]) 0 hS rfl rfl rfl rfl rfl rfl rfl rfl fun H hS => ?_
    try simp only [W]
    refine seq_n hK11 ?_
    refine w_seq fun K12 hK12 => ?_
    refine w_reg gC ?_
    try simp only [W, EE, Nat.reduceAdd, Nat.reduceBEq, hS.var 0 rfl]
    refine w_stv (a := .int .u64 (IntKind.u64.wrap ((IntKind.u64.wrap ((IntKind.u64.wrap (a0.Seed * 6364136223846793005)) + (IntKind.u64.wrap x5))) + 1442695040888963407))) (y' := .agg [.fz (a0.Code.map (AV.int .u8)), .int .i64 (IntKind.i64.wrap (a0.At + 1)), .int .u64 (IntKind.u64.wrap ((IntKind.u64.wrap ((IntKind.u64.wrap (a0.Seed * 6364136223846793005)) + (IntKind.u64.wrap x5))) + 1442695040888963407))]) 0 hS rfl rfl rfl rfl rfl rfl rfl rfl fun H hS => ?_
    try simp only [W]
    refine seq_n hK12 ?_
    refine w_seq fun K13 hK13 => ?_
    refine w_seq fun K14 hK14 => ?_
    refine w_draw0 gC (by kernel_rfl) ?_
    try simp only [W, EE, Nat.reduceAdd, Nat.reduceBEq, hS.var 0 rfl]
    refine seq_n hK14 ?_
    refine w_if ?_
    simp only [W]
    refine w_cnd h (fun hc h => ?_) (fun hc h => ?_)
    · refine w_seq fun K15 hK15 => ?_
      refine w_reg gC ?_
      try simp only [W, Nat.reduceAdd]
      refine seq_n hK15 ?_
      refine w_ret ?_
      refine seq_r hK13 ?_
      refine fin_r1 hK0 rfl ?_
      try obtain rfl := Option.some.inj h
      exact hP _ hS
    · refine w_skip ?_
      refine seq_n hK13 ?_
      refine w_seq fun K16 hK16 => ?_
      refine w_reg gC ?_
      try simp only [W, EE, Nat.reduceAdd, Nat.reduceBEq, hS.var 0 rfl]
      rw [sr_lit _ _ _ rfl, Option.map_some, resV_s]
      try simp only [W, EE]
      refine seq_n hK16 ?_
      refine w_ret ?_
      refine fin_r1 hK0 rfl ?_
      try obtain rfl := Option.some.inj h
      exact hP _ hS
theorem spec_l1Cur_pick_w {a0 : L1Cur} {a1 : Int} {i0 : Nat} {w0 : Nat} {r : (Int × L1Cur)} (h : spec_l1Cur_pick a0 a1 = some r) {F : List It} {H : Heap} (hS : Own H (⟨.ptr i0 w0 0 0, 3, [.agg [.fz (a0.Code.map (AV.int .u8)), .int .i64 a0.At, .int .u64 a0.Seed]]⟩ :: F)) {P : AV → Heap → Prop} (hP : ∀ H', Own H' (⟨.ptr i0 w0 0 0, 3, [.agg [.fz (r.2.Code.map (AV.int .u8)), .int .i64 r.2.At, .int .u64 r.2.Seed]]⟩ :: F) → P (.int .i64 r.1) H') : ACall C 149 [.ptr i0 w0 0 0, .int .i64 a1] H P := by
  refine acall_of gC (res := [.tmp 4]) (n := 20) rfl rfl rfl rfl fun K0 hK0 => ?_
  simp only [W, Nat.reduceSub, Nat.reduceAdd, List.replicate]
  unfold spec_l1Cur_pick at h
  refine w_seq fun K1 hK1 => ?_
  refine w_reg gC ?_
  try simp only [W, Nat.reduceAdd]
  refine seq_n hK1 ?_
  refine w_seq fun K2 hK2 => ?_
  refine w_seq fun K3 hK3 => ?_
  refine w_reg gC ?_
  try simp only [W, EE, Nat.reduceAdd]
  refine seq_n hK3 ?_
  refine w_if ?_
  simp only [W]
  refine w_cnd h (fun hc h => ?_) (fun hc h => ?_)
  · refine w_seq fun K4 hK4 => ?_
    refine w_reg gC ?_
    try simp only [W, Nat.reduceAdd]
    refine seq_n hK4 ?_
    refine w_ret ?_
    refine seq_r hK2 ?_
    refine fin_r1 hK0 rfl ?_
    try obtain rfl := Option.some.inj h
    exact hP _ hS
  · refine w_skip ?_
    refine seq_n hK2 ?_
    refine w_seq fun K5 hK5 => ?_
    refine w_reg gC ?_
    try simp only [W, Nat.reduceAdd]
    refine w_call h fun b6 hb6 h => ?_
    obtain ⟨b7, b8⟩ := b6
    try dsimp only at h
    refine spec_l1Cur_next_w hb6 hS fun H hS => ?_
    try simp only [W]
    refine seq_n hK5 ?_
    refine w_seq fun K9 hK9 => ?_
    refine w_seq fun K10 hK10 => ?_
    refine w_reg gC ?_
    try simp only [W, EE, Nat.reduceAdd]
    refine seq_n hK10 ?_
    obtain ⟨y15, h, g16⟩ := Option.bind_eq_some_iff.1 h
    refine w_join gC (fun s H => ∃ x11 : Int, ∃ x12 : List Int, ∃ x13 : Int, ∃ x14 : Int, y15 = (x11, x12, x13, x14) ∧ s = [u, .int .i64 a1, u, u, u, .int .i64 x11, u, u, u, u, u, u, u, u, u, u, u, u, u, u] ∧ Own H (⟨.ptr i0 w0 0 0, 3, [.agg [.fz (x12.map (AV.int .u8)), .int .i64 x13, .int .u64 x14]]⟩ :: F)) (fun K17 hK17 => ?_) (fun s H hq => ?_)
    · refine w_seq fun K18 hK18 => ?_
      refine w_if ?_
      simp only [W]
      refine w_cnd h (fun hc h => ?_) (fun hc h => ?_)
      · refine w_reg gC ?_
        try simp only [W, EE, Nat.reduceAdd]
        refine w_call h fun b19 hb19 h => ?_
        obtain ⟨b20, b21⟩ := b19
        try dsimp only at h
        refine spec_l1Cur_next_w hb19 hS fun H hS => ?_
        try simp only [W, EE]
        refine seq_n hK18 ?_
        refine w_kill ?_
        exact cut_n hK17 ⟨_, _, _, _, (Option.some.inj h).symm, rfl, hS⟩
      · refine w_skip ?_
        refine seq_n hK18 ?_
        refine w_kill ?_
        exact cut_n hK17 ⟨_, _, _, _, (Option.some.inj h).symm, rfl, hS⟩
    · obtain ⟨x11, x12, x13, x14, rfl, rfl, hS⟩ := hq
      replace h := g16
      try dsimp only at h
      refine seq_n hK9 ?_
      refine w_seq fun K22 hK22 => ?_
      refine w_reg gC ?_
      try simp only [W, EE, Nat.reduceAdd]
      refine w_num _ h fun x23 hx23 h => ?_
      try simp only [W]
      refine seq_n hK22 ?_
      refine w_ret ?_
      refine fin_r1 hK0 rfl ?_
      try obtain rfl := Option.some.inj h
      exact hP _ hS
theorem spec_l1Cur_one_w {a0 : L1Cur} {a1 : Int} {i0 : Nat} {w0 : Nat} {r : (Bool × L1Cur)} (h : spec_l1Cur_one a0 a1 = some r) {F : List It} {H : Heap} (hS : Own H (⟨.ptr i0 w0 0 0, 3, [.agg [.fz (a0.Code.map (AV.int .u8)), .int .i64 a0.At, .int .u64 a0.Seed]]⟩ :: F)) {P : AV → Heap → Prop} (hP : ∀ H', Own H' (⟨.ptr i0 w0 0 0, 3, [.agg [.fz (r.2.Code.map (AV.int .u8)), .int .i64 r.2.At, .int .u64 r.2.Seed]]⟩ :: F) → P (.bool r.1) H') : ACall C 180 [.ptr i0 w0 0 0, .int .i64 a1] H P := by
  refine acall_of gC (res := [.tmp 4]) (n := 9) rfl rfl rfl rfl fun K0 hK0 => ?_
  simp only [W, Nat.reduceSub, Nat.reduceAdd, List.replicate]
  unfold spec_l1Cur_one at h
  refine w_seq fun K1 hK1 => ?_
  refine w_reg gC ?_
  try simp only [W, Nat.reduceAdd]
  refine seq_n hK1 ?_
  refine w_seq fun K2 hK2 => ?_
  refine w_reg gC ?_
  try simp only [W, Nat.reduceAdd]
  refine w_call h fun b3 hb3 h => ?_
  obtain ⟨b4, b5⟩ := b3
  try dsimp only at h
  refine spec_l1Cur_pick_w hb3 hS fun H hS => ?_
  try simp only [W, EE]
  refine seq_n hK2 ?_
  refine w_ret ?_
  refine fin_r1 hK0 rfl ?_
  try obtain rfl := Option.some.inj h
  exact hP _ hS
theorem spec_l1Cur_among_w {a0 : L1Cur} {a1 : List Int} {i0 : Nat} {w0 : Nat} {r : (Int × L1Cur)} (h : spec_l1Cur_among a0 a1 = some r) {F : List It} {H : Heap} (hS : Own H (⟨.ptr i0 w0 0 0, 3, [.agg [.fz (a0.Code.map (AV.int .u8)), .int .i64 a0.At, .int .u64 a0.Seed]]⟩ :: F)) {P : AV → Heap → Prop} (hP : ∀ H', Own H' (⟨.ptr i0 w0 0 0, 3, [.agg [.fz (r.2.Code.map (AV.int .u8)), .int .i64 r.2.At, .int .u64 r.2.Seed]]⟩ :: F) → P (.int .i64 r.1) H') : ACall C 134 [.ptr i0 w0 0 0, .fz (a1.map (AV.int .i64))] H P := by
  refine acall_of gC (res := [.tmp 4]) (n := 12) rfl rfl rfl rfl fun K0 hK0 => ?_
  simp only [W, Nat.reduceSub, Nat.reduceAdd, List.replicate]
  unfold spec_l1Cur_among at h
  refine w_seq fun K1 hK1 => ?_
  refine w_reg gC ?_
  try simp only [W, Nat.reduceAdd]
  refine seq_n hK1 ?_
  refine w_seq fun K2 hK2 => ?_
  refine w_reg gC ?_
  try simp only [W, EE, Nat.reduceAdd]
  refine w_call h fun b3 hb3 h => ?_
  obtain ⟨b4, b5⟩ := b3
  try dsimp only at h
  refine spec_l1Cur_pick_w hb3 hS fun H hS => ?_
  try simp only [W, EE]
  refine w_fz rfl rfl rfl (fun _ => rfl) h fun b6 hb6 h => ?_
  try simp only [W, EE]
  refine seq_n hK2 ?_
  refine w_ret ?_
  refine fin_r1 hK0 rfl ?_
  try obtain rfl := Option.some.inj h
  exact hP _ hS
theorem spec_l1Cur_seen_w {a0 : L1Cur} {i0 : Nat} {w0 : Nat} {r : (Seen × L1Cur)} (h : spec_l1Cur_seen a0 = some r) {F : List It} {H : Heap} (hS : Own H (⟨.ptr i0 w0 0 0, 3, [.agg [.fz (a0.Code.map (AV.int .u8)), .int .i64 a0.At, .int .u64 a0.Seed]]⟩ :: F)) {P : AV → Heap → Prop} (hP : ∀ H', Own H' (⟨.ptr i0 w0 0 0, 3, [.agg [.fz (r.2.Code.map (AV.int .u8)), .int .i64 r.2.At, .int .u64 r.2.Seed]]⟩ :: F) → P (.agg [.int .i64 r.1.Took, .bool r.1.Twice, .bool r.1.Lost]) H') : ACall C 127 [.ptr i0 w0 0 0] H P := by
  refine acall_of gC (res := [.cell 2 76]) (n := 26) rfl rfl rfl rfl fun K0 hK0 => ?_
  simp only [W, Nat.reduceSub, Nat.reduceAdd, List.replicate]
  unfold spec_l1Cur_seen at h
  refine w_seq fun K1 hK1 => ?_
  refine w_reg gC ?_
  try simp only [W, Nat.reduceAdd]
  refine w_alloc hS rfl rfl fun ip2 wp2 H hS => ?_
  try simp only [W]
  refine seq_n hK1 ?_
  refine w_seq fun K4 hK4 => ?_
  refine w_seq fun K5 hK5 => ?_
  refine w_reg gC ?_
  try simp only [W, Nat.reduceAdd]
  refine w_call h fun b6 hb6 h => ?_
  obtain ⟨b7, b8⟩ := b6
  try dsimp only at h
  refine spec_l1Cur_pick_w hb6 (hS.sel 2 [1, 0] (by decide)) fun H hS => ?_
  try simp only [W]
  refine seq_n hK5 ?_
  refine w_blk fun K9 hK9 => ?_
  refine w_seq fun K10 hK10 => ?_
  refine w_reg gC ?_
  try simp only [W, EE, Nat.reduceAdd]
  refine seq_n hK10 ?_
  refine w_if ?_
  simp only [W]
  refine w_cnd h (fun hc h => ?_) (fun hc h => ?_)
  · refine w_seq fun K11 hK11 => ?_
    refine w_reg gC ?_
    try simp only [W, Nat.reduceAdd]
    refine w_call h fun b12 hb12 h => ?_
    obtain ⟨b13, b14⟩ := b12
    try dsimp only at h
    refine spec_l1Cur_pick_w hb12 hS fun H hS => ?_
    try simp only [W, EE]
    rw [dv_lit _ _ _ rfl, Option.map_some, resV_s]
    try simp only [W]
    refine w_call h fun b15 hb15 h => ?_
    obtain ⟨b16, b17⟩ := b15
    try dsimp only at h
    refine spec_l1Cur_one_w hb15 hS fun H hS => ?_
    try simp only [W, EE]
    refine w_bld rfl rfl rfl rfl rfl ?_
    try simp only [W]
    refine w_stv (a := .agg [.int .i64 (IntKind.i64.wrap (Int.tdiv b13 8)), .bool b16, .bool true]) (y' := .agg [.int .i64 (IntKind.i64.wrap (Int.tdiv b13 8)), .bool b16, .bool true]) 1 hS rfl rfl rfl rfl rfl rfl rfl rfl fun H hS => ?_
    try simp only [W]
    refine seq_n hK11 ?_
    refine w_ret ?_
    refine blk_r hK9 ?_
    refine seq_r hK4 ?_
    refine fin_r hK0 (res_c rfl rfl (hS.var 1 rfl) rfl rfl) ?_
    try obtain rfl := Option.some.inj h
    exact hP _ (hS.sel 2 [0] (by decide))
  · refine w_seq fun K18 hK18 => ?_
    refine w_reg gC ?_
    try simp only [W, EE, Nat.reduceAdd]
    refine seq_n hK18 ?_
    refine w_if ?_
    simp only [W]
    refine w_cnd h (fun hc h => ?_) (fun hc h => ?_)
    · refine w_seq fun K19 hK19 => ?_
      refine w_reg gC ?_
      try simp only [W, Nat.reduceAdd]
      refine w_call h fun b20 hb20 h => ?_
      obtain ⟨b21, b22⟩ := b20
      try dsimp only at h
      refine spec_l1Cur_pick_w hb20 hS fun H hS => ?_
      try simp only [W, EE]
      refine w_bld rfl rfl rfl rfl rfl ?_
      try simp only [W]
      refine w_stv (a := .agg [.int .i64 b21, .bool true, .bool false]) (y' := .agg [.int .i64 b21, .bool true, .bool false]) 1 hS rfl rfl rfl rfl rfl rfl rfl rfl fun H hS => ?_
      try simp only [W]
      refine seq_n hK19 ?_
      refine w_ret ?_
      refine blk_r hK9 ?_
      refine seq_r hK4 ?_
      refine fin_r hK0 (res_c rfl rfl (hS.var 1 rfl) rfl rfl) ?_
      try obtain rfl := Option.some.inj h
      exact hP _ (hS.sel 2 [0] (by decide))
    · refine w_skip ?_
      refine blk_n0 hK9 ?_
      refine seq_n hK4 ?_
      refine w_seq fun K23 hK23 => ?_
      refine w_regF (fz := [(6, [([23], [.sl [.sc]])])]) gC ?_
      try simp only [W, Nat.reduceAdd, Nat.reduceBEq]
      refine w_call h fun b24 hb24 h => ?_
      obtain ⟨b25, b26⟩ := b24
      try dsimp only at h
      refine spec_l1Cur_pick_w hb24 hS fun H hS => ?_
      try simp only [W, EE, Nat.reduceAdd, Nat.reduceBEq]
      rw [dv_lit _ _ _ rfl, Option.map_some, resV_s]
      try simp only [W, EE, Nat.reduceAdd, Nat.reduceBEq]
      refine w_lit (el := ([0, 5, 10, 11, 12, 20, 100, 1000, (IntKind.i64.wrap (1000 + (IntKind.i64.wrap (Int.tdiv b25 8))))] : List Int).map (AV.int .i64)) hS rfl rfl rfl rfl rfl rfl rfl fun v27 H qv27 hS => ?_
      try simp only [W, Nat.reduceAdd]
      refine FZ_own 0 hS rfl qv27 rfl (fun _ _ => by simp [takeE, takeT, plainA]) (fun _ => rfl) fun H hsame hS => ?_
      try simp only [W]
      refine w_call h fun b29 hb29 h => ?_
      obtain ⟨b30, b31⟩ := b29
      try dsimp only at h
      refine spec_l1Cur_among_w hb29 hS fun H hS => ?_
      try simp only [W, EE, Nat.reduceAdd, Nat.reduceBEq]
      refine w_bld rfl rfl rfl rfl rfl ?_
      try simp only [W, Nat.reduceAdd, Nat.reduceBEq]
      refine w_stv (a := .agg [.int .i64 b30, .bool false, .bool false]) (y' := .agg [.int .i64 b30, .bool false, .bool false]) 1 hS rfl rfl rfl rfl rfl rfl rfl rfl fun H hS => ?_
      try simp only [W, Nat.reduceAdd]
      refine seq_n hK23 ?_
      refine w_ret ?_
      refine fin_r hK0 (res_c rfl rfl (hS.var 1 rfl) rfl rfl) ?_
      try obtain rfl := Option.some.inj h
      exact hP _ (hS.sel 2 [0] (by decide))
theorem spec_l1Cur_allSeen_w {a0 : L1Cur} {i0 : Nat} {w0 : Nat} {r : (List Seen × L1Cur)} (h : spec_l1Cur_allSeen a0 = some r) {F : List It} {H : Heap} (hS : Own H (⟨.ptr i0 w0 0 0, 3, [.agg [.fz (a0.Code.map (AV.int .u8)), .int .i64 a0.At, .int .u64 a0.Seed]]⟩ :: F)) {P : AV → Heap → Prop} (hP : ∀ v59 : AV, isSl v59 → ∀ H', Own H' (⟨v59, 3, r.1.map e_Seen⟩ :: ⟨.ptr i0 w0 0 0, 3, [.agg [.fz (r.2.Code.map (AV.int .u8)), .int .i64 r.2.At, .int .u64 r.2.Seed]]⟩ :: F) → P (v59) H') : ACall C 135 [.ptr i0 w0 0 0] H P := by
  refine acall_of gC (res := [.tmp 2]) (n := 22) rfl rfl rfl rfl fun K0 hK0 => ?_
  simp only [W, Nat.reduceSub, Nat.reduceAdd, List.replicate]
  unfold spec_l1Cur_allSeen at h
  refine w_seq fun K1 hK1 => ?_
  refine w_reg gC ?_
  try simp only [W, Nat.reduceAdd]
  refine seq_n hK1 ?_
  refine w_seq fun K2 hK2 => ?_
  refine w_reg gC ?_
  try simp only [W, Nat.reduceAdd]
  refine seq_n hK2 ?_
  refine w_seq fun K3 hK3 => ?_
  refine w_reg gC ?_
  try simp only [W, Nat.reduceAdd]
  refine w_call h fun b4 hb4 h => ?_
  obtain ⟨b5, b6⟩ := b4
  try dsimp only at h
  refine spec_l1Cur_pick_w hb4 hS fun H hS => ?_
  try simp only [W]
  refine seq_n hK3 ?_
  refine w_seq fun K7 hK7 => ?_
  refine w_seq fun K8 hK8 => ?_
  refine w_reg gC ?_
  try simp only [W, Nat.reduceAdd]
  refine w_call h fun b9 hb9 h => ?_
  obtain ⟨b10, b11⟩ := b9
  try dsimp only at h
  refine spec_l1Cur_one_w hb9 hS fun H hS => ?_
  try simp only [W]
  refine seq_n hK8 ?_
  obtain ⟨y16, h, g17⟩ := Option.bind_eq_some_iff.1 h
  refine w_join gC (fun s H => ∃ x12 : Int, ∃ x13 : List Int, ∃ x14 : Int, ∃ x15 : Int, y16 = (x12, x13, x14, x15) ∧ s = [.ptr i0 w0 0 0, u, u, .nil, .int .i64 x12, u, u, u, u, u, u, u, u, u, u, u, u, u, u, u, u, u] ∧ Own H (⟨.ptr i0 w0 0 0, 3, [.agg [.fz (x13.map (AV.int .u8)), .int .i64 x14, .int .u64 x15]]⟩ :: F)) (fun K18 hK18 => ?_) (fun s H hq => ?_)
  · refine w_seq fun K19 hK19 => ?_
    refine w_if ?_
    simp only [W]
    refine w_cnd h (fun hc h => ?_) (fun hc h => ?_)
    · refine w_reg gC ?_
      try simp only [W, Nat.reduceAdd]
      refine w_call h fun b20 hb20 h => ?_
      obtain ⟨b21, b22⟩ := b20
      try dsimp only at h
      refine spec_l1Cur_pick_w hb20 hS fun H hS => ?_
      try simp only [W, EE]
      refine seq_n hK19 ?_
      refine w_kill ?_
      exact cut_n hK18 ⟨_, _, _, _, (Option.some.inj h).symm, rfl, hS⟩
    · refine w_skip ?_
      refine seq_n hK19 ?_
      refine w_kill ?_
      exact cut_n hK18 ⟨_, _, _, _, (Option.some.inj h).symm, rfl, hS⟩
  · obtain ⟨x12, x13, x14, x15, rfl, rfl, hS⟩ := hq
    replace h := g17
    try dsimp only at h
    refine seq_n hK7 ?_
    refine w_seq fun K23 hK23 => ?_
    obtain ⟨y36, hw37, g43⟩ := Option.bind_eq_some_iff.1 h
    refine w_join gC (fun s H => ∃ x31 : List Seen, ∃ x33 : List Int, ∃ x34 : Int, ∃ x35 : Int, y36 = (x31, x33, x34, x35) ∧ ∃ v32 : AV, isSl v32 ∧ s = [u, u, u, v32, u, u, u, u, u, u, u, u, u, u, u, u, u, u, u, u, u, u] ∧ Own H (⟨v32, 3, x31.map e_Seen⟩ :: ⟨.ptr i0 w0 0 0, 3, [.agg [.fz (x33.map (AV.int .u8)), .int .i64 x34, .int .u64 x35]]⟩ :: F)) (fun K38 hK38 => ?_) (fun s H hq => ?_)
    · refine w_blk fun K39 hK39 => ?_
      refine w_loop gC hw37 (fun x s H => match x with | (x24, x27, x28, x29, x30) => ∃ v25 : AV, isSl v25 ∧ s = [.ptr i0 w0 0 0, u, u, v25, .int .i64 x27, u, u, u, u, u, u, u, u, u, u, u, u, u, u, u, u, u] ∧ Own H (⟨v25, 3, x24.map e_Seen⟩ :: ⟨.ptr i0 w0 0 0, 3, [.agg [.fz (x28.map (AV.int .u8)), .int .i64 x29, .int .u64 x30]]⟩ :: F)) ⟨_, isSl_nil, rfl, (hS.nil_ 3)⟩ (fun x y42 s H h hd41 hi K40 hK40 => ?_)
      obtain ⟨x24, x27, x28, x29, x30⟩ := x
      try dsimp only at hi
      obtain ⟨v25, qv25, rfl, hS⟩ := hi
      simp only [spec_l1Cur_allSeen_l0] at h
      refine w_seq fun K44 hK44 => ?_
      refine w_seq fun K45 hK45 => ?_
      refine w_reg gC ?_
      try simp only [W, EE, Nat.reduceAdd]
      refine seq_n hK45 ?_
      refine w_if ?_
      simp only [W]
      refine w_cnd h (fun hc h => ?_) (fun hc h => ?_)
      · refine w_skip ?_
        refine seq_n hK44 ?_
        refine w_seq fun K46 hK46 => ?_
        refine w_blk fun K47 hK47 => ?_
        refine w_reg gC ?_
        try simp only [W, Nat.reduceAdd]
        refine w_call h fun b48 hb48 h => ?_
        obtain ⟨b49, b50⟩ := b48
        try dsimp only at h
        refine spec_l1Cur_seen_w hb48 (hS.sel 2 [1, 0] (by decide)) fun H hS => ?_
        try simp only [W]
        refine w_lit (el := ([b49] : List Seen).map e_Seen) hS rfl rfl rfl rfl rfl rfl rfl fun v51 H qv51 hS => ?_
        try simp only [W, EE]
        refine w_appV (l := x24) (c := e_Seen) 2 hS rfl qv25 rfl rfl rfl (hS.elems 0 rfl qv51) (fun _ => rfl) rfl h fun v54 H x53 qv54 hm h hS => ?_
        try simp only [W]
        refine blk_n0 hK47 ?_
        refine seq_n hK46 ?_
        refine w_reg gC ?_
        try simp only [W, EE, Nat.reduceAdd]
        exact lp_n hK40 h ⟨_, qv54, rfl, (hS.sel 3 [2, 1] (by decide))⟩
      · refine w_exit ?_
        refine seq_x hK44 ?_
        try obtain rfl := Option.some.inj h
        obtain rfl := hd41 _ rfl
        have h : (some (x24, x28, x29, x30) : Option ((List Seen) × (List Int) × Int × Int)) = some (x24, x28, x29, x30) := rfl
        refine lp_x hK40 ?_
        refine blk_e hK39 ?_
        exact cut_n hK38 ⟨_, _, _, _, (Option.some.inj h).symm, _, qv25, rfl, hS⟩
    · obtain ⟨x31, x33, x34, x35, rfl, v32, qv32, rfl, hS⟩ := hq
      replace h := g43
      try dsimp only at h
      refine seq_n hK23 ?_
      refine w_seq fun K58 hK58 => ?_
      refine w_reg gC ?_
      try simp only [W, Nat.reduceAdd]
      refine seq_n hK58 ?_
      refine w_ret ?_
      refine fin_r1 hK0 rfl ?_
      try obtain rfl := Option.some.inj h
      exact hP _ qv32 _ hS
theorem spec_l1In_w {a0 : Int} {a1 : Int} {a2 : Int} {r : (Bool)} (h : spec_l1In a0 a1 a2 = some r) {F : List It} {H : Heap} (hS : Own H (F)) {P : AV → Heap → Prop} (hP : ∀ H', Own H' (F) → P (.bool r) H') : ACall C 86 [.int .i64 a0, .int .i64 a1, .int .i64 a2] H P := by
  refine acall_of gC (res := [.tmp 6]) (n := 15) rfl rfl rfl rfl fun K0 hK0 => ?_
  simp only [W, Nat.reduceSub, Nat.reduceAdd, List.replicate]
  unfold spec_l1In at h
  refine w_seq fun K1 hK1 => ?_
  refine w_reg gC ?_
  try simp only [W, Nat.reduceAdd]
  refine seq_n hK1 ?_
  refine w_seq fun K2 hK2 => ?_
  refine w_reg gC ?_
  try simp only [W, EE, Nat.reduceAdd]
  refine w_grdT h (fun hc h => ?_) (fun hc h => ?_)
  · try simp only [W, EE, reduceIte, hc]
    refine seq_n hK2 ?_
    refine w_ret ?_
    refine fin_r1 hK0 rfl ?_
    try obtain rfl := Option.some.inj h
    exact hP _ hS
  · try simp only [W, hc]
    refine seq_n hK2 ?_
    refine w_ret ?_
    refine fin_r1 hK0 rfl ?_
    try obtain rfl := Option.some.inj h
    exact hP _ hS
theorem spec_NewGuess_w {a0 : Int} {r : (Guess × Bool)} (h : spec_NewGuess a0 = some r) {F : List It} {H : Heap} (hS : Own H (F)) {P : AV → Heap → Prop} (hP : ∀ H', Own H' (F) → P (.tup [.agg [.int .i64 r.1.Mean, .int .i64 r.1.Swing, .int .i64 r.1.Many, .int .i64 r.1.Back], .bool r.2]) H') : ACall C 56 [.int .i64 a0] H P := by
  refine acall_of gC (res := [.cell 2 74, .tmp 3]) (n := 13) rfl rfl rfl rfl fun K0 hK0 => ?_
  simp only [W, Nat.reduceSub, Nat.reduceAdd, List.replicate]
  unfold spec_NewGuess at h
  refine w_seq fun K1 hK1 => ?_
  refine w_reg gC ?_
  try simp only [W, Nat.reduceAdd]
  refine w_alloc hS rfl rfl fun ip2 wp2 H hS => ?_
  try simp only [W]
  refine seq_n hK1 ?_
  refine w_seq fun K4 hK4 => ?_
  refine w_seq fun K5 hK5 => ?_
  refine w_reg gC ?_
  try simp only [W, Nat.reduceAdd]
  refine w_call h fun b6 hb6 h => ?_
  refine spec_l1In_w hb6 hS fun H hS => ?_
  try simp only [W]
  refine seq_n hK5 ?_
  refine w_if ?_
  simp only [W]
  refine w_cnd h (fun hc h => ?_) (fun hc h => ?_)
  · refine w_seq fun K7 hK7 => ?_
    refine w_reg gC ?_
    try simp only [W, EE, Nat.reduceAdd]
    refine w_bld rfl rfl rfl rfl rfl ?_
    try simp only [W]
    refine w_stv (a := .agg [.int .i64 0, .int .i64 0, .int .i64 0, .int .i64 0]) (y' := .agg [.int .i64 0, .int .i64 0, .int .i64 0, .int .i64 0]) 0 hS rfl rfl rfl rfl rfl rfl rfl rfl fun H hS => ?_
    try simp only [W]
    refine seq_n hK7 ?_
    refine w_ret ?_
    refine seq_r hK4 ?_
    refine fin_r hK0 (res_c rfl rfl (hS.var 0 rfl) rfl (res_tc rfl rfl)) ?_
    try obtain rfl := Option.some.inj h
    exact hP _ (hS.sel 1 [] (by decide))
  · refine w_skip ?_
    refine seq_n hK4 ?_
    refine w_seq fun K8 hK8 => ?_
    refine w_reg gC ?_
    try simp only [W, EE, Nat.reduceAdd]
    refine w_bld rfl rfl rfl rfl rfl ?_
    try simp only [W]
    refine w_stv (a := .agg [.int .i64 (IntKind.i64.wrap (8 * a0)), .int .i64 (IntKind.i64.wrap (2 * a0)), .int .i64 1, .int .i64 0]) (y' := .agg [.int .i64 (IntKind.i64.wrap (8 * a0)), .int .i64 (IntKind.i64.wrap (2 * a0)), .int .i64 1, .int .i64 0]) 0 hS rfl rfl rfl rfl rfl rfl rfl rfl fun H hS => ?_
    try simp only [W]
    refine seq_n hK8 ?_
    refine w_ret ?_
    refine fin_r hK0 (res_c rfl rfl (hS.var 0 rfl) rfl (res_tc rfl rfl)) ?_
    try obtain rfl := Option.some.inj h
    exact hP _ (hS.sel 1 [] (by decide))
theorem spec_l9Seen_w {a0 : Seen} {r : (Bool)} (h : spec_l9Seen a0 = some r) {F : List It} {H : Heap} (hS : Own H (F)) {P : AV → Heap → Prop} (hP : ∀ H', Own H' (F) → P (.bool r) H') : ACall C 131 [.agg [.int .i64 a0.Took, .bool a0.Twice, .bool a0.Lost]] H P := by
  refine acall_of gC (res := [.tmp 2]) (n := 21) rfl rfl rfl rfl fun K0 hK0 => ?_
  simp only [W, Nat.reduceSub, Nat.reduceAdd, List.replicate]
  unfold spec_l9Seen at h
  refine w_seq fun K1 hK1 => ?_
  refine w_reg gC ?_
  try simp only [W, Nat.reduceAdd]
  refine w_box hS rfl rfl rfl rfl fun ip2 wp2 H hS => ?_
  try simp only [W]
  refine seq_n hK1 ?_
  refine w_seq fun K4 hK4 => ?_
  refine w_reg gC ?_
  try simp only [W, EE, Nat.reduceAdd, Nat.reduceBEq, hS.var 0 rfl]
  refine w_call h fun b5 hb5 h => ?_
  refine spec_l1In_w hb5 hS fun H hS => ?_
  try simp only [W]
  refine w_grdT h (fun hc h => ?_) (fun hc h => ?_)
  · try simp only [W, EE, Nat.reduceAdd, Nat.reduceBEq, hS.var 0 rfl, hc]
    refine w_grdT h (fun hc h => ?_) (fun hc h => ?_)
    · try simp only [W, reduceIte, hc]
      refine seq_n hK4 ?_
      refine w_ret ?_
      refine fin_r1 hK0 rfl ?_
      try obtain rfl := Option.some.inj h
      exact hP _ (hS.sel 1 [] (by decide))
    · try simp only [W, EE, Nat.reduceAdd, Nat.reduceBEq, hS.var 0 rfl, hc]
      refine w_grdT h (fun hc h => ?_) (fun hc h => ?_)
      · try simp only [W, EE, reduceIte, Nat.reduceAdd, Nat.reduceBEq, Bool.false_eq_true, hS.var 0 rfl, hc]
        refine seq_n hK4 ?_
        refine w_ret ?_
        refine fin_r1 hK0 rfl ?_
        try obtain rfl := Option.some.inj h
        exact hP _ (hS.sel 1 [] (by decide))
      · try simp only [W, reduceIte, Bool.false_eq_true, hc]
        refine seq_n hK4 ?_
        refine w_ret ?_
        refine fin_r1 hK0 rfl ?_
        try obtain rfl := Option.some.inj h
        exact hP _ (hS.sel 1 [] (by decide))
  · try simp only [W, hc]
    refine seq_n hK4 ?_
    refine w_ret ?_
    refine fin_r1 hK0 rfl ?_
    try obtain rfl := Option.some.inj h
    exact hP _ (hS.sel 1 [] (by decide))
theorem spec_l1Least_w {a0 : Int} {a1 : Int} {r : (Int)} (h : spec_l1Least a0 a1 = some r) {F : List It} {H : Heap} (hS : Own H (F)) {P : AV → Heap → Prop} (hP : ∀ H', Own H' (F) → P (.int .i64 r) H') : ACall C 181 [.int .i64 a0, .int .i64 a1] H P := by
  refine acall_of gC (res := [.tmp 4]) (n := 10) rfl rfl rfl rfl fun K0 hK0 => ?_
  simp only [W, Nat.reduceSub, Nat.reduceAdd, List.replicate]
  unfold spec_l1Least at h
  refine w_seq fun K1 hK1 => ?_
  refine w_reg gC ?_
  try simp only [W, Nat.reduceAdd]
  refine seq_n hK1 ?_
  refine w_seq fun K2 hK2 => ?_
  refine w_seq fun K3 hK3 => ?_
  refine w_reg gC ?_
  try simp only [W, EE, Nat.reduceAdd]
  refine seq_n hK3 ?_
  refine w_if ?_
  simp only [W]
  refine w_cnd h (fun hc h => ?_) (fun hc h => ?_)
  · refine w_seq fun K4 hK4 => ?_
    refine w_reg gC ?_
    try simp only [W, Nat.reduceAdd]
    refine seq_n hK4 ?_
    refine w_ret ?_
    refine seq_r hK2 ?_
    refine fin_r1 hK0 rfl ?_
    try obtain rfl := Option.some.inj h
    exact hP _ hS
  · refine w_skip ?_
    refine seq_n hK2 ?_
    refine w_seq fun K5 hK5 => ?_
    refine w_reg gC ?_
    try simp only [W, Nat.reduceAdd]
    refine seq_n hK5 ?_
    refine w_ret ?_
    refine fin_r1 hK0 rfl ?_
    try obtain rfl := Option.some.inj h
    exact hP _ hS
theorem spec_l9See_w {a0 : Guess} {a1 : Seen} {r : (Guess)} (h : spec_l9See a0 a1 = some r) {F : List It} {H : Heap} (hS : Own H (F)) {P : AV → Heap → Prop} (hP : ∀ H', Own H' (F) → P (.agg [.int .i64 r.Mean, .int .i64 r.Swing, .int .i64 r.Many, .int .i64 r.Back]) H') : ACall C 132 [.agg [.int .i64 a0.Mean, .int .i64 a0.Swing, .int .i64 a0.Many, .int .i64 a0.Back], .agg [.int .i64 a1.Took, .bool a1.Twice, .bool a1.Lost]] H P := by
  refine acall_of gC (res := [.cell 4 74]) (n := 48) rfl rfl rfl rfl fun K0 hK0 => ?_
  simp only [W, Nat.reduceSub, Nat.reduceAdd, List.replicate]
  unfold spec_l9See at h
  refine w_seq fun K1 hK1 => ?_
  refine w_reg gC ?_
  try simp only [W, Nat.reduceAdd]
  refine w_box hS rfl rfl rfl rfl fun ip2 wp2 H hS => ?_
  try simp only [W]
  refine w_box hS rfl rfl rfl rfl fun ip4 wp4 H hS => ?_
  try simp only [W]
  refine w_alloc hS rfl rfl fun ip6 wp6 H hS => ?_
  try simp only [W]
  refine seq_n hK1 ?_
  refine w_seq fun K8 hK8 => ?_
  refine w_seq fun K9 hK9 => ?_
  refine w_reg gC ?_
  try simp only [W, EE, Nat.reduceAdd, Nat.reduceBEq, hS.var 1 rfl]
  refine seq_n hK9 ?_
  refine w_if ?_
  simp only [W]
  refine w_cnd h (fun hc h => ?_) (fun hc h => ?_)
  · refine w_seq fun K10 hK10 => ?_
    refine w_reg gC ?_
    try simp only [W, EE, Nat.reduceAdd, Nat.reduceBEq, hS.var 2 rfl]
    refine w_call h fun b11 hb11 h => ?_
    refine spec_l1Least_w hb11 hS fun H hS => ?_
    try simp only [W, EE, Nat.reduceAdd, Nat.reduceBEq, hS.var 2 rfl]
    refine w_stv (a := .int .i64 b11) (y' := .agg [.int .i64 a0.Mean, .int .i64 a0.Swing, .int .i64 a0.Many, .int .i64 b11]) 2 hS rfl rfl rfl rfl rfl rfl rfl rfl fun H hS => ?_
    try simp only [W]
    refine seq_n hK10 ?_
    refine w_seq fun K12 hK12 => ?_
    refine w_reg gC ?_
    try simp only [W, EE, reduceIte, Nat.reduceAdd, Nat.reduceLeDiff, hS.var 2 rfl]
    refine w_stv (a := .agg [.int .i64 a0.Mean, .int .i64 a0.Swing, .int .i64 a0.Many, .int .i64 b11]) (y' := .agg [.int .i64 a0.Mean, .int .i64 a0.Swing, .int .i64 a0.Many, .int .i64 b11]) 0 hS rfl rfl rfl rfl rfl rfl rfl rfl fun H hS => ?_
    try simp only [W]
    refine seq_n hK12 ?_
    refine w_ret ?_
    refine seq_r hK8 ?_
    refine fin_r hK0 (res_c rfl rfl (hS.var 0 rfl) rfl rfl) ?_
    try obtain rfl := Option.some.inj h
    exact hP _ (hS.sel 3 [] (by decide))
  · refine w_skip ?_
    refine seq_n hK8 ?_
    refine w_seq fun K13 hK13 => ?_
    refine w_reg gC ?_
    try simp only [W, EE, Nat.reduceAdd, Nat.reduceBEq, hS.var 2 rfl]
    refine w_call h fun b14 hb14 h => ?_
    refine spec_l1Least_w hb14 hS fun H hS => ?_
    try simp only [W, EE, Nat.reduceAdd, Nat.reduceBEq, hS.var 2 rfl]
    refine w_stv (a := .int .i64 b14) (y' := .agg [.int .i64 a0.Mean, .int .i64 a0.Swing, .int .i64 b14, .int .i64 a0.Back]) 2 hS rfl rfl rfl rfl rfl rfl rfl rfl fun H hS => ?_
    try simp only [W]
    refine seq_n hK13 ?_
    refine w_seq fun K15 hK15 => ?_
    refine w_seq fun K16 hK16 => ?_
    refine w_reg gC ?_
    try simp only [W, EE, Nat.reduceAdd, Nat.reduceBEq, hS.var 1 rfl]
    refine seq_n hK16 ?_
    refine w_if ?_
    simp only [W]
    refine w_cnd h (fun hc h => ?_) (fun hc h => ?_)
    · refine w_seq fun K17 hK17 => ?_
      refine w_reg gC ?_
      try simp only [W, EE, reduceIte, Nat.reduceAdd, Nat.reduceLeDiff, hS.var 2 rfl]
      refine w_stv (a := .agg [.int .i64 a0.Mean, .int .i64 a0.Swing, .int .i64 b14, .int .i64 a0.Back]) (y' := .agg [.int .i64 a0.Mean, .int .i64 a0.Swing, .int .i64 b14, .int .i64 a0.Back]) 0 hS rfl rfl rfl rfl rfl rfl rfl rfl fun H hS => ?_
      try simp only [W]
      refine seq_n hK17 ?_
      refine w_ret ?_
      refine seq_r hK15 ?_
      refine fin_r hK0 (res_c rfl rfl (hS.var 0 rfl) rfl rfl) ?_
      try obtain rfl := Option.some.inj h
      exact hP _ (hS.sel 3 [] (by decide))
    · refine w_skip ?_
      refine seq_n hK15 ?_
      refine w_seq fun K18 hK18 => ?_
      refine w_reg gC ?_
      try simp only [W, EE, Nat.reduceAdd, Nat.reduceBEq, hS.var 2 rfl]
      refine w_stv (a := .int .i64 0) (y' := .agg [.int .i64 a0.Mean, .int .i64 a0.Swing, .int .i64 b14, .int .i64 0]) 2 hS rfl rfl rfl rfl rfl rfl rfl rfl fun H hS => ?_
      try simp only [W]
      refine seq_n hK18 ?_
      refine w_seq fun K19 hK19 => ?_
      refine w_reg gC ?_
      try simp only [W, EE, Nat.reduceAdd, Nat.reduceBEq, hS.var 2 rfl, hS.var 1 rfl]
      rw [dv_lit _ _ _ rfl, Option.map_some, resV_s]
      try simp only [W, EE]
      refine seq_n hK19 ?_
      refine w_seq fun K20 hK20 => ?_
      refine w_reg gC ?_
      try simp only [W, EE, Nat.reduceAdd, Nat.reduceBEq, hS.var 2 rfl]
      refine w_stv (a := .int .i64 (IntKind.i64.wrap (a0.Mean + (IntKind.i64.wrap (a1.Took - (IntKind.i64.wrap (Int.tdiv a0.Mean 8))))))) (y' := .agg [.int .i64 (IntKind.i64.wrap (a0.Mean + (IntKind.i64.wrap (a1.Took - (IntKind.i64.wrap (Int.tdiv a0.Mean 8)))))), .int .i64 a0.Swing, .int .i64 b14, .int .i64 0]) 2 hS rfl rfl rfl rfl rfl rfl rfl rfl fun H hS => ?_
      try simp only [W]
      refine seq_n hK20 ?_
      refine w_seq fun K21 hK21 => ?_
      refine w_seq fun K22 hK22 => ?_
      refine w_reg gC ?_
      try simp only [W, EE, Nat.reduceAdd]
      refine seq_n hK22 ?_
      obtain ⟨y24, h, g25⟩ := Option.bind_eq_some_iff.1 h
      refine w_join gC (fun s H => ∃ x23 : Int, y24 = (x23) ∧ s = [u, u, .ptr ip2 wp2 0 0, u, .ptr ip6 wp6 0 0, .int .i64 x23, u, u, u, u, u, u, u, u, u, u, u, u, u, u, u, u, u, u, u, u, u, u, u, u, u, u, u, u, u, u, u, u, u, u, u, u, u, u, u, u, u, u] ∧ Own H (⟨.ptr ip2 wp2 0 0, 4, [.agg [.int .i64 (IntKind.i64.wrap (a0.Mean + (IntKind.i64.wrap (a1.Took - (IntKind.i64.wrap (Int.tdiv a0.Mean 8)))))), .int .i64 a0.Swing, .int .i64 b14, .int .i64 0]]⟩ :: ⟨.ptr ip6 wp6 0 0, 4, [.agg [.int .i64 0, .int .i64 0, .int .i64 0, .int .i64 0]]⟩ :: F)) (fun K26 hK26 => ?_) (fun s H hq => ?_)
      · refine w_seq fun K27 hK27 => ?_
        refine w_if ?_
        simp only [W]
        refine w_cnd h (fun hc h => ?_) (fun hc h => ?_)
        · refine w_reg gC ?_
          try simp only [W, Nat.reduceAdd]
          refine seq_n hK27 ?_
          refine w_kill ?_
          exact cut_n hK26 ⟨_, (Option.some.inj h).symm, rfl, (hS.sel 3 [2, 0] (by decide))⟩
        · refine w_skip ?_
          refine seq_n hK27 ?_
          refine w_kill ?_
          exact cut_n hK26 ⟨_, (Option.some.inj h).symm, rfl, (hS.sel 3 [2, 0] (by decide))⟩
      · obtain ⟨x23, ey, rfl, hS⟩ := hq; obtain rfl := ey.symm
        replace h := g25
        try dsimp only at h
        refine seq_n hK21 ?_
        refine w_seq fun K28 hK28 => ?_
        refine w_reg gC ?_
        try simp only [W, EE, Nat.reduceAdd, Nat.reduceBEq, hS.var 0 rfl]
        rw [dv_lit _ _ _ rfl, Option.map_some, resV_s]
        try simp only [W, EE, Nat.reduceAdd, Nat.reduceBEq, hS.var 0 rfl]
        refine w_stv (a := .int .i64 (IntKind.i64.wrap (a0.Swing + (IntKind.i64.wrap (x23 - (IntKind.i64.wrap (Int.tdiv a0.Swing 4))))))) (y' := .agg [.int .i64 (IntKind.i64.wrap (a0.Mean + (IntKind.i64.wrap (a1.Took - (IntKind.i64.wrap (Int.tdiv a0.Mean 8)))))), .int .i64 (IntKind.i64.wrap (a0.Swing + (IntKind.i64.wrap (x23 - (IntKind.i64.wrap (Int.tdiv a0.Swing 4)))))), .int .i64 b14, .int .i64 0]) 0 hS rfl rfl rfl rfl rfl rfl rfl rfl fun H hS => ?_
        try simp only [W]
        refine seq_n hK28 ?_
        refine w_seq fun K29 hK29 => ?_
        refine w_reg gC ?_
        try simp only [W, EE, reduceIte, Nat.reduceAdd, Nat.reduceLeDiff, hS.var 0 rfl]
        refine w_stv (a := .agg [.int .i64 (IntKind.i64.wrap (a0.Mean + (IntKind.i64.wrap (a1.Took - (IntKind.i64.wrap (Int.tdiv a0.Mean 8)))))), .int .i64 (IntKind.i64.wrap (a0.Swing + (IntKind.i64.wrap (x23 - (IntKind.i64.wrap (Int.tdiv a0.Swing 4)))))), .int .i64 b14, .int .i64 0]) (y' := .agg [.int .i64 (IntKind.i64.wrap (a0.Mean + (IntKind.i64.wrap (a1.Took - (IntKind.i64.wrap (Int.tdiv a0.Mean 8)))))), .int .i64 (IntKind.i64.wrap (a0.Swing + (IntKind.i64.wrap (x23 - (IntKind.i64.wrap (Int.tdiv a0.Swing 4)))))), .int .i64 b14, .int .i64 0]) 1 hS rfl rfl rfl rfl rfl rfl rfl rfl fun H hS => ?_
        try simp only [W]
        refine seq_n hK29 ?_
        refine w_ret ?_
        refine fin_r hK0 (res_c rfl rfl (hS.var 1 rfl) rfl rfl) ?_
        try obtain rfl := Option.some.inj h
        exact hP _ (hS.sel 2 [] (by decide))
theorem spec_SeeAll_w {a0 : Int} {a1 : List Seen} {r : (Guess × Bool)} (h : spec_SeeAll a0 a1 = some r) {F : List It} {H : Heap} (hS : Own H (F)) {P : AV → Heap → Prop} (hP : ∀ H', Own H' (F) → P (.tup [.agg [.int .i64 r.1.Mean, .int .i64 r.1.Swing, .int .i64 r.1.Many, .int .i64 r.1.Back], .bool r.2]) H') : ACall C 59 [.int .i64 a0, .fz (a1.map e_Seen)] H P := by
  refine acall_of gC (res := [.cell 4 74, .tmp 5]) (n := 38) rfl rfl rfl rfl fun K0 hK0 => ?_
  simp only [W, Nat.reduceSub, Nat.reduceAdd, List.replicate]
  unfold spec_SeeAll at h
  refine w_seq fun K1 hK1 => ?_
  refine w_reg gC ?_
  try simp only [W, Nat.reduceAdd]
  refine w_alloc hS rfl rfl fun ip2 wp2 H hS => ?_
  try simp only [W]
  refine seq_n hK1 ?_
  refine w_seq fun K4 hK4 => ?_
  refine w_reg gC ?_
  try simp only [W, Nat.reduceAdd]
  refine w_call h fun b5 hb5 h => ?_
  obtain ⟨b6, b7⟩ := b5
  try dsimp only at h
  refine spec_NewGuess_w hb5 hS fun H hS => ?_
  try simp only [W]
  refine w_alloc hS rfl rfl fun ip8 wp8 H hS => ?_
  try simp only [W]
  refine w_stv (a := .agg [.int .i64 b6.Mean, .int .i64 b6.Swing, .int .i64 b6.Many, .int .i64 b6.Back]) (y' := .agg [.int .i64 b6.Mean, .int .i64 b6.Swing, .int .i64 b6.Many, .int .i64 b6.Back]) 0 hS rfl rfl rfl rfl rfl rfl rfl rfl fun H hS => ?_
  try simp only [W]
  refine seq_n hK4 ?_
  refine w_seq fun K10 hK10 => ?_
  refine w_seq fun K11 hK11 => ?_
  obtain ⟨y13, h, g14⟩ := Option.bind_eq_some_iff.1 h
  refine w_join gC (fun s H => ∃ x12 : Bool, y13 = (x12) ∧ s = [u, .fz (a1.map e_Seen), u, u, .ptr ip2 wp2 0 0, u, .ptr ip8 wp8 0 0, u, u, u, u, u, u, u, u, u, u, u, u, u, u, .bool x12, u, u, u, u, u, u, u, u, u, u, u, u, u, u, u, u] ∧ Own H (⟨.ptr ip2 wp2 0 0, 4, [.agg [.int .i64 0, .int .i64 0, .int .i64 0, .int .i64 0]]⟩ :: ⟨.ptr ip8 wp8 0 0, 4, [.agg [.int .i64 b6.Mean, .int .i64 b6.Swing, .int .i64 b6.Many, .int .i64 b6.Back]]⟩ :: F)) (fun K15 hK15 => ?_) (fun s H hq => ?_)
  · refine w_seq fun K16 hK16 => ?_
    refine w_reg gC ?_
    try simp only [W, Nat.reduceAdd]
    refine w_grdT h (fun hc h => ?_) (fun hc h => ?_)
    · try simp only [W, hc]
      refine seq_n hK16 ?_
      refine w_kill ?_
      exact cut_n hK15 ⟨_, (Option.some.inj h).symm, rfl, (hS.sel 2 [1, 0] (by decide))⟩
    · try simp only [W, EE, reduceIte, Bool.false_eq_true, hc]
      refine seq_n hK16 ?_
      refine w_kill ?_
      exact cut_n hK15 ⟨_, (Option.some.inj h).symm, rfl, (hS.sel 2 [1, 0] (by decide))⟩
  · obtain ⟨x12, ey, rfl, hS⟩ := hq; obtain rfl := ey.symm
    replace h := g14
    try dsimp only at h
    refine seq_n hK11 ?_
    refine w_if ?_
    simp only [W]
    refine w_cnd h (fun hc h => ?_) (fun hc h => ?_)
    · refine w_seq fun K17 hK17 => ?_
      refine w_reg gC ?_
      try simp only [W, EE, Nat.reduceAdd]
      refine w_bld rfl rfl rfl rfl rfl ?_
      try simp only [W]
      refine w_stv (a := .agg [.int .i64 0, .int .i64 0, .int .i64 0, .int .i64 0]) (y' := .agg [.int .i64 0, .int .i64 0, .int .i64 0, .int .i64 0]) 0 hS rfl rfl rfl rfl rfl rfl rfl rfl fun H hS => ?_
      try simp only [W]
      refine seq_n hK17 ?_
      refine w_ret ?_
      refine seq_r hK10 ?_
      refine fin_r hK0 (res_c rfl rfl (hS.var 0 rfl) rfl (res_tc rfl rfl)) ?_
      try obtain rfl := Option.some.inj h
      exact hP _ (hS.sel 2 [] (by decide))
    · refine w_skip ?_
      refine seq_n hK10 ?_
      refine w_seq fun K18 hK18 => ?_
      refine w_seq fun K19 hK19 => ?_
      refine w_reg gC ?_
      try simp only [W, EE, Nat.reduceAdd]
      refine seq_n hK19 ?_
      obtain ⟨y29, hw30, g36⟩ := Option.bind_eq_some_iff.1 h
      refine w_join gC (fun s H => ∃ x25 : Int, ∃ x26 : Int, ∃ x27 : Int, ∃ x28 : Int, y29 = LR.next (x25, x26, x27, x28) ∧ s = [u, u, u, u, .ptr ip2 wp2 0 0, u, .ptr ip8 wp8 0 0, u, u, u, u, u, u, u, u, u, u, u, u, u, u, u, u, u, u, u, u, u, u, u, u, u, u, u, u, u, u, u] ∧ Own H (⟨.ptr ip2 wp2 0 0, 4, [.agg [.int .i64 0, .int .i64 0, .int .i64 0, .int .i64 0]]⟩ :: ⟨.ptr ip8 wp8 0 0, 4, [.agg [.int .i64 x25, .int .i64 x26, .int .i64 x27, .int .i64 x28]]⟩ :: F)) (fun K31 hK31 => ?_) (fun s H hq => ?_)
      · refine w_blk fun K32 hK32 => ?_
        refine w_loop gC hw30 (fun x s H => match x with | (x20, x21, x22, x23, x24) => s = [u, u, u, u, .ptr ip2 wp2 0 0, u, .ptr ip8 wp8 0 0, u, u, u, u, u, u, u, u, u, u, u, u, u, u, u, u, .fz (a1.map e_Seen), .int .i64 (a1.length : Int), .int .i64 x20, u, u, u, u, u, u, u, u, u, u, u, u] ∧ Own H (⟨.ptr ip2 wp2 0 0, 4, [.agg [.int .i64 0, .int .i64 0, .int .i64 0, .int .i64 0]]⟩ :: ⟨.ptr ip8 wp8 0 0, 4, [.agg [.int .i64 x21, .int .i64 x22, .int .i64 x23, .int .i64 x24]]⟩ :: F)) ⟨rfl, hS⟩ (fun x y35 s H h hd34 hi K33 hK33 => ?_)
        obtain ⟨x20, x21, x22, x23, x24⟩ := x
        try dsimp only at hi
        obtain ⟨rfl, hS⟩ := hi
        simp only [spec_SeeAll_l0] at h
        refine w_seq fun K37 hK37 => ?_
        refine w_reg gC ?_
        try simp only [W, EE, Nat.reduceAdd]
        refine seq_n hK37 ?_
        refine w_seq fun K38 hK38 => ?_
        refine w_if ?_
        simp only [W]
        refine w_cnd h (fun hc h => ?_) (fun hc h => ?_)
        · refine w_skip ?_
          refine seq_n hK38 ?_
          refine w_seq fun K39 hK39 => ?_
          refine w_blk fun K40 hK40 => ?_
          refine w_seq fun K41 hK41 => ?_
          refine w_reg gC ?_
          try simp only [W, EE, Nat.reduceAdd]
          refine w_fz rfl rfl rfl (fun _ => rfl) h fun b42 hb42 h => ?_
          try simp only [W, EE, EN, reduceIte, Nat.reduceAdd, Nat.reduceLeDiff]
          refine w_alloc hS rfl rfl fun ip43 wp43 H hS => ?_
          try simp only [W]
          refine w_stv (a := .agg [.int .i64 b42.Took, .bool b42.Twice, .bool b42.Lost]) (y' := .agg [.int .i64 b42.Took, .bool b42.Twice, .bool b42.Lost]) 0 hS rfl rfl rfl rfl rfl rfl rfl rfl fun H hS => ?_
          try simp only [W]
          refine seq_n hK41 ?_
          refine w_seq fun K45 hK45 => ?_
          refine w_seq fun K46 hK46 => ?_
          refine w_reg gC ?_
          try simp only [W, EE, reduceIte, Nat.reduceAdd, Nat.reduceLeDiff, hS.var 0 rfl]
          refine w_call h fun b47 hb47 h => ?_
          refine spec_l9Seen_w hb47 hS fun H hS => ?_
          try simp only [W]
          refine seq_n hK46 ?_
          refine w_if ?_
          simp only [W]
          refine w_cnd h (fun hc h => ?_) (fun hc h => ?_)
          · refine w_seq fun K48 hK48 => ?_
            refine w_reg gC ?_
            try simp only [W, EE, Nat.reduceAdd]
            refine w_bld rfl rfl rfl rfl rfl ?_
            try simp only [W]
            refine w_stv (a := .agg [.int .i64 0, .int .i64 0, .int .i64 0, .int .i64 0]) (y' := .agg [.int .i64 0, .int .i64 0, .int .i64 0, .int .i64 0]) 1 hS rfl rfl rfl rfl rfl rfl rfl rfl fun H hS => ?_
            try simp only [W]
            refine seq_n hK48 ?_
            refine w_ret ?_
            refine seq_r hK45 ?_
            refine blk_r hK40 ?_
            refine seq_r hK39 ?_
            try obtain rfl := Option.some.inj h
            obtain rfl := hd34 _ rfl
            have h : (some (LR.done ((⟨0, 0, 0, 0⟩ : Guess), false)) : Option (LR (Int × Int × Int × Int) (Guess × Bool))) = some (LR.done ((⟨0, 0, 0, 0⟩ : Guess), false)) := rfl
            refine lp_r hK33 ?_
            refine blk_r hK32 ?_
            try obtain rfl := Option.some.inj h
            obtain rfl := Option.some.inj g36
            have h : (some ((⟨0, 0, 0, 0⟩ : Guess), false) : Option (Guess × Bool)) = some ((⟨0, 0, 0, 0⟩ : Guess), false) := rfl
            refine cut_r hK31 ?_
            refine seq_r hK18 ?_
            refine fin_r hK0 (res_c rfl rfl (hS.var 1 rfl) rfl (res_tc rfl rfl)) ?_
            try obtain rfl := Option.some.inj h
            exact hP _ (hS.sel 3 [] (by decide))
          · refine w_skip ?_
            refine seq_n hK45 ?_
            refine w_reg gC ?_
            try simp only [W, EE, reduceIte, Nat.reduceAdd, Nat.reduceLeDiff, hS.var 0 rfl, hS.var 2 rfl]
            refine w_call h fun b53 hb53 h => ?_
            refine spec_l9See_w hb53 hS fun H hS => ?_
            try simp only [W]
            refine w_stv (a := .agg [.int .i64 b53.Mean, .int .i64 b53.Swing, .int .i64 b53.Many, .int .i64 b53.Back]) (y' := .agg [.int .i64 b53.Mean, .int .i64 b53.Swing, .int .i64 b53.Many, .int .i64 b53.Back]) 2 hS rfl rfl rfl rfl rfl rfl rfl rfl fun H hS => ?_
            try simp only [W]
            refine blk_n0 hK40 ?_
            refine seq_n hK39 ?_
            refine w_reg gC ?_
            try simp only [W, EE, Nat.reduceAdd]
            exact lp_n hK33 h ⟨rfl, (hS.sel 3 [1, 2] (by decide))⟩
        · refine w_exit ?_
          refine seq_x hK38 ?_
          try obtain rfl := Option.some.inj h
          obtain rfl := hd34 _ rfl
          have h : (some (LR.next (x21, x22, x23, x24)) : Option (LR (Int × Int × Int × Int) (Guess × Bool))) = some (LR.next (x21, x22, x23, x24)) := rfl
          refine lp_x hK33 ?_
          refine blk_e hK32 ?_
          exact cut_n hK31 ⟨_, _, _, _, (Option.some.inj h).symm, rfl, hS⟩
      · obtain ⟨x25, x26, x27, x28, rfl, rfl, hS⟩ := hq
        replace h := g36
        try dsimp only at h
        refine seq_n hK18 ?_
        refine w_seq fun K56 hK56 => ?_
        refine w_reg gC ?_
        try simp only [W, EE, reduceIte, Nat.reduceAdd, Nat.reduceLeDiff, hS.var 1 rfl]
        refine w_stv (a := .agg [.int .i64 x25, .int .i64 x26, .int .i64 x27, .int .i64 x28]) (y' := .agg [.int .i64 x25, .int .i64 x26, .int .i64 x27, .int .i64 x28]) 0 hS rfl rfl rfl rfl rfl rfl rfl rfl fun H hS => ?_
        try simp only [W]
        refine seq_n hK56 ?_
        refine w_ret ?_
        refine fin_r hK0 (res_c rfl rfl (hS.var 0 rfl) rfl (res_tc rfl rfl)) ?_
        try obtain rfl := Option.some.inj h
        exact hP _ (hS.sel 2 [] (by decide))
theorem spec_l1Cur_guess_w {a0 : L1Cur} {i0 : Nat} {w0 : Nat} {r : (Guess × L1Cur)} (h : spec_l1Cur_guess a0 = some r) {F : List It} {H : Heap} (hS : Own H (⟨.ptr i0 w0 0 0, 3, [.agg [.fz (a0.Code.map (AV.int .u8)), .int .i64 a0.At, .int .u64 a0.Seed]]⟩ :: F)) {P : AV → Heap → Prop} (hP : ∀ H', Own H' (⟨.ptr i0 w0 0 0, 3, [.agg [.fz (r.2.Code.map (AV.int .u8)), .int .i64 r.2.At, .int .u64 r.2.Seed]]⟩ :: F) → P (.agg [.int .i64 r.1.Mean, .int .i64 r.1.Swing, .int .i64 r.1.Many, .int .i64 r.1.Back]) H') : ACall C 126 [.ptr i0 w0 0 0] H P := by
  refine acall_of gC (res := [.cell 2 74]) (n := 33) rfl rfl rfl rfl fun K0 hK0 => ?_
  simp only [W, Nat.reduceSub, Nat.reduceAdd, List.replicate]
  unfold spec_l1Cur_guess at h
  refine w_seq fun K1 hK1 => ?_
  refine w_reg gC ?_
  try simp only [W, Nat.reduceAdd]
  refine w_alloc hS rfl rfl fun ip2 wp2 H hS => ?_
  try simp only [W]
  refine seq_n hK1 ?_
  refine w_seq fun K4 hK4 => ?_
  refine w_regF (fz := [(5, [([10], [.sl [.sc, .sc, .sc]])])]) gC ?_
  try simp only [W, Nat.reduceAdd, Nat.reduceBEq]
  refine w_call h fun b5 hb5 h => ?_
  obtain ⟨b6, b7⟩ := b5
  try dsimp only at h
  refine spec_l1Cur_pick_w hb5 (hS.sel 2 [1, 0] (by decide)) fun H hS => ?_
  try simp only [W, EE, Nat.reduceAdd, Nat.reduceBEq]
  refine w_call h fun b8 hb8 h => ?_
  obtain ⟨b9, b10⟩ := b8
  try dsimp only at h
  refine spec_l1Cur_allSeen_w hb8 hS fun v11 qv11 H hS => ?_
  try simp only [W, Nat.reduceAdd]
  refine FZ_own 0 hS rfl qv11 rfl (fun _ _ => by simp [takeE, takeT, takeC, plainA, e_Seen]) (fun _ => rfl) fun H hsame hS => ?_
  try simp only [W]
  refine w_call h fun b13 hb13 h => ?_
  obtain ⟨b14, b15⟩ := b13
  try dsimp only at h
  refine spec_SeeAll_w hb13 hS fun H hS => ?_
  try simp only [W, Nat.reduceAdd, Nat.reduceBEq]
  refine w_alloc hS rfl rfl fun ip16 wp16 H hS => ?_
  try simp only [W, Nat.reduceAdd, Nat.reduceBEq]
  refine w_stv (a := .agg [.int .i64 b14.Mean, .int .i64 b14.Swing, .int .i64 b14.Many, .int .i64 b14.Back]) (y' := .agg [.int .i64 b14.Mean, .int .i64 b14.Swing, .int .i64 b14.Many, .int .i64 b14.Back]) 0 hS rfl rfl rfl rfl rfl rfl rfl rfl fun H hS => ?_
  try simp only [W, Nat.reduceAdd, Nat.reduceBEq]
  refine seq_n hK4 ?_
  refine w_seq fun K18 hK18 => ?_
  refine w_seq fun K19 hK19 => ?_
  obtain ⟨y24, h, g25⟩ := Option.bind_eq_some_iff.1 h
  refine w_join gC (fun s H => ∃ x20 : Bool, ∃ x21 : List Int, ∃ x22 : Int, ∃ x23 : Int, y24 = (x20, x21, x22, x23) ∧ s = [.ptr i0 w0 0 0, u, .ptr ip2 wp2 0 0, .ptr ip16 wp16 0 0, u, u, u, u, u, u, u, u, u, u, u, u, u, u, u, .bool x20, u, u, u, u, u, u, u, u, u, u, u, u, u] ∧ Own H (⟨.ptr i0 w0 0 0, 3, [.agg [.fz (x21.map (AV.int .u8)), .int .i64 x22, .int .u64 x23]]⟩ :: ⟨.ptr ip2 wp2 0 0, 4, [.agg [.int .i64 0, .int .i64 0, .int .i64 0, .int .i64 0]]⟩ :: ⟨.ptr ip16 wp16 0 0, 4, [.agg [.int .i64 b14.Mean, .int .i64 b14.Swing, .int .i64 b14.Many, .int .i64 b14.Back]]⟩ :: F)) (fun K26 hK26 => ?_) (fun s H hq => ?_)
  · refine w_seq fun K27 hK27 => ?_
    refine w_reg gC ?_
    try simp only [W, Nat.reduceAdd]
    refine w_grdT h (fun hc h => ?_) (fun hc h => ?_)
    · try simp only [W, hc]
      refine seq_n hK27 ?_
      refine w_kill ?_
      exact cut_n hK26 ⟨_, _, _, _, (Option.some.inj h).symm, rfl, (hS.sel 3 [1, 2, 0] (by decide))⟩
    · try simp only [W, hc]
      refine w_call h fun b28 hb28 h => ?_
      obtain ⟨b29, b30⟩ := b28
      try dsimp only at h
      refine spec_l1Cur_one_w hb28 (hS.sel 3 [1, 0, 2] (by decide)) fun H hS => ?_
      try simp only [W, reduceIte, Bool.false_eq_true]
      refine seq_n hK27 ?_
      refine w_kill ?_
      exact cut_n hK26 ⟨_, _, _, _, (Option.some.inj h).symm, rfl, (hS.sel 3 [0, 2, 1] (by decide))⟩
  · obtain ⟨x20, x21, x22, x23, rfl, rfl, hS⟩ := hq
    replace h := g25
    try dsimp only at h
    refine seq_n hK19 ?_
    obtain ⟨y38, h, g39⟩ := Option.bind_eq_some_iff.1 h
    refine w_join gC (fun s H => ∃ x31 : List Int, ∃ x32 : Int, ∃ x33 : Int, ∃ x34 : Int, ∃ x35 : Int, ∃ x36 : Int, ∃ x37 : Int, y38 = (x31, x32, x33, x34, x35, x36, x37) ∧ s = [u, u, .ptr ip2 wp2 0 0, .ptr ip16 wp16 0 0, u, u, u, u, u, u, u, u, u, u, u, u, u, u, u, u, u, u, u, u, u, u, u, u, u, u, u, u, u] ∧ Own H (⟨.ptr i0 w0 0 0, 3, [.agg [.fz (x31.map (AV.int .u8)), .int .i64 x32, .int .u64 x33]]⟩ :: ⟨.ptr ip2 wp2 0 0, 4, [.agg [.int .i64 0, .int .i64 0, .int .i64 0, .int .i64 0]]⟩ :: ⟨.ptr ip16 wp16 0 0, 4, [.agg [.int .i64 x34, .int .i64 x35, .int .i64 x36, .int .i64 x37]]⟩ :: F)) (fun K40 hK40 => ?_) (fun s H hq => ?_)
    · refine w_seq fun K41 hK41 => ?_
      refine w_if ?_
      simp only [W]
      refine w_cnd h (fun hc h => ?_) (fun hc h => ?_)
      · refine w_regF (fz := [(2, [([21], [.sl [.sc]])]), (5, [([24], [.sl [.sc]])]), (8, [([27], [.sl [.sc]])])]) gC ?_
        try simp only [W, Nat.reduceAdd, Nat.reduceBEq]
        refine w_lit (el := ([0, 80, 8000, 8001] : List Int).map (AV.int .i64)) hS rfl rfl rfl rfl rfl rfl rfl fun v42 H qv42 hS => ?_
        try simp only [W, Nat.reduceAdd]
        refine FZ_own 0 hS rfl qv42 rfl (fun _ _ => by simp [takeE, takeT, plainA]) (fun _ => rfl) fun H hsame hS => ?_
        try simp only [W]
        refine w_call h fun b44 hb44 h => ?_
        obtain ⟨b45, b46⟩ := b44
        try dsimp only at h
        refine spec_l1Cur_among_w hb44 hS fun H hS => ?_
        try simp only [W, Nat.reduceAdd, Nat.reduceBEq]
        refine w_lit (el := ([0, 7, 4000] : List Int).map (AV.int .i64)) hS rfl rfl rfl rfl rfl rfl rfl fun v47 H qv47 hS => ?_
        try simp only [W, Nat.reduceAdd, Nat.reduceBEq]
        refine FZ_own 0 hS rfl qv47 rfl (fun _ _ => by simp [takeE, takeT, plainA]) (fun _ => rfl) fun H hsame hS => ?_
        try simp only [W]
        refine w_call h fun b49 hb49 h => ?_
        obtain ⟨b50, b51⟩ := b49
        try dsimp only at h
        refine spec_l1Cur_among_w hb49 hS fun H hS => ?_
        try simp only [W, Nat.reduceAdd, Nat.reduceBEq]
        refine w_lit (el := ([0, 1000] : List Int).map (AV.int .i64)) hS rfl rfl rfl rfl rfl rfl rfl fun v52 H qv52 hS => ?_
        try simp only [W, Nat.reduceAdd, Nat.reduceBEq]
        refine FZ_own 0 hS rfl qv52 rfl (fun _ _ => by simp [takeE, takeT, plainA]) (fun _ => rfl) fun H hsame hS => ?_
        try simp only [W]
        refine w_call h fun b54 hb54 h => ?_
        obtain ⟨b55, b56⟩ := b54
        try dsimp only at h
        refine spec_l1Cur_among_w hb54 hS fun H hS => ?_
        try simp only [W, Nat.reduceAdd, Nat.reduceBEq]
        refine w_call h fun b57 hb57 h => ?_
        obtain ⟨b58, b59⟩ := b57
        try dsimp only at h
        refine spec_l1Cur_pick_w hb57 hS fun H hS => ?_
        try simp only [W, EE, Nat.reduceAdd, Nat.reduceBEq]
        refine w_bld rfl rfl rfl rfl rfl ?_
        try simp only [W, Nat.reduceAdd, Nat.reduceBEq]
        refine w_stv (a := .agg [.int .i64 b45, .int .i64 b50, .int .i64 b55, .int .i64 b58]) (y' := .agg [.int .i64 b45, .int .i64 b50, .int .i64 b55, .int .i64 b58]) 2 hS rfl rfl rfl rfl rfl rfl rfl rfl fun H hS => ?_
        try simp only [W, Nat.reduceAdd]
        refine seq_n hK41 ?_
        refine w_kill ?_
        exact cut_n hK40 ⟨_, _, _, _, _, _, _, (Option.some.inj h).symm, rfl, hS⟩
      · refine w_skip ?_
        refine seq_n hK41 ?_
        refine w_kill ?_
        exact cut_n hK40 ⟨_, _, _, _, _, _, _, (Option.some.inj h).symm, rfl, hS⟩
    · obtain ⟨x31, x32, x33, x34, x35, x36, x37, rfl, rfl, hS⟩ := hq
      replace h := g39
      try dsimp only at h
      refine seq_n hK18 ?_
      refine w_seq fun K60 hK60 => ?_
      refine w_reg gC ?_
      try simp only [W, EE, reduceIte, Nat.reduceAdd, Nat.reduceLeDiff, hS.var 2 rfl]
      refine w_stv (a := .agg [.int .i64 x34, .int .i64 x35, .int .i64 x36, .int .i64 x37]) (y' := .agg [.int .i64 x34, .int .i64 x35, .int .i64 x36, .int .i64 x37]) 1 hS rfl rfl rfl rfl rfl rfl rfl rfl fun H hS => ?_
      try simp only [W]
      refine seq_n hK60 ?_
      refine w_ret ?_
      refine fin_r hK0 (res_c rfl rfl (hS.var 1 rfl) rfl rfl) ?_
      try obtain rfl := Option.some.inj h
      exact hP _ (hS.sel 3 [0] (by decide))
theorem spec_DrawSeeGuess_w {a0 : List Int} {r : (Guess × Seen)} (h : spec_DrawSeeGuess a0 = some r) {F : List It} {H : Heap} (hS : Own H (F)) {P : AV → Heap → Prop} (hP : ∀ H', Own H' (F) → P (.tup [.agg [.int .i64 r.1.Mean, .int .i64 r.1.Swing, .int .i64 r.1.Many, .int .i64 r.1.Back], .agg [.int .i64 r.2.Took, .bool r.2.Twice, .bool r.2.Lost]]) H') : ACall C 48 [.fz (a0.map (AV.int .u8))] H P := by
  refine acall_of gC (res := [.cell 2 74, .cell 3 76]) (n := 12) rfl rfl rfl rfl fun K0 hK0 => ?_
  simp only [W, Nat.reduceSub, Nat.reduceAdd, List.replicate]
  unfold spec_DrawSeeGuess at h
  refine w_seq fun K1 hK1 => ?_
  refine w_reg gC ?_
  try simp only [W, Nat.reduceAdd]
  refine w_alloc hS rfl rfl fun ip2 wp2 H hS => ?_
  try simp only [W]
  refine w_alloc hS rfl rfl fun ip4 wp4 H hS => ?_
  try simp only [W]
  refine seq_n hK1 ?_
  refine w_seq fun K6 hK6 => ?_
  refine w_reg gC ?_
  try simp only [W, EE, Nat.reduceAdd]
  refine w_bld rfl rfl rfl rfl rfl ?_
  try simp only [W]
  refine w_box hS rfl rfl rfl rfl fun ip7 wp7 H hS => ?_
  try simp only [W]
  refine seq_n hK6 ?_
  refine w_seq fun K9 hK9 => ?_
  refine w_reg gC ?_
  try simp only [W, Nat.reduceAdd]
  refine w_call h fun b10 hb10 h => ?_
  obtain ⟨b11, b12⟩ := b10
  try dsimp only at h
  refine spec_l1Cur_guess_w hb10 hS fun H hS => ?_
  try simp only [W]
  refine w_call h fun b13 hb13 h => ?_
  obtain ⟨b14, b15⟩ := b13
  try dsimp only at h
  refine spec_l1Cur_seen_w hb13 hS fun H hS => ?_
  try simp only [W]
  refine w_stv (a := .agg [.int .i64 b11.Mean, .int .i64 b11.Swing, .int .i64 b11.Many, .int .i64 b11.Back]) (y' := .agg [.int .i64 b11.Mean, .int .i64 b11.Swing, .int .i64 b11.Many, .int .i64 b11.Back]) 2 hS rfl rfl rfl rfl rfl rfl rfl rfl fun H hS => ?_
  try simp only [W]
  refine w_stv (a := .agg [.int .i64 b14.Took, .bool b14.Twice, .bool b14.Lost]) (y' := .agg [.int .i64 b14.Took, .bool b14.Twice, .bool b14.Lost]) 1 hS rfl rfl rfl rfl rfl rfl rfl rfl fun H hS => ?_
  try simp only [W]
  refine seq_n hK9 ?_
  refine w_ret ?_
  refine fin_r hK0 (res_c rfl rfl (hS.var 2 rfl) rfl (res_c rfl rfl (hS.var 1 rfl) rfl rfl)) ?_
  try obtain rfl := Option.some.inj h
  exact hP _ (hS.sel 3 [] (by decide))
theorem impl_in_w {a0 : Int} {a1 : Int} {a2 : Int} {r : (Bool)} (h : impl_in a0 a1 a2 = some r) {F : List It} {H : Heap} (hS : Own H (F)) {P : AV → Heap → Prop} (hP : ∀ H', Own H' (F) → P (.bool r) H') : ACall C 95 [.int .i64 a0, .int .i64 a1, .int .i64 a2] H P := by
  refine acall_of gC (res := [.tmp 6]) (n := 15) rfl rfl rfl rfl fun K0 hK0 => ?_
  simp only [W, Nat.reduceSub, Nat.reduceAdd, List.replicate]
  unfold impl_in at h
  refine w_seq fun K1 hK1 => ?_
  refine w_reg gC ?_
  try simp only [W, Nat.reduceAdd]
  refine seq_n hK1 ?_
  refine w_seq fun K2 hK2 => ?_
  refine w_reg gC ?_
  try simp only [W, EE, Nat.reduceAdd]
  refine w_grdT h (fun hc h => ?_) (fun hc h => ?_)
  · try simp only [W, EE, reduceIte, hc]
    refine seq_n hK2 ?_
    refine w_ret ?_
    refine fin_r1 hK0 rfl ?_
    try obtain rfl := Option.some.inj h
    exact hP _ hS
  · try simp only [W, hc]
    refine seq_n hK2 ?_
    refine w_ret ?_
    refine fin_r1 hK0 rfl ?_
    try obtain rfl := Option.some.inj h
    exact hP _ hS
theorem impl_GoodGuess_w {a0 : Guess} {r : (Bool)} (h : impl_GoodGuess a0 = some r) {F : List It} {H : Heap} (hS : Own H (F)) {P : AV → Heap → Prop} (hP : ∀ H', Own H' (F) → P (.bool r) H') : ACall C 53 [.agg [.int .i64 a0.Mean, .int .i64 a0.Swing, .int .i64 a0.Many, .int .i64 a0.Back]] H P := by
  refine acall_of gC (res := [.tmp 2]) (n := 21) rfl rfl rfl rfl fun K0 hK0 => ?_
  simp only [W, Nat.reduceSub, Nat.reduceAdd, List.replicate]
  unfold impl_GoodGuess at h
  refine w_seq fun K1 hK1 => ?_
  refine w_reg gC ?_
  try simp only [W, Nat.reduceAdd]
  refine w_box hS rfl rfl rfl rfl fun ip2 wp2 H hS => ?_
  try simp only [W]
  refine seq_n hK1 ?_
  refine w_seq fun K4 hK4 => ?_
  refine w_reg gC ?_
  try simp only [W, EE, Nat.reduceAdd, Nat.reduceBEq, hS.var 0 rfl]
  refine w_call h fun b5 hb5 h => ?_
  refine impl_in_w hb5 hS fun H hS => ?_
  try simp only [W]
  refine w_grdT h (fun hc h => ?_) (fun hc h => ?_)
  · try simp only [W, EE, Nat.reduceAdd, Nat.reduceBEq, hS.var 0 rfl, hc]
    refine w_call h fun b6 hb6 h => ?_
    refine impl_in_w hb6 hS fun H hS => ?_
    try simp only [W, reduceIte]
    refine w_grdT h (fun hc h => ?_) (fun hc h => ?_)
    · try simp only [W, EE, Nat.reduceAdd, Nat.reduceBEq, hS.var 0 rfl, hc]
      refine w_call h fun b7 hb7 h => ?_
      refine impl_in_w hb7 hS fun H hS => ?_
      try simp only [W, reduceIte]
      refine w_grdT h (fun hc h => ?_) (fun hc h => ?_)
      · try simp only [W, EE, Nat.reduceAdd, Nat.reduceBEq, hS.var 0 rfl, hc]
        refine w_call h fun b8 hb8 h => ?_
        refine impl_in_w hb8 hS fun H hS => ?_
        try simp only [W, reduceIte]
        refine seq_n hK4 ?_
        refine w_ret ?_
        refine fin_r1 hK0 rfl ?_
        try obtain rfl := Option.some.inj h
        exact hP _ (hS.sel 1 [] (by decide))
      · try simp only [W, hc]
        refine seq_n hK4 ?_
        refine w_ret ?_
        refine fin_r1 hK0 rfl ?_
        try obtain rfl := Option.some.inj h
        exact hP _ (hS.sel 1 [] (by decide))
    · try simp only [W, hc]
      refine seq_n hK4 ?_
      refine w_ret ?_
      refine fin_r1 hK0 rfl ?_
      try obtain rfl := Option.some.inj h
      exact hP _ (hS.sel 1 [] (by decide))
  · try simp only [W, hc]
    refine seq_n hK4 ?_
    refine w_ret ?_
    refine fin_r1 hK0 rfl ?_
    try obtain rfl := Option.some.inj h
    exact hP _ (hS.sel 1 [] (by decide))
theorem impl_isSeen_w {a0 : Seen} {r : (Bool)} (h : impl_isSeen a0 = some r) {F : List It} {H : Heap} (hS : Own H (F)) {P : AV → Heap → Prop} (hP : ∀ H', Own H' (F) → P (.bool r) H') : ACall C 128 [.agg [.int .i64 a0.Took, .bool a0.Twice, .bool a0.Lost]] H P := by
  refine acall_of gC (res := [.tmp 2]) (n := 20) rfl rfl rfl rfl fun K0 hK0 => ?_
  simp only [W, Nat.reduceSub, Nat.reduceAdd, List.replicate]
  unfold impl_isSeen at h
  refine w_seq fun K1 hK1 => ?_
  refine w_reg gC ?_
  try simp only [W, Nat.reduceAdd]
  refine w_box hS rfl rfl rfl rfl fun ip2 wp2 H hS => ?_
  try simp only [W]
  refine seq_n hK1 ?_
  refine w_seq fun K4 hK4 => ?_
  refine w_reg gC ?_
  try simp only [W, EE, Nat.reduceAdd, Nat.reduceBEq, hS.var 0 rfl]
  refine w_call h fun b5 hb5 h => ?_
  refine impl_in_w hb5 hS fun H hS => ?_
  try simp only [W]
  refine w_grdT h (fun hc h => ?_) (fun hc h => ?_)
  · try simp only [W, EE, Nat.reduceAdd, Nat.reduceBEq, hS.var 0 rfl, hc]
    refine w_grdT h (fun hc h => ?_) (fun hc h => ?_)
    · try simp only [W, EE, Nat.reduceAdd, Nat.reduceBEq, hS.var 0 rfl, hc]
      refine w_grdT h (fun hc h => ?_) (fun hc h => ?_)
      · try simp only [W, reduceIte, hc]
        refine seq_n hK4 ?_
        refine w_ret ?_
        refine fin_r1 hK0 rfl ?_
        try obtain rfl := Option.some.inj h
        exact hP _ (hS.sel 1 [] (by decide))
      · try simp only [W, EE, reduceIte, Nat.reduceAdd, Nat.reduceBEq, Bool.false_eq_true, hS.var 0 rfl, hc]
        refine seq_n hK4 ?_
        refine w_ret ?_
        refine fin_r1 hK0 rfl ?_
        try obtain rfl := Option.some.inj h
        exact hP _ (hS.sel 1 [] (by decide))
    · try simp only [W, reduceIte, hc]
      refine seq_n hK4 ?_
      refine w_ret ?_
      refine fin_r1 hK0 rfl ?_
      try obtain rfl := Option.some.inj h
      exact hP _ (hS.sel 1 [] (by decide))
  · try simp only [W, hc]
    refine seq_n hK4 ?_
    refine w_ret ?_
    refine fin_r1 hK0 rfl ?_
    try obtain rfl := Option.some.inj h
    exact hP _ (hS.sel 1 [] (by decide))
theorem impl_Guess_see_w {a0 : Guess} {a1 : Seen} {i0 : Nat} {w0 : Nat} {r : (Guess)} (h : impl_Guess_see a0 a1 = some r) {F : List It} {H : Heap} (hS : Own H (⟨.ptr i0 w0 0 0, 4, [.agg [.int .i64 a0.Mean, .int .i64 a0.Swing, .int .i64 a0.Many, .int .i64 a0.Back]]⟩ :: F)) {P : AV → Heap → Prop} (hP : ∀ H', Own H' (⟨.ptr i0 w0 0 0, 4, [.agg [.int .i64 r.Mean, .int .i64 r.Swing, .int .i64 r.Many, .int .i64 r.Back]]⟩ :: F) → P (.tup []) H') : ACall C 129 [.ptr i0 w0 0 0, .agg [.int .i64 a1.Took, .bool a1.Twice, .bool a1.Lost]] H P := by
  refine acall_of gC (res := []) (n := 63) rfl rfl rfl rfl fun K0 hK0 => ?_
  simp only [W, Nat.reduceSub, Nat.reduceAdd, List.replicate]
  unfold impl_Guess_see at h
  refine w_seq fun K1 hK1 => ?_
  refine w_reg gC ?_
  try simp only [W, Nat.reduceAdd]
  refine w_box hS rfl rfl rfl rfl fun ip2 wp2 H hS => ?_
  try simp only [W]
  refine seq_n hK1 ?_
  refine w_seq fun K4 hK4 => ?_
  refine w_seq fun K5 hK5 => ?_
  refine w_reg gC ?_
  try simp only [W, EE, Nat.reduceAdd, Nat.reduceBEq, hS.var 0 rfl]
  refine seq_n hK5 ?_
  refine w_if ?_
  simp only [W]
  refine w_cnd h (fun hc h => ?_) (fun hc h => ?_)
  · refine w_seq fun K6 hK6 => ?_
    refine w_reg gC ?_
    try simp only [W, EE, Nat.reduceAdd, Nat.reduceBEq, hS.var 1 rfl]
    refine w_stv (a := .int .i64 (if 6 < (IntKind.i64.wrap (a0.Back + 1)) then 6 else (IntKind.i64.wrap (a0.Back + 1)))) (y' := .agg [.int .i64 a0.Mean, .int .i64 a0.Swing, .int .i64 a0.Many, .int .i64 (if 6 < (IntKind.i64.wrap (a0.Back + 1)) then 6 else (IntKind.i64.wrap (a0.Back + 1)))]) 1 hS rfl rfl rfl rfl rfl rfl rfl rfl fun H hS => ?_
    try simp only [W]
    refine seq_n hK6 ?_
    refine w_ret ?_
    refine seq_r hK4 ?_
    refine fin_r0 hK0 ?_
    try obtain rfl := Option.some.inj h
    exact hP _ (hS.sel 2 [1] (by decide))
  · refine w_skip ?_
    refine seq_n hK4 ?_
    refine w_seq fun K7 hK7 => ?_
    refine w_reg gC ?_
    try simp only [W, EE, Nat.reduceAdd, Nat.reduceBEq, hS.var 1 rfl]
    refine w_stv (a := .int .i64 (if 1000 < (IntKind.i64.wrap (a0.Many + 1)) then 1000 else (IntKind.i64.wrap (a0.Many + 1)))) (y' := .agg [.int .i64 a0.Mean, .int .i64 a0.Swing, .int .i64 (if 1000 < (IntKind.i64.wrap (a0.Many + 1)) then 1000 else (IntKind.i64.wrap (a0.Many + 1))), .int .i64 a0.Back]) 1 hS rfl rfl rfl rfl rfl rfl rfl rfl fun H hS => ?_
    try simp only [W]
    refine seq_n hK7 ?_
    refine w_seq fun K8 hK8 => ?_
    refine w_seq fun K9 hK9 => ?_
    refine w_reg gC ?_
    try simp only [W, EE, Nat.reduceAdd, Nat.reduceBEq, hS.var 0 rfl]
    refine seq_n hK9 ?_
    refine w_if ?_
    simp only [W]
    refine w_cnd h (fun hc h => ?_) (fun hc h => ?_)
    · refine w_ret ?_
      refine seq_r hK8 ?_
      refine fin_r0 hK0 ?_
      try obtain rfl := Option.some.inj h
      exact hP _ (hS.sel 2 [1] (by decide))
    · refine w_skip ?_
      refine seq_n hK8 ?_
      refine w_seq fun K10 hK10 => ?_
      refine w_reg gC ?_
      try simp only [W, EE, Nat.reduceAdd, Nat.reduceBEq, hS.var 1 rfl]
      refine w_stv (a := .int .i64 0) (y' := .agg [.int .i64 a0.Mean, .int .i64 a0.Swing, .int .i64 (if 1000 < (IntKind.i64.wrap (a0.Many + 1)) then 1000 else (IntKind.i64.wrap (a0.Many + 1))), .int .i64 0]) 1 hS rfl rfl rfl rfl rfl rfl rfl rfl fun H hS => ?_
      try simp only [W]
      refine seq_n hK10 ?_
      refine w_seq fun K11 hK11 => ?_
      refine w_draw0 gC (by kernel_rfl) ?_
      try simp only [W, EE, Nat.reduceAdd, Nat.reduceBEq, hS.var 1 rfl, hS.var 0 rfl]
      rw [dv_lit _ _ _ rfl, Option.map_some, resV_s]
      try simp only [W, EE]
      refine seq_n hK11 ?_
      refine w_seq fun K12 hK12 => ?_
      refine w_reg gC ?_
      try simp only [W, EE, Nat.reduceAdd, Nat.reduceBEq, hS.var 1 rfl]
      refine w_stv (a := .int .i64 (IntKind.i64.wrap (a0.Mean + (IntKind.i64.wrap (a1.Took - (IntKind.i64.wrap (Int.tdiv a0.Mean 8))))))) (y' := .agg [.int .i64 (IntKind.i64.wrap (a0.Mean + (IntKind.i64.wrap (a1.Took - (IntKind.i64.wrap (Int.tdiv a0.Mean 8)))))), .int .i64 a0.Swing, .int .i64 (if 1000 < (IntKind.i64.wrap (a0.Many + 1)) then 1000 else (IntKind.i64.wrap (a0.Many + 1))), .int .i64 0]) 1 hS rfl rfl rfl rfl rfl rfl rfl rfl fun H hS => ?_
      try simp only [W]
      refine seq_n hK12 ?_
      refine w_drawL gC [(17, [])] (by kernel_rfl) rfl (by kernel_rfl) ?_
      try simp only [W, EE, reduceIte, Nat.reduceAdd, Nat.reduceBEq, hS.var 1 rfl, tabAt, qAt, Nat.reduceEqDiff]
      rw [dv_lit _ _ _ rfl, Option.map_some, resV_s]
      try simp only [W, EE, Nat.reduceAdd, Nat.reduceBEq, hS.var 1 rfl]
      refine w_stv (a := .int .i64 (IntKind.i64.wrap (a0.Swing + (IntKind.i64.wrap ((if (IntKind.i64.wrap (0 - (IntKind.i64.wrap (a1.Took - (IntKind.i64.wrap (Int.tdiv a0.Mean 8)))))) > (IntKind.i64.wrap (a1.Took - (IntKind.i64.wrap (Int.tdiv a0.Mean 8)))) then (IntKind.i64.wrap (0 - (IntKind.i64.wrap (a1.Took - (IntKind.i64.wrap (Int.tdiv a0.Mean 8)))))) else (IntKind.i64.wrap (a1.Took - (IntKind.i64.wrap (Int.tdiv a0.Mean 8))))) - (IntKind.i64.wrap (Int.tdiv a0.Swing 4))))))) (y' := .agg [.int .i64 (IntKind.i64.wrap (a0.Mean + (IntKind.i64.wrap (a1.Took - (IntKind.i64.wrap (Int.tdiv a0.Mean 8)))))), .int .i64 (IntKind.i64.wrap (a0.Swing + (IntKind.i64.wrap ((if (IntKind.i64.wrap (0 - (IntKind.i64.wrap (a1.Took - (IntKind.i64.wrap (Int.tdiv a0.Mean 8)))))) > (IntKind.i64.wrap (a1.Took - (IntKind.i64.wrap (Int.tdiv a0.Mean 8)))) then (IntKind.i64.wrap (0 - (IntKind.i64.wrap (a1.Took - (IntKind.i64.wrap (Int.tdiv a0.Mean 8)))))) else (IntKind.i64.wrap (a1.Took - (IntKind.i64.wrap (Int.tdiv a0.Mean 8))))) - (IntKind.i64.wrap (Int.tdiv a0.Swing 4)))))), .int .i64 (if 1000 < (IntKind.i64.wrap (a0.Many + 1)) then 1000 else (IntKind.i64.wrap (a0.Many + 1))), .int .i64 0]) 1 hS rfl rfl rfl rfl rfl rfl rfl rfl fun H hS => ?_
      try simp only [W]
      refine fin_n0 hK0 ?_
      try obtain rfl := Option.some.inj h
      exact hP _ (hS.sel 2 [1] (by decide))
theorem impl_SeeGuess_w {a0 : Guess} {a1 : Seen} {r : (Guess × Bool)} (h : impl_SeeGuess a0 a1 = some r) {F : List It} {H : Heap} (hS : Own H (F)) {P : AV → Heap → Prop} (hP : ∀ H', Own H' (F) → P (.tup [.agg [.int .i64 r.1.Mean, .int .i64 r.1.Swing, .int .i64 r.1.Many, .int .i64 r.1.Back], .bool r.2]) H') : ACall C 49 [.agg [.int .i64 a0.Mean, .int .i64 a0.Swing, .int .i64 a0.Many, .int .i64 a0.Back], .agg [.int .i64 a1.Took, .bool a1.Twice, .bool a1.Lost]] H P := by
  refine acall_of gC (res := [.cell 4 74, .tmp 5]) (n := 18) rfl rfl rfl rfl fun K0 hK0 => ?_
  simp only [W, Nat.reduceSub, Nat.reduceAdd, List.replicate]
  unfold impl_SeeGuess at h
  refine w_seq fun K1 hK1 => ?_
  refine w_reg gC ?_
  try simp only [W, Nat.reduceAdd]
  refine w_box hS rfl rfl rfl rfl fun ip2 wp2 H hS => ?_
  try simp only [W]
  refine w_box hS rfl rfl rfl rfl fun ip4 wp4 H hS => ?_
  try simp only [W]
  refine w_alloc hS rfl rfl fun ip6 wp6 H hS => ?_
  try simp only [W]
  refine seq_n hK1 ?_
  refine w_seq fun K8 hK8 => ?_
  refine w_seq fun K9 hK9 => ?_
  obtain ⟨y11, h, g12⟩ := Option.bind_eq_some_iff.1 h
  refine w_join gC (fun s H => ∃ x10 : Bool, y11 = (x10) ∧ s = [u, u, .ptr ip2 wp2 0 0, .ptr ip4 wp4 0 0, .ptr ip6 wp6 0 0, u, u, u, u, u, u, u, u, .bool x10, u, u, u, u] ∧ Own H (⟨.ptr ip2 wp2 0 0, 4, [.agg [.int .i64 a0.Mean, .int .i64 a0.Swing, .int .i64 a0.Many, .int .i64 a0.Back]]⟩ :: ⟨.ptr ip4 wp4 0 0, 3, [.agg [.int .i64 a1.Took, .bool a1.Twice, .bool a1.Lost]]⟩ :: ⟨.ptr ip6 wp6 0 0, 4, [.agg [.int .i64 0, .int .i64 0, .int .i64 0, .int .i64 0]]⟩ :: F)) (fun K13 hK13 => ?_) (fun s H hq => ?_)
  · refine w_seq fun K14 hK14 => ?_
    refine w_reg gC ?_
    try simp only [W, EE, reduceIte, Nat.reduceAdd, Nat.reduceLeDiff, hS.var 2 rfl]
    refine w_call h fun b15 hb15 h => ?_
    refine impl_GoodGuess_w hb15 hS fun H hS => ?_
    try simp only [W]
    refine w_grdT h (fun hc h => ?_) (fun hc h => ?_)
    · try simp only [W, hc]
      refine seq_n hK14 ?_
      refine w_kill ?_
      exact cut_n hK13 ⟨_, (Option.some.inj h).symm, rfl, (hS.sel 3 [2, 1, 0] (by decide))⟩
    · try simp only [W, EE, reduceIte, Nat.reduceAdd, Nat.reduceLeDiff, hS.var 1 rfl, hc]
      refine w_call h fun b16 hb16 h => ?_
      refine impl_isSeen_w hb16 hS fun H hS => ?_
      try simp only [W, reduceIte, Bool.false_eq_true]
      refine seq_n hK14 ?_
      refine w_kill ?_
      exact cut_n hK13 ⟨_, (Option.some.inj h).symm, rfl, (hS.sel 3 [2, 1, 0] (by decide))⟩
  · obtain ⟨x10, ey, rfl, hS⟩ := hq; obtain rfl := ey.symm
    replace h := g12
    try dsimp only at h
    refine seq_n hK9 ?_
    refine w_if ?_
    simp only [W]
    refine w_cnd h (fun hc h => ?_) (fun hc h => ?_)
    · refine w_seq fun K17 hK17 => ?_
      refine w_reg gC ?_
      try simp only [W, EE, Nat.reduceAdd]
      refine w_bld rfl rfl rfl rfl rfl ?_
      try simp only [W]
      refine w_stv (a := .agg [.int .i64 0, .int .i64 0, .int .i64 0, .int .i64 0]) (y' := .agg [.int .i64 0, .int .i64 0, .int .i64 0, .int .i64 0]) 2 hS rfl rfl rfl rfl rfl rfl rfl rfl fun H hS => ?_
      try simp only [W]
      refine seq_n hK17 ?_
      refine w_ret ?_
      refine seq_r hK8 ?_
      refine fin_r hK0 (res_c rfl rfl (hS.var 2 rfl) rfl (res_tc rfl rfl)) ?_
      try obtain rfl := Option.some.inj h
      exact hP _ (hS.sel 3 [] (by decide))
    · refine w_skip ?_
      refine seq_n hK8 ?_
      refine w_seq fun K18 hK18 => ?_
      refine w_reg gC ?_
      try simp only [W, EE, reduceIte, Nat.reduceAdd, Nat.reduceLeDiff, hS.var 1 rfl]
      refine w_call h fun b19 hb19 h => ?_
      refine impl_Guess_see_w hb19 hS fun H hS => ?_
      try simp only [W]
      refine seq_n hK18 ?_
      refine w_seq fun K20 hK20 => ?_
      refine w_reg gC ?_
      try simp only [W, EE, reduceIte, Nat.reduceAdd, Nat.reduceLeDiff, hS.var 0 rfl]
      refine w_stv (a := .agg [.int .i64 b19.Mean, .int .i64 b19.Swing, .int .i64 b19.Many, .int .i64 b19.Back]) (y' := .agg [.int .i64 b19.Mean, .int .i64 b19.Swing, .int .i64 b19.Many, .int .i64 b19.Back]) 2 hS rfl rfl rfl rfl rfl rfl rfl rfl fun H hS => ?_
      try simp only [W]
      refine seq_n hK20 ?_
      refine w_ret ?_
      refine fin_r hK0 (res_c rfl rfl (hS.var 2 rfl) rfl (res_tc rfl rfl)) ?_
      try obtain rfl := Option.some.inj h
      exact hP _ (hS.sel 3 [] (by decide))
theorem spec_GoodGuess_w {a0 : Guess} {r : (Bool)} (h : spec_GoodGuess a0 = some r) {F : List It} {H : Heap} (hS : Own H (F)) {P : AV → Heap → Prop} (hP : ∀ H', Own H' (F) → P (.bool r) H') : ACall C 130 [.agg [.int .i64 a0.Mean, .int .i64 a0.Swing, .int .i64 a0.Many, .int .i64 a0.Back]] H P := by
  refine acall_of gC (res := [.tmp 2]) (n := 21) rfl rfl rfl rfl fun K0 hK0 => ?_
  simp only [W, Nat.reduceSub, Nat.reduceAdd, List.replicate]
  unfold spec_GoodGuess at h
  refine w_seq fun K1 hK1 => ?_
  refine w_reg gC ?_
  try simp only [W, Nat.reduceAdd]
  refine w_box hS rfl rfl rfl rfl fun ip2 wp2 H hS => ?_
  try simp only [W]
  refine seq_n hK1 ?_
  refine w_seq fun K4 hK4 => ?_
  refine w_reg gC ?_
  try simp only [W, EE, Nat.reduceAdd, Nat.reduceBEq, hS.var 0 rfl]
  refine w_call h fun b5 hb5 h => ?_
  refine spec_l1In_w hb5 hS fun H hS => ?_
  try simp only [W]
  refine w_grdT h (fun hc h => ?_) (fun hc h => ?_)
  · try simp only [W, EE, Nat.reduceAdd, Nat.reduceBEq, hS.var 0 rfl, hc]
    refine w_call h fun b6 hb6 h => ?_
    refine spec_l1In_w hb6 hS fun H hS => ?_
    try simp only [W, reduceIte]
    refine w_grdT h (fun hc h => ?_) (fun hc h => ?_)
    · try simp only [W, EE, Nat.reduceAdd, Nat.reduceBEq, hS.var 0 rfl, hc]
      refine w_call h fun b7 hb7 h => ?_
      refine spec_l1In_w hb7 hS fun H hS => ?_
      try simp only [W, reduceIte]
      refine w_grdT h (fun hc h => ?_) (fun hc h => ?_)
      · try simp only [W, EE, Nat.reduceAdd, Nat.reduceBEq, hS.var 0 rfl, hc]
        refine w_call h fun b8 hb8 h => ?_
        refine spec_l1In_w hb8 hS fun H hS => ?_
        try simp only [W, reduceIte]
        refine seq_n hK4 ?_
        refine w_ret ?_
        refine fin_r1 hK0 rfl ?_
        try obtain rfl := Option.some.inj h
        exact hP _ (hS.sel 1 [] (by decide))
      · try simp only [W, hc]
        refine seq_n hK4 ?_
        refine w_ret ?_
        refine fin_r1 hK0 rfl ?_
        try obtain rfl := Option.some.inj h
        exact hP _ (hS.sel 1 [] (by decide))
    · try simp only [W, hc]
      refine seq_n hK4 ?_
      refine w_ret ?_
      refine fin_r1 hK0 rfl ?_
      try obtain rfl := Option.some.inj h
      exact hP _ (hS.sel 1 [] (by decide))
  · try simp only [W, hc]
    refine seq_n hK4 ?_
    refine w_ret ?_
    refine fin_r1 hK0 rfl ?_
    try obtain rfl := Option.some.inj h
    exact hP _ (hS.sel 1 [] (by decide))
theorem spec_SeeGuess_w {a0 : Guess} {a1 : Seen} {r : (Guess × Bool)} (h : spec_SeeGuess a0 a1 = some r) {F : List It} {H : Heap} (hS : Own H (F)) {P : AV → Heap → Prop} (hP : ∀ H', Own H' (F) → P (.tup [.agg [.int .i64 r.1.Mean, .int .i64 r.1.Swing, .int .i64 r.1.Many, .int .i64 r.1.Back], .bool r.2]) H') : ACall C 50 [.agg [.int .i64 a0.Mean, .int .i64 a0.Swing, .int .i64 a0.Many, .int .i64 a0.Back], .agg [.int .i64 a1.Took, .bool a1.Twice, .bool a1.Lost]] H P := by
  refine acall_of gC (res := [.cell 4 74, .tmp 5]) (n := 18) rfl rfl rfl rfl fun K0 hK0 => ?_
  simp only [W, Nat.reduceSub, Nat.reduceAdd, List.replicate]
  unfold spec_SeeGuess at h
  refine w_seq fun K1 hK1 => ?_
  refine w_reg gC ?_
  try simp only [W, Nat.reduceAdd]
  refine w_box hS rfl rfl rfl rfl fun ip2 wp2 H hS => ?_
  try simp only [W]
  refine w_box hS rfl rfl rfl rfl fun ip4 wp4 H hS => ?_
  try simp only [W]
  refine w_alloc hS rfl rfl fun ip6 wp6 H hS => ?_
  try simp only [W]
  refine seq_n hK1 ?_
  refine w_seq fun K8 hK8 => ?_
  refine w_seq fun K9 hK9 => ?_
  obtain ⟨y11, h, g12⟩ := Option.bind_eq_some_iff.1 h
  refine w_join gC (fun s H => ∃ x10 : Bool, y11 = (x10) ∧ s = [u, u, .ptr ip2 wp2 0 0, .ptr ip4 wp4 0 0, .ptr ip6 wp6 0 0, u, u, u, u, u, u, u, u, .bool x10, u, u, u, u] ∧ Own H (⟨.ptr ip2 wp2 0 0, 4, [.agg [.int .i64 a0.Mean, .int .i64 a0.Swing, .int .i64 a0.Many, .int .i64 a0.Back]]⟩ :: ⟨.ptr ip4 wp4 0 0, 3, [.agg [.int .i64 a1.Took, .bool a1.Twice, .bool a1.Lost]]⟩ :: ⟨.ptr ip6 wp6 0 0, 4, [.agg [.int .i64 0, .int .i64 0, .int .i64 0, .int .i64 0]]⟩ :: F)) (fun K13 hK13 => ?_) (fun s H hq => ?_)
  · refine w_seq fun K14 hK14 => ?_
    refine w_reg gC ?_
    try simp only [W, EE, reduceIte, Nat.reduceAdd, Nat.reduceLeDiff, hS.var 2 rfl]
    refine w_call h fun b15 hb15 h => ?_
    refine spec_GoodGuess_w hb15 hS fun H hS => ?_
    try simp only [W]
    refine w_grdT h (fun hc h => ?_) (fun hc h => ?_)
    · try simp only [W, hc]
      refine seq_n hK14 ?_
      refine w_kill ?_
      exact cut_n hK13 ⟨_, (Option.some.inj h).symm, rfl, (hS.sel 3 [2, 1, 0] (by decide))⟩
    · try simp only [W, EE, reduceIte, Nat.reduceAdd, Nat.reduceLeDiff, hS.var 1 rfl, hc]
      refine w_call h fun b16 hb16 h => ?_
      refine spec_l9Seen_w hb16 hS fun H hS => ?_
      try simp only [W, reduceIte, Bool.false_eq_true]
      refine seq_n hK14 ?_
      refine w_kill ?_
      exact cut_n hK13 ⟨_, (Option.some.inj h).symm, rfl, (hS.sel 3 [2, 1, 0] (by decide))⟩
  · obtain ⟨x10, ey, rfl, hS⟩ := hq; obtain rfl := ey.symm
    replace h := g12
    try dsimp only at h
    refine seq_n hK9 ?_
    refine w_if ?_
    simp only [W]
    refine w_cnd h (fun hc h => ?_) (fun hc h => ?_)
    · refine w_seq fun K17 hK17 => ?_
      refine w_reg gC ?_
      try simp only [W, EE, Nat.reduceAdd]
      refine w_bld rfl rfl rfl rfl rfl ?_
      try simp only [W]
      refine w_stv (a := .agg [.int .i64 0, .int .i64 0, .int .i64 0, .int .i64 0]) (y' := .agg [.int .i64 0, .int .i64 0, .int .i64 0, .int .i64 0]) 2 hS rfl rfl rfl rfl rfl rfl rfl rfl fun H hS => ?_
      try simp only [W]
      refine seq_n hK17 ?_
      refine w_ret ?_
      refine seq_r hK8 ?_
      refine fin_r hK0 (res_c rfl rfl (hS.var 2 rfl) rfl (res_tc rfl rfl)) ?_
      try obtain rfl := Option.some.inj h
      exact hP _ (hS.sel 3 [] (by decide))
    · refine w_skip ?_
      refine seq_n hK8 ?_
      refine w_seq fun K18 hK18 => ?_
      refine w_reg gC ?_
      try simp only [W, EE, reduceIte, Nat.reduceAdd, Nat.reduceLeDiff, hS.var 0 rfl, hS.var 1 rfl]
      refine w_call h fun b19 hb19 h => ?_
      refine spec_l9See_w hb19 hS fun H hS => ?_
      try simp only [W]
      refine w_stv (a := .agg [.int .i64 b19.Mean, .int .i64 b19.Swing, .int .i64 b19.Many, .int .i64 b19.Back]) (y' := .agg [.int .i64 b19.Mean, .int .i64 b19.Swing, .int .i64 b19.Many, .int .i64 b19.Back]) 2 hS rfl rfl rfl rfl rfl rfl rfl rfl fun H hS => ?_
      try simp only [W]
      refine seq_n hK18 ?_
      refine w_ret ?_
      refine fin_r hK0 (res_c rfl rfl (hS.var 2 rfl) rfl (res_tc rfl rfl)) ?_
      try obtain rfl := Option.some.inj h
      exact hP _ (hS.sel 3 [] (by decide))
theorem impl_WaitOf_w {a0 : Guess} {r : (Int × Bool)} (h : impl_WaitOf a0 = some r) {F : List It} {H : Heap} (hS : Own H (F)) {P : AV → Heap → Prop} (hP : ∀ H', Own H' (F) → P (.tup [.int .i64 r.1, .bool r.2]) H') : ACall C 51 [.agg [.int .i64 a0.Mean, .int .i64 a0.Swing, .int .i64 a0.Many, .int .i64 a0.Back]] H P := by
  refine acall_of gC (res := [.tmp 2, .tmp 3]) (n := 18) rfl rfl rfl rfl fun K0 hK0 => ?_
  simp only [W, Nat.reduceSub, Nat.reduceAdd, List.replicate]
  unfold impl_WaitOf at h
  refine w_seq fun K1 hK1 => ?_
  refine w_reg gC ?_
  try simp only [W, Nat.reduceAdd]
  refine w_box hS rfl rfl rfl rfl fun ip2 wp2 H hS => ?_
  try simp only [W]
  refine seq_n hK1 ?_
  refine w_seq fun K4 hK4 => ?_
  refine w_seq fun K5 hK5 => ?_
  refine w_reg gC ?_
  try simp only [W, EE, reduceIte, Nat.reduceAdd, Nat.reduceLeDiff, hS.var 0 rfl]
  refine w_call h fun b6 hb6 h => ?_
  refine impl_GoodGuess_w hb6 hS fun H hS => ?_
  try simp only [W]
  refine seq_n hK5 ?_
  refine w_if ?_
  simp only [W]
  refine w_cnd h (fun hc h => ?_) (fun hc h => ?_)
  · refine w_seq fun K7 hK7 => ?_
    refine w_reg gC ?_
    try simp only [W, Nat.reduceAdd]
    refine seq_n hK7 ?_
    refine w_ret ?_
    refine seq_r hK4 ?_
    refine fin_r2 hK0 rfl rfl ?_
    try obtain rfl := Option.some.inj h
    exact hP _ (hS.sel 1 [] (by decide))
  · refine w_skip ?_
    refine seq_n hK4 ?_
    refine w_seq fun K8 hK8 => ?_
    refine w_reg gC ?_
    try simp only [W, EE, Nat.reduceAdd, Nat.reduceBEq, hS.var 0 rfl]
    rw [dv_lit _ _ _ rfl, Option.map_some, resV_s]
    try simp only [W, EE, Nat.reduceAdd, Nat.reduceBEq, hS.var 0 rfl]
    refine w_num _ h fun x9 hx9 h => ?_
    try simp only [W]
    refine seq_n hK8 ?_
    refine w_ret ?_
    refine fin_r2 hK0 rfl rfl ?_
    try obtain rfl := Option.some.inj h
    exact hP _ (hS.sel 1 [] (by decide))
theorem spec_l1Most_w {a0 : Int} {a1 : Int} {r : (Int)} (h : spec_l1Most a0 a1 = some r) {F : List It} {H : Heap} (hS : Own H (F)) {P : AV → Heap → Prop} (hP : ∀ H', Own H' (F) → P (.int .i64 r) H') : ACall C 137 [.int .i64 a0, .int .i64 a1] H P := by
  refine acall_of gC (res := [.tmp 4]) (n := 10) rfl rfl rfl rfl fun K0 hK0 => ?_
  simp only [W, Nat.reduceSub, Nat.reduceAdd, List.replicate]
  unfold spec_l1Most at h
  refine w_seq fun K1 hK1 => ?_
  refine w_reg gC ?_
  try simp only [W, Nat.reduceAdd]
  refine seq_n hK1 ?_
  refine w_seq fun K2 hK2 => ?_
  refine w_seq fun K3 hK3 => ?_
  refine w_reg gC ?_
  try simp only [W, EE, Nat.reduceAdd]
  refine seq_n hK3 ?_
  refine w_if ?_
  simp only [W]
  refine w_cnd h (fun hc h => ?_) (fun hc h => ?_)
  · refine w_seq fun K4 hK4 => ?_
    refine w_reg gC ?_
    try simp only [W, Nat.reduceAdd]
    refine seq_n hK4 ?_
    refine w_ret ?_
    refine seq_r hK2 ?_
    refine fin_r1 hK0 rfl ?_
    try obtain rfl := Option.some.inj h
    exact hP _ hS
  · refine w_skip ?_
    refine seq_n hK2 ?_
    refine w_seq fun K5 hK5 => ?_
    refine w_reg gC ?_
    try simp only [W, Nat.reduceAdd]
    refine seq_n hK5 ?_
    refine w_ret ?_
    refine fin_r1 hK0 rfl ?_
    try obtain rfl := Option.some.inj h
    exact hP _ hS
theorem spec_l9Wait_w {a0 : Guess} {r : (Int)} (h : spec_l9Wait a0 = some r) {F : List It} {H : Heap} (hS : Own H (F)) {P : AV → Heap → Prop} (hP : ∀ H', Own H' (F) → P (.int .i64 r) H') : ACall C 133 [.agg [.int .i64 a0.Mean, .int .i64 a0.Swing, .int .i64 a0.Many, .int .i64 a0.Back]] H P := by
  refine acall_of gC (res := [.tmp 2]) (n := 17) rfl rfl rfl rfl fun K0 hK0 => ?_
  simp only [W, Nat.reduceSub, Nat.reduceAdd, List.replicate]
  unfold spec_l9Wait at h
  refine w_seq fun K1 hK1 => ?_
  refine w_reg gC ?_
  try simp only [W, Nat.reduceAdd]
  refine w_box hS rfl rfl rfl rfl fun ip2 wp2 H hS => ?_
  try simp only [W]
  refine seq_n hK1 ?_
  refine w_seq fun K4 hK4 => ?_
  refine w_reg gC ?_
  try simp only [W, EE, Nat.reduceAdd, Nat.reduceBEq, hS.var 0 rfl]
  rw [dv_lit _ _ _ rfl, Option.map_some, resV_s]
  try simp only [W, EE, Nat.reduceAdd, Nat.reduceBEq, hS.var 0 rfl]
  refine w_call h fun b5 hb5 h => ?_
  refine spec_l1Most_w hb5 hS fun H hS => ?_
  try simp only [W]
  refine seq_n hK4 ?_
  refine w_seq fun K6 hK6 => ?_
  refine w_reg gC ?_
  try simp only [W, EE, Nat.reduceAdd, Nat.reduceBEq, hS.var 0 rfl]
  refine w_num _ h fun x7 hx7 h => ?_
  try simp only [W]
  refine w_call h fun b8 hb8 h => ?_
  refine spec_l1Least_w hb8 hS fun H hS => ?_
  try simp only [W]
  refine seq_n hK6 ?_
  refine w_ret ?_
  refine fin_r1 hK0 rfl ?_
  try obtain rfl := Option.some.inj h
  exact hP _ (hS.sel 1 [] (by decide))
theorem spec_WaitOf_w {a0 : Guess} {r : (Int × Bool)} (h : spec_WaitOf a0 = some r) {F : List It} {H : Heap} (hS : Own H (F)) {P : AV → Heap → Prop} (hP : ∀ H', Own H' (F) → P (.tup [.int .i64 r.1, .bool r.2]) H') : ACall C 52 [.agg [.int .i64 a0.Mean, .int .i64 a0.Swing, .int .i64 a0.Many, .int .i64 a0.Back]] H P := by
  refine acall_of gC (res := [.tmp 2, .tmp 3]) (n := 9) rfl rfl rfl rfl fun K0 hK0 => ?_
  simp only [W, Nat.reduceSub, Nat.reduceAdd, List.replicate]
  unfold spec_WaitOf at h
  refine w_seq fun K1 hK1 => ?_
  refine w_reg gC ?_
  try simp only [W, Nat.reduceAdd]
  refine w_box hS rfl rfl rfl rfl fun ip2 wp2 H hS => ?_
  try simp only [W]
  refine seq_n hK1 ?_
  refine w_seq fun K4 hK4 => ?_
  refine w_seq fun K5 hK5 => ?_
  refine w_reg gC ?_
  try simp only [W, EE, reduceIte, Nat.reduceAdd, Nat.reduceLeDiff, hS.var 0 rfl]
  refine w_call h fun b6 hb6 h => ?_
  refine spec_GoodGuess_w hb6 hS fun H hS => ?_
  try simp only [W]
  refine seq_n hK5 ?_
  refine w_if ?_
  simp only [W]
  refine w_cnd h (fun hc h => ?_) (fun hc h => ?_)
  · refine w_seq fun K7 hK7 => ?_
    refine w_reg gC ?_
    try simp only [W, Nat.reduceAdd]
    refine seq_n hK7 ?_
    refine w_ret ?_
    refine seq_r hK4 ?_
    refine fin_r2 hK0 rfl rfl ?_
    try obtain rfl := Option.some.inj h
    exact hP _ (hS.sel 1 [] (by decide))
  · refine w_skip ?_
    refine seq_n hK4 ?_
    refine w_seq fun K8 hK8 => ?_
    refine w_reg gC ?_
    try simp only [W, EE, reduceIte, Nat.reduceAdd, Nat.reduceLeDiff, hS.var 0 rfl]
    refine w_call h fun b9 hb9 h => ?_
    refine spec_l9Wait_w hb9 hS fun H hS => ?_
    try simp only [W]
    refine seq_n hK8 ?_
    refine w_ret ?_
    refine fin_r2 hK0 rfl rfl ?_
    try obtain rfl := Option.some.inj h
    exact hP _ (hS.sel 1 [] (by decide))
theorem spec_DrawNewGuess_w {a0 : List Int} {r : (Int)} (h : spec_DrawNewGuess a0 = some r) {F : List It} {H : Heap} (hS : Own H (F)) {P : AV → Heap → Prop} (hP : ∀ H', Own H' (F) → P (.int .i64 r) H') : ACall C 54 [.fz (a0.map (AV.int .u8))] H P := by
  refine acall_of gC (res := [.tmp 2]) (n := 10) rfl rfl rfl rfl fun K0 hK0 => ?_
  simp only [W, Nat.reduceSub, Nat.reduceAdd, List.replicate]
  unfold spec_DrawNewGuess at h
  refine w_seq fun K1 hK1 => ?_
  refine w_reg gC ?_
  try simp only [W, Nat.reduceAdd]
  refine seq_n hK1 ?_
  refine w_seq fun K2 hK2 => ?_
  refine w_reg gC ?_
  try simp only [W, EE, Nat.reduceAdd]
  refine w_bld rfl rfl rfl rfl rfl ?_
  try simp only [W]
  refine w_box hS rfl rfl rfl rfl fun ip3 wp3 H hS => ?_
  try simp only [W]
  refine seq_n hK2 ?_
  refine w_seq fun K5 hK5 => ?_
  refine w_regF (fz := [(2, [([8], [.sl [.sc]])])]) gC ?_
  try simp only [W, Nat.reduceAdd, Nat.reduceBEq]
  refine w_lit (el := ([0, 1, 5, 1000, 1001] : List Int).map (AV.int .i64)) hS rfl rfl rfl rfl rfl rfl rfl fun v6 H qv6 hS => ?_
  try simp only [W, Nat.reduceAdd]
  refine FZ_own 0 hS rfl qv6 rfl (fun _ _ => by simp [takeE, takeT, plainA]) (fun _ => rfl) fun H hsame hS => ?_
  try simp only [W]
  refine w_call h fun b8 hb8 h => ?_
  obtain ⟨b9, b10⟩ := b8
  try dsimp only at h
  refine spec_l1Cur_among_w hb8 hS fun H hS => ?_
  try simp only [W, Nat.reduceAdd, Nat.reduceBEq]
  refine seq_n hK5 ?_
  refine w_ret ?_
  refine fin_r1 hK0 rfl ?_
  try obtain rfl := Option.some.inj h
  exact hP _ (hS.sel 1 [] (by decide))
theorem impl_NewGuess_w {a0 : Int} {r : (Guess × Bool)} (h : impl_NewGuess a0 = some r) {F : List It} {H : Heap} (hS : Own H (F)) {P : AV → Heap → Prop} (hP : ∀ H', Own H' (F) → P (.tup [.agg [.int .i64 r.1.Mean, .int .i64 r.1.Swing, .int .i64 r.1.Many, .int .i64 r.1.Back], .bool r.2]) H') : ACall C 55 [.int .i64 a0] H P := by
  refine acall_of gC (res := [.cell 2 74, .tmp 3]) (n := 13) rfl rfl rfl rfl fun K0 hK0 => ?_
  simp only [W, Nat.reduceSub, Nat.reduceAdd, List.replicate]
  unfold impl_NewGuess at h
  refine w_seq fun K1 hK1 => ?_
  refine w_reg gC ?_
  try simp only [W, Nat.reduceAdd]
  refine w_alloc hS rfl rfl fun ip2 wp2 H hS => ?_
  try simp only [W]
  refine seq_n hK1 ?_
  refine w_seq fun K4 hK4 => ?_
  refine w_seq fun K5 hK5 => ?_
  refine w_reg gC ?_
  try simp only [W, Nat.reduceAdd]
  refine w_call h fun b6 hb6 h => ?_
  refine impl_in_w hb6 hS fun H hS => ?_
  try simp only [W]
  refine seq_n hK5 ?_
  refine w_if ?_
  simp only [W]
  refine w_cnd h (fun hc h => ?_) (fun hc h => ?_)
  · refine w_seq fun K7 hK7 => ?_
    refine w_reg gC ?_
    try simp only [W, EE, Nat.reduceAdd]
    refine w_bld rfl rfl rfl rfl rfl ?_
    try simp only [W]
    refine w_stv (a := .agg [.int .i64 0, .int .i64 0, .int .i64 0, .int .i64 0]) (y' := .agg [.int .i64 0, .int .i64 0, .int .i64 0, .int .i64 0]) 0 hS rfl rfl rfl rfl rfl rfl rfl rfl fun H hS => ?_
    try simp only [W]
    refine seq_n hK7 ?_
    refine w_ret ?_
    refine seq_r hK4 ?_
    refine fin_r hK0 (res_c rfl rfl (hS.var 0 rfl) rfl (res_tc rfl rfl)) ?_
    try obtain rfl := Option.some.inj h
    exact hP _ (hS.sel 1 [] (by decide))
  · refine w_skip ?_
    refine seq_n hK4 ?_
    refine w_seq fun K8 hK8 => ?_
    refine w_reg gC ?_
    try simp only [W, EE, Nat.reduceAdd]
    refine w_bld rfl rfl rfl rfl rfl ?_
    try simp only [W]
    refine w_stv (a := .agg [.int .i64 (IntKind.i64.wrap (8 * a0)), .int .i64 (IntKind.i64.wrap (2 * a0)), .int .i64 1, .int .i64 0]) (y' := .agg [.int .i64 (IntKind.i64.wrap (8 * a0)), .int .i64 (IntKind.i64.wrap (2 * a0)), .int .i64 1, .int .i64 0]) 0 hS rfl rfl rfl rfl rfl rfl rfl rfl fun H hS => ?_
    try simp only [W]
    refine seq_n hK8 ?_
    refine w_ret ?_
    refine fin_r hK0 (res_c rfl rfl (hS.var 0 rfl) rfl (res_tc rfl rfl)) ?_
    try obtain rfl := Option.some.inj h
    exact hP _ (hS.sel 1 [] (by decide))
theorem laws_FnGuesses_w {a0 : List Int} {a1 : List Int} {r : (Bool)} (h : laws_FnGuesses a0 a1 = some r) {F : List It} {H : Heap} (hS : Own H (F)) {P : AV → Heap → Prop} (hP : ∀ H', Own H' (F) → P (.bool r) H') : ACall C 11 [.fz (a0.map (AV.int .u8)), .fz (a1.map (AV.int .u8))] H P := by
  refine acall_of gC (res := [.tmp 4]) (n := 148) rfl rfl rfl rfl fun K0 hK0 => ?_
  simp only [W, Nat.reduceSub, Nat.reduceAdd, List.replicate]
  unfold laws_FnGuesses at h
  refine w_seq fun K1 hK1 => ?_
  refine w_reg gC ?_
  try simp only [W, Nat.reduceAdd]
  refine seq_n hK1 ?_
  refine w_seq fun K2 hK2 => ?_
  refine w_seq fun K3 hK3 => ?_
  refine w_reg gC ?_
  try simp only [W, EE, Nat.reduceAdd]
  refine seq_n hK3 ?_
  refine w_if ?_
  simp only [W]
  refine w_cnd h (fun hc h => ?_) (fun hc h => ?_)
  · refine w_seq fun K4 hK4 => ?_
    refine w_reg gC ?_
    try simp only [W, Nat.reduceAdd]
    refine seq_n hK4 ?_
    refine w_ret ?_
    refine seq_r hK2 ?_
    refine fin_r1 hK0 rfl ?_
    try obtain rfl := Option.some.inj h
    exact hP _ hS
  · refine w_skip ?_
    refine seq_n hK2 ?_
    refine w_seq fun K5 hK5 => ?_
    refine w_reg gC ?_
    try simp only [W, Nat.reduceAdd]
    refine w_call h fun b6 hb6 h => ?_
    obtain ⟨b7, b8⟩ := b6
    try dsimp only at h
    refine spec_DrawSeeGuess_w hb6 hS fun H hS => ?_
    try simp only [W]
    refine w_alloc hS rfl rfl fun ip9 wp9 H hS => ?_
    try simp only [W]
    refine w_alloc hS rfl rfl fun ip11 wp11 H hS => ?_
    try simp only [W]
    refine w_stv (a := .agg [.int .i64 b7.Mean, .int .i64 b7.Swing, .int .i64 b7.Many, .int .i64 b7.Back]) (y' := .agg [.int .i64 b7.Mean, .int .i64 b7.Swing, .int .i64 b7.Many, .int .i64 b7.Back]) 1 hS rfl rfl rfl rfl rfl rfl rfl rfl fun H hS => ?_
    try simp only [W]
    refine w_stv (a := .agg [.int .i64 b8.Took, .bool b8.Twice, .bool b8.Lost]) (y' := .agg [.int .i64 b8.Took, .bool b8.Twice, .bool b8.Lost]) 0 hS rfl rfl rfl rfl rfl rfl rfl rfl fun H hS => ?_
    try simp only [W]
    refine seq_n hK5 ?_
    refine w_seq fun K13 hK13 => ?_
    refine w_reg gC ?_
    try simp only [W, EE, reduceIte, Nat.reduceAdd, Nat.reduceLeDiff, hS.var 1 rfl, hS.var 0 rfl]
    refine w_call h fun b14 hb14 h => ?_
    obtain ⟨b15, b16⟩ := b14
    try dsimp only at h
    refine impl_SeeGuess_w hb14 hS fun H hS => ?_
    try simp only [W]
    refine w_alloc hS rfl rfl fun ip17 wp17 H hS => ?_
    try simp only [W]
    refine w_stv (a := .agg [.int .i64 b15.Mean, .int .i64 b15.Swing, .int .i64 b15.Many, .int .i64 b15.Back]) (y' := .agg [.int .i64 b15.Mean, .int .i64 b15.Swing, .int .i64 b15.Many, .int .i64 b15.Back]) 0 hS rfl rfl rfl rfl rfl rfl rfl rfl fun H hS => ?_
    try simp only [W]
    refine seq_n hK13 ?_
    refine w_seq fun K19 hK19 => ?_
    refine w_reg gC ?_
    try simp only [W, EE, reduceIte, Nat.reduceAdd, Nat.reduceLeDiff, hS.var 2 rfl, hS.var 1 rfl]
    refine w_call h fun b20 hb20 h => ?_
    obtain ⟨b21, b22⟩ := b20
    try dsimp only at h
    refine spec_SeeGuess_w hb20 hS fun H hS => ?_
    try simp only [W]
    refine w_alloc hS rfl rfl fun ip23 wp23 H hS => ?_
    try simp only [W]
    refine w_stv (a := .agg [.int .i64 b21.Mean, .int .i64 b21.Swing, .int .i64 b21.Many, .int .i64 b21.Back]) (y' := .agg [.int .i64 b21.Mean, .int .i64 b21.Swing, .int .i64 b21.Many, .int .i64 b21.Back]) 0 hS rfl rfl rfl rfl rfl rfl rfl rfl fun H hS => ?_
    try simp only [W]
    refine seq_n hK19 ?_
    refine w_seq fun K25 hK25 => ?_
    refine w_reg gC ?_
    try simp only [W, EE, reduceIte, Nat.reduceAdd, Nat.reduceLeDiff, hS.var 3 rfl]
    refine w_call h fun b26 hb26 h => ?_
    obtain ⟨b27, b28⟩ := b26
    try dsimp only at h
    refine impl_WaitOf_w hb26 hS fun H hS => ?_
    try simp only [W]
    refine seq_n hK25 ?_
    refine w_seq fun K29 hK29 => ?_
    refine w_reg gC ?_
    try simp only [W, EE, reduceIte, Nat.reduceAdd, Nat.reduceLeDiff, hS.var 3 rfl]
    refine w_call h fun b30 hb30 h => ?_
    obtain ⟨b31, b32⟩ := b30
    try dsimp only at h
    refine spec_WaitOf_w hb30 hS fun H hS => ?_
    try simp only [W]
    refine seq_n hK29 ?_
    refine w_seq fun K33 hK33 => ?_
    refine w_seq fun K34 hK34 => ?_
    obtain ⟨y36, h, g37⟩ := Option.bind_eq_some_iff.1 h
    refine w_join gC (fun s H => ∃ x35 : Bool, y36 = (x35) ∧ s = [u, .fz (a1.map (AV.int .u8)), u, u, u, .ptr ip9 wp9 0 0, .ptr ip11 wp11 0 0, .ptr ip17 wp17 0 0, .bool b16, u, u, .int .i64 b27, u, u, u, u, u, u, u, u, u, u, u, u, u, u, u, u, u, u, u, u, u, u, u, u, u, u, u, u, u, u, u, u, u, u, u, u, u, u, u, u, u, u, u, u, u, u, u, u, u, u, u, u, u, u, u, u, u, u, u, u, u, u, u, u, u, u, .bool x35, u, u, u, u, u, u, u, u, u, u, u, u, u, u, u, u, u, u, u, u, u, u, u, u, u, u, u, u, u, u, u, u, u, u, u, u, u, u, u, u, u, u, u, u, u, u, u, u, u, u, u, u, u, u, u, u, u, u, u, u, u, u, u, u, u, u, u, u, u] ∧ Own H (⟨.ptr ip9 wp9 0 0, 4, [.agg [.int .i64 b7.Mean, .int .i64 b7.Swing, .int .i64 b7.Many, .int .i64 b7.Back]]⟩ :: ⟨.ptr ip11 wp11 0 0, 3, [.agg [.int .i64 b8.Took, .bool b8.Twice, .bool b8.Lost]]⟩ :: ⟨.ptr ip17 wp17 0 0, 4, [.agg [.int .i64 b15.Mean, .int .i64 b15.Swing, .int .i64 b15.Many, .int .i64 b15.Back]]⟩ :: F)) (fun K38 hK38 => ?_) (fun s H hq => ?_)
    · refine w_seq fun K39 hK39 => ?_
      refine w_reg gC ?_
      try simp only [W, EE, Nat.reduceAdd]
      rw [b_bneq _ _ _ _ (h := rfl) rfl, resV_s]
      try simp only [W]
      refine w_grdT h (fun hc h => ?_) (fun hc h => ?_)
      · try simp only [W, hc]
        refine seq_n hK39 ?_
        refine w_kill ?_
        exact cut_n hK38 ⟨_, (Option.some.inj h).symm, rfl, (hS.sel 4 [3, 2, 1] (by decide))⟩
      · try simp only [W, EE, reduceIte, Nat.reduceAdd, Nat.reduceLeDiff, Bool.false_eq_true, hS.var 1 rfl, hS.var 0 rfl, hc]
        refine w_grdT h (fun hc h => ?_) (fun hc h => ?_)
        · try simp only [W, hc]
          refine seq_n hK39 ?_
          refine w_kill ?_
          exact cut_n hK38 ⟨_, (Option.some.inj h).symm, rfl, (hS.sel 4 [3, 2, 1] (by decide))⟩
        · try simp only [W, EE, hc]
          rw [b_bneq _ _ _ _ (h := rfl) rfl, resV_s]
          try simp only [W, reduceIte, Bool.false_eq_true]
          refine w_grdT h (fun hc h => ?_) (fun hc h => ?_)
          · try simp only [W, hc]
            refine seq_n hK39 ?_
            refine w_kill ?_
            exact cut_n hK38 ⟨_, (Option.some.inj h).symm, rfl, (hS.sel 4 [3, 2, 1] (by decide))⟩
          · try simp only [W, EE, reduceIte, Bool.false_eq_true, hc]
            refine w_grdT h (fun hc h => ?_) (fun hc h => ?_)
            · try simp only [W, hc]
              refine seq_n hK39 ?_
              refine w_kill ?_
              exact cut_n hK38 ⟨_, (Option.some.inj h).symm, rfl, (hS.sel 4 [3, 2, 1] (by decide))⟩
            · try simp only [W, EE, reduceIte, Nat.reduceAdd, Nat.reduceLeDiff, hS.var 3 rfl, hc]
              refine w_call h fun b40 hb40 h => ?_
              refine impl_GoodGuess_w hb40 hS fun H hS => ?_
              try simp only [W, EE]
              rw [b_bneq _ _ _ _ (h := rfl) rfl, resV_s]
              try simp only [W, reduceIte, Bool.false_eq_true]
              refine seq_n hK39 ?_
              refine w_kill ?_
              exact cut_n hK38 ⟨_, (Option.some.inj h).symm, rfl, (hS.sel 4 [3, 2, 1] (by decide))⟩
    · obtain ⟨x35, ey, rfl, hS⟩ := hq; obtain rfl := ey.symm
      replace h := g37
      try dsimp only at h
      refine seq_n hK34 ?_
      refine w_if ?_
      simp only [W]
      refine w_cnd h (fun hc h => ?_) (fun hc h => ?_)
      · refine w_seq fun K41 hK41 => ?_
        refine w_reg gC ?_
        try simp only [W, Nat.reduceAdd]
        refine seq_n hK41 ?_
        refine w_ret ?_
        refine seq_r hK33 ?_
        refine fin_r1 hK0 rfl ?_
        try obtain rfl := Option.some.inj h
        exact hP _ (hS.sel 3 [] (by decide))
      · refine w_skip ?_
        refine seq_n hK33 ?_
        refine w_seq fun K42 hK42 => ?_
        refine w_seq fun K43 hK43 => ?_
        refine w_reg gC ?_
        try simp only [W, Nat.reduceAdd]
        refine seq_n hK43 ?_
        obtain ⟨y44, h, g45⟩ := Option.bind_eq_some_iff.1 h
        refine w_join gC (fun s H => y44 = LR.next () ∧ s = [u, .fz (a1.map (AV.int .u8)), u, u, u, u, u, u, u, u, u, u, u, u, u, u, u, u, u, u, u, u, u, u, u, u, u, u, u, u, u, u, u, u, u, u, u, u, u, u, u, u, u, u, u, u, u, u, u, u, u, u, u, u, u, u, u, u, u, u, u, u, u, u, u, u, u, u, u, u, u, u, u, u, u, u, u, u, u, u, u, u, u, u, u, u, u, u, u, u, u, u, u, u, u, u, u, u, u, u, u, u, u, u, u, u, u, u, u, u, u, u, u, u, u, u, u, u, u, u, u, u, u, u, u, u, u, u, u, u, u, u, u, u, u, u, u, u, u, u, u, u, u, u, u, u, u, u] ∧ Own H (F)) (fun K46 hK46 => ?_) (fun s H hq => ?_)
        · refine w_seq fun K47 hK47 => ?_
          refine w_if ?_
          simp only [W]
          refine w_cnd h (fun hc h => ?_) (fun hc h => ?_)
          · refine w_seq fun K48 hK48 => ?_
            refine w_reg gC ?_
            try simp only [W, EE, reduceIte, Nat.reduceAdd, Nat.reduceLeDiff, hS.var 2 rfl]
            refine w_call h fun b49 hb49 h => ?_
            obtain ⟨b50, b51⟩ := b49
            try dsimp only at h
            refine impl_WaitOf_w hb49 hS fun H hS => ?_
            try simp only [W]
            refine seq_n hK48 ?_
            refine w_seq fun K52 hK52 => ?_
            refine w_seq fun K53 hK53 => ?_
            obtain ⟨y55, h, g56⟩ := Option.bind_eq_some_iff.1 h
            refine w_join gC (fun s H => ∃ x54 : Bool, y55 = (x54) ∧ s = [u, .fz (a1.map (AV.int .u8)), u, u, u, .ptr ip9 wp9 0 0, .ptr ip11 wp11 0 0, u, u, u, u, .int .i64 b27, u, u, u, .int .i64 b50, u, u, u, u, u, u, u, u, u, u, u, u, u, u, u, u, u, u, u, u, u, u, u, u, u, u, u, u, u, u, u, u, u, u, u, u, u, u, u, u, u, u, u, u, u, u, u, u, u, u, u, u, u, u, u, u, u, u, u, u, u, u, u, u, u, u, u, u, u, u, u, u, u, u, u, u, u, u, u, u, u, u, u, .bool x54, u, u, u, u, u, u, u, u, u, u, u, u, u, u, u, u, u, u, u, u, u, u, u, u, u, u, u, u, u, u, u, u, u, u, u, u, u, u, u, u, u, u, u, u, u, u, u, u] ∧ Own H (⟨.ptr ip9 wp9 0 0, 4, [.agg [.int .i64 b7.Mean, .int .i64 b7.Swing, .int .i64 b7.Many, .int .i64 b7.Back]]⟩ :: ⟨.ptr ip11 wp11 0 0, 3, [.agg [.int .i64 b8.Took, .bool b8.Twice, .bool b8.Lost]]⟩ :: F)) (fun K57 hK57 => ?_) (fun s H hq => ?_)
            · refine w_seq fun K58 hK58 => ?_
              refine w_reg gC ?_
              try simp only [W, EE, reduceIte, Nat.reduceAdd, Nat.reduceLeDiff, hS.var 2 rfl]
              refine w_call h fun b59 hb59 h => ?_
              refine impl_GoodGuess_w hb59 hS fun H hS => ?_
              try simp only [W]
              refine w_grdT h (fun hc h => ?_) (fun hc h => ?_)
              · try simp only [W, hc]
                refine seq_n hK58 ?_
                refine w_kill ?_
                exact cut_n hK57 ⟨_, (Option.some.inj h).symm, rfl, (hS.sel 3 [0, 1] (by decide))⟩
              · try simp only [W, reduceIte, Bool.false_eq_true, hc]
                refine w_grdT h (fun hc h => ?_) (fun hc h => ?_)
                · try simp only [W, hc]
                  refine seq_n hK58 ?_
                  refine w_kill ?_
                  exact cut_n hK57 ⟨_, (Option.some.inj h).symm, rfl, (hS.sel 3 [0, 1] (by decide))⟩
                · try simp only [W, EE, reduceIte, Bool.false_eq_true, hc]
                  refine w_grdT h (fun hc h => ?_) (fun hc h => ?_)
                  · try simp only [W, hc]
                    refine seq_n hK58 ?_
                    refine w_kill ?_
                    exact cut_n hK57 ⟨_, (Option.some.inj h).symm, rfl, (hS.sel 3 [0, 1] (by decide))⟩
                  · try simp only [W, EE, reduceIte, Bool.false_eq_true, hc]
                    refine seq_n hK58 ?_
                    refine w_kill ?_
                    exact cut_n hK57 ⟨_, (Option.some.inj h).symm, rfl, (hS.sel 3 [0, 1] (by decide))⟩
            · obtain ⟨x54, ey, rfl, hS⟩ := hq; obtain rfl := ey.symm
              replace h := g56
              try dsimp only at h
              refine seq_n hK53 ?_
              refine w_if ?_
              simp only [W]
              refine w_cnd h (fun hc h => ?_) (fun hc h => ?_)
              · refine w_seq fun K60 hK60 => ?_
                refine w_reg gC ?_
                try simp only [W, Nat.reduceAdd]
                refine seq_n hK60 ?_
                refine w_ret ?_
                refine seq_r hK52 ?_
                refine seq_r hK47 ?_
                try obtain rfl := Option.some.inj h
                obtain rfl := Option.some.inj g45
                have h : (some false : Option (Bool)) = some false := rfl
                refine cut_r hK46 ?_
                refine seq_r hK42 ?_
                refine fin_r1 hK0 rfl ?_
                try obtain rfl := Option.some.inj h
                exact hP _ (hS.sel 2 [] (by decide))
              · refine w_skip ?_
                refine seq_n hK52 ?_
                refine w_seq fun K63 hK63 => ?_
                obtain ⟨y65, h, g66⟩ := Option.bind_eq_some_iff.1 h
                refine w_join gC (fun s H => ∃ x64 : Bool, y65 = (x64) ∧ s = [u, .fz (a1.map (AV.int .u8)), u, u, u, u, u, u, u, u, u, u, u, u, u, u, u, u, u, u, u, u, u, u, u, u, u, u, u, u, u, u, u, u, u, u, u, u, u, u, u, u, u, u, u, u, u, u, u, u, u, u, u, u, u, u, u, u, u, u, u, u, u, u, u, u, u, u, u, u, u, u, u, u, u, u, u, u, u, u, u, u, u, u, u, u, u, u, u, u, u, u, u, u, u, u, u, u, u, u, u, u, u, u, u, u, u, u, u, u, u, u, u, u, u, u, u, u, u, u, u, .bool x64, u, u, u, u, u, u, u, u, u, u, u, u, u, u, u, u, u, u, u, u, u, u, u, u, u, u] ∧ Own H (F)) (fun K67 hK67 => ?_) (fun s H hq => ?_)
                · refine w_seq fun K68 hK68 => ?_
                  refine w_reg gC ?_
                  try simp only [W, EE, Nat.reduceAdd, Nat.reduceBEq, hS.var 1 rfl]
                  refine w_grdT h (fun hc h => ?_) (fun hc h => ?_)
                  · try simp only [W, EE, hc]
                    refine w_grdT h (fun hc h => ?_) (fun hc h => ?_)
                    · try simp only [W, reduceIte, hc]
                      refine seq_n hK68 ?_
                      refine w_kill ?_
                      exact cut_n hK67 ⟨_, (Option.some.inj h).symm, rfl, (hS.sel 2 [] (by decide))⟩
                    · try simp only [W, EE, Nat.reduceAdd, Nat.reduceBEq, hS.var 0 rfl, hc]
                      refine w_grdT h (fun hc h => ?_) (fun hc h => ?_)
                      · try simp only [W, EE, reduceIte, hc]
                        refine w_grdT h (fun hc h => ?_) (fun hc h => ?_)
                        · try simp only [W, EE, reduceIte, Bool.false_eq_true, hc]
                          refine seq_n hK68 ?_
                          refine w_kill ?_
                          exact cut_n hK67 ⟨_, (Option.some.inj h).symm, rfl, (hS.sel 2 [] (by decide))⟩
                        · try simp only [W, reduceIte, Bool.false_eq_true, hc]
                          refine seq_n hK68 ?_
                          refine w_kill ?_
                          exact cut_n hK67 ⟨_, (Option.some.inj h).symm, rfl, (hS.sel 2 [] (by decide))⟩
                      · try simp only [W, reduceIte, Bool.false_eq_true, hc]
                        refine seq_n hK68 ?_
                        refine w_kill ?_
                        exact cut_n hK67 ⟨_, (Option.some.inj h).symm, rfl, (hS.sel 2 [] (by decide))⟩
                  · try simp only [W, hc]
                    refine seq_n hK68 ?_
                    refine w_kill ?_
                    exact cut_n hK67 ⟨_, (Option.some.inj h).symm, rfl, (hS.sel 2 [] (by decide))⟩
                · obtain ⟨x64, ey, rfl, hS⟩ := hq; obtain rfl := ey.symm
                  replace h := g66
                  try dsimp only at h
                  refine seq_n hK63 ?_
                  refine w_if ?_
                  simp only [W]
                  refine w_cnd h (fun hc h => ?_) (fun hc h => ?_)
                  · refine w_seq fun K69 hK69 => ?_
                    refine w_reg gC ?_
                    try simp only [W, Nat.reduceAdd]
                    refine seq_n hK69 ?_
                    refine w_ret ?_
                    refine seq_r hK47 ?_
                    try obtain rfl := Option.some.inj h
                    obtain rfl := Option.some.inj g45
                    have h : (some false : Option (Bool)) = some false := rfl
                    refine cut_r hK46 ?_
                    refine seq_r hK42 ?_
                    refine fin_r1 hK0 rfl ?_
                    try obtain rfl := Option.some.inj h
                    exact hP _ hS
                  · refine w_skip ?_
                    refine seq_n hK47 ?_
                    refine w_kill ?_
                    exact cut_n hK46 ⟨(Option.some.inj h).symm, rfl, hS⟩
          · refine w_skip ?_
            refine seq_n hK47 ?_
            refine w_kill ?_
            exact cut_n hK46 ⟨(Option.some.inj h).symm, rfl, (hS.sel 3 [] (by decide))⟩
        · obtain ⟨rfl, rfl, hS⟩ := hq
          replace h := g45
          try dsimp only at h
          refine seq_n hK42 ?_
          refine w_seq fun K72 hK72 => ?_
          refine w_reg gC ?_
          try simp only [W, Nat.reduceAdd]
          refine w_call h fun b73 hb73 h => ?_
          refine spec_DrawNewGuess_w hb73 hS fun H hS => ?_
          try simp only [W]
          refine seq_n hK72 ?_
          refine w_seq fun K74 hK74 => ?_
          refine w_reg gC ?_
          try simp only [W, Nat.reduceAdd]
          refine w_call h fun b75 hb75 h => ?_
          obtain ⟨b76, b77⟩ := b75
          try dsimp only at h
          refine impl_NewGuess_w hb75 hS fun H hS => ?_
          try simp only [W]
          refine w_alloc hS rfl rfl fun ip78 wp78 H hS => ?_
          try simp only [W]
          refine w_stv (a := .agg [.int .i64 b76.Mean, .int .i64 b76.Swing, .int .i64 b76.Many, .int .i64 b76.Back]) (y' := .agg [.int .i64 b76.Mean, .int .i64 b76.Swing, .int .i64 b76.Many, .int .i64 b76.Back]) 0 hS rfl rfl rfl rfl rfl rfl rfl rfl fun H hS => ?_
          try simp only [W]
          refine seq_n hK74 ?_
          refine w_seq fun K80 hK80 => ?_
          refine w_reg gC ?_
          try simp only [W, Nat.reduceAdd]
          refine w_call h fun b81 hb81 h => ?_
          obtain ⟨b82, b83⟩ := b81
          try dsimp only at h
          refine spec_NewGuess_w hb81 hS fun H hS => ?_
          try simp only [W]
          refine w_alloc hS rfl rfl fun ip84 wp84 H hS => ?_
          try simp only [W]
          refine w_stv (a := .agg [.int .i64 b82.Mean, .int .i64 b82.Swing, .int .i64 b82.Many, .int .i64 b82.Back]) (y' := .agg [.int .i64 b82.Mean, .int .i64 b82.Swing, .int .i64 b82.Many, .int .i64 b82.Back]) 0 hS rfl rfl rfl rfl rfl rfl rfl rfl fun H hS => ?_
          try simp only [W]
          refine seq_n hK80 ?_
          refine w_seq fun K86 hK86 => ?_
          refine w_seq fun K87 hK87 => ?_
          obtain ⟨y89, h, g90⟩ := Option.bind_eq_some_iff.1 h
          refine w_join gC (fun s H => ∃ x88 : Bool, y89 = (x88) ∧ s = [u, u, u, u, u, u, u, u, u, u, u, u, u, u, u, u, u, u, .ptr ip78 wp78 0 0, .bool b77, u, u, u, u, u, u, u, u, u, u, u, u, u, u, u, u, u, u, u, u, u, u, u, u, u, u, u, u, u, u, u, u, u, u, u, u, u, u, u, u, u, u, u, u, u, u, u, u, u, u, u, u, u, u, u, u, u, u, u, u, u, u, u, u, u, u, u, u, u, u, u, u, u, u, u, u, u, u, u, u, u, u, u, u, u, u, u, u, u, u, u, u, u, u, u, u, u, u, u, u, u, u, u, u, u, u, u, u, u, u, u, u, u, u, u, u, u, u, u, u, u, .bool x88, u, u, u, u, u, u] ∧ Own H (⟨.ptr ip78 wp78 0 0, 4, [.agg [.int .i64 b76.Mean, .int .i64 b76.Swing, .int .i64 b76.Many, .int .i64 b76.Back]]⟩ :: F)) (fun K91 hK91 => ?_) (fun s H hq => ?_)
          · refine w_seq fun K92 hK92 => ?_
            refine w_reg gC ?_
            try simp only [W, EE, Nat.reduceAdd]
            rw [b_bneq _ _ _ _ (h := rfl) rfl, resV_s]
            try simp only [W]
            refine w_grdT h (fun hc h => ?_) (fun hc h => ?_)
            · try simp only [W, hc]
              refine seq_n hK92 ?_
              refine w_kill ?_
              exact cut_n hK91 ⟨_, (Option.some.inj h).symm, rfl, (hS.sel 2 [1] (by decide))⟩
            · try simp only [W, EE, reduceIte, Nat.reduceAdd, Nat.reduceLeDiff, Bool.false_eq_true, hS.var 1 rfl, hS.var 0 rfl, hc]
              refine seq_n hK92 ?_
              refine w_kill ?_
              exact cut_n hK91 ⟨_, (Option.some.inj h).symm, rfl, (hS.sel 2 [1] (by decide))⟩
          · obtain ⟨x88, ey, rfl, hS⟩ := hq; obtain rfl := ey.symm
            replace h := g90
            try dsimp only at h
            refine seq_n hK87 ?_
            refine w_if ?_
            simp only [W]
            refine w_cnd h (fun hc h => ?_) (fun hc h => ?_)
            · refine w_seq fun K93 hK93 => ?_
              refine w_reg gC ?_
              try simp only [W, Nat.reduceAdd]
              refine seq_n hK93 ?_
              refine w_ret ?_
              refine seq_r hK86 ?_
              refine fin_r1 hK0 rfl ?_
              try obtain rfl := Option.some.inj h
              exact hP _ (hS.sel 1 [] (by decide))
            · refine w_skip ?_
              refine seq_n hK86 ?_
              refine w_seq fun K94 hK94 => ?_
              refine w_reg gC ?_
              try simp only [W, Nat.reduceAdd]
              refine w_grdT h (fun hc h => ?_) (fun hc h => ?_)
              · try simp only [W, hc]
                refine seq_n hK94 ?_
                refine w_ret ?_
                refine fin_r1 hK0 rfl ?_
                try obtain rfl := Option.some.inj h
                exact hP _ (hS.sel 1 [] (by decide))
              · try simp only [W, EE, reduceIte, Nat.reduceAdd, Nat.reduceLeDiff, hS.var 0 rfl, hc]
                refine w_call h fun b95 hb95 h => ?_
                refine impl_GoodGuess_w hb95 hS fun H hS => ?_
                try simp only [W, reduceIte, Bool.false_eq_true]
                refine seq_n hK94 ?_
                refine w_ret ?_
                refine fin_r1 hK0 rfl ?_
                try obtain rfl := Option.some.inj h
                exact hP _ (hS.sel 1 [] (by decide))
end Go.VxW
