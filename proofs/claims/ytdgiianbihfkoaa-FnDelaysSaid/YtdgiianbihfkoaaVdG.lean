import Derived.Test.YtdgiianbihfkoaaVyGF
import Derived.Test.YtdgiianbihfkoaaProg
import Derived.Test.YtdgiianbihfkoaaVaE
import Derived.KernelRfl
open Go Go.VS
set_option maxRecDepth 8000
set_option maxHeartbeats 4000000
namespace Go.VxW
def e_Bucket (x : Bucket) : AV := .agg [.int .i64 x.Rate, .int .i64 x.Depth, .int .i64 x.Has]
def e_L1Cur (x : L1Cur) : AV := .agg [.fz (x.Code.map (AV.int .u8)), .int .i64 x.At, .int .u64 x.Seed]
def E : TEnv := fun t => match t with
  | 3 => some { sz := 1, agg := false, zero := [AV.int IntKind.i64 0], bytes := 8, und := UD.it IntKind.i64, eqok := true }
  | 4 => some { sz := 1, agg := false, zero := [AV.bool false], bytes := 1, und := UD.bl, eqok := true }
  | 5 => some { sz := 1, agg := false, zero := [AV.int IntKind.u8 0], bytes := 1, und := UD.it IntKind.u8, eqok := true }
  | 22 => some { sz := 1, agg := false, zero := [AV.nil], bytes := 24, und := UD.sl 5, eqok := true }
  | 24 => some { sz := 1, agg := false, zero := [AV.nil], bytes := 24, und := UD.sl 3, eqok := true }
  | 43 => some { sz := 3, agg := true, zero := [AV.int IntKind.i64 0, AV.int IntKind.i64 0, AV.int IntKind.i64 0], bytes := 24, und := UD.st [(0, 3), (1, 3), (2, 3)], eqok := true }
  | 150 => some { sz := 1, agg := false, zero := [AV.nilp], bytes := 8, und := UD.pt, eqok := true }
  | 151 => some { sz := 1, agg := false, zero := [AV.int IntKind.u64 0], bytes := 8, und := UD.it IntKind.u64, eqok := true }
  | 153 => some { sz := 3, agg := true, zero := [AV.nil, AV.int IntKind.i64 0, AV.int IntKind.u64 0], bytes := 40, und := UD.st [(0, 22), (1, 3), (2, 151)], eqok := true }
  | 156 => some { sz := 1, agg := false, zero := [AV.undef], bytes := 8, und := UD.ot, eqok := true }
  | 169 => some { sz := 1, agg := false, zero := [AV.undef], bytes := 8, und := UD.ot, eqok := true }
  | _ => none
def pol : FuncId → FPol := fun f => match f with
  | 10 => { rsh := [[.sc]], loops := [(0, { keep := [1, 6, 104, 105, 106] })], blocks := [(0, [1])], regs := [(10, [], [2]), (21, [], [2]), (22, [], [2])], frz := [(6, [], some [1, 5, 6, 7, 8, 9, 67]), (8, [], some [1, 5, 6, 7, 71]), (12, [], some [1, 6, 14, 103])], cnds := [(71, [1])] }
  | 22 => { rsh := [[.sc]], loops := [(0, { keep := [0, 1, 12, 13] })], blocks := [(0, [])] }
  | 25 => { rsh := [[.sl [.sc]], [.sl [.sc]], [.sc]], loops := [(0, { keep := [9, 11, 12, 13, 30, 31, 32] })], blocks := [(0, [11, 12])], frz := [(2, [], some [2, 9, 29])], cnds := [(38, [9, 11, 12, 13, 15, 30, 31, 32])] }
  | 26 => { rsh := [[.sc], [.sc]], loops := [(0, { keep := [0, 1, 2, 22, 23] }), (2, { keep := [0, 1, 2, 9, 22, 23, 28, 29, 30] })], blocks := [(2, [0, 1, 2, 22, 23]), (0, [])], frz := [(1, [], some [0, 1, 2, 20])] }
  | 27 => { rsh := [[.sc], [.sc]], loops := [(0, { keep := [0, 1, 2, 21, 22] }), (2, { keep := [0, 1, 2, 8, 9, 10, 21, 22] })], blocks := [(2, [0, 1, 2, 21, 22]), (0, [])], frz := [(1, [], some [0, 1, 2, 19])] }
  | 36 => { rsh := [[.sc, .sc, .sc], [.sc]] }
  | 83 => { rsh := [[.sc], [.sc], [.sl [.sc]]], regs := [(4, [], [3])], frz := [(5, [], some [6, 7, 8, 9, 34])] }
  | 84 => { rsh := [[.sc]], loops := [(0, { keep := [3, 6, 7, 8] })], blocks := [(0, [3])] }
  | 85 => { rsh := [[.sl [.sc]], [.sl [.sc]], [.sc]], frz := [(1, [], some [0, 3, 14])] }
  | 86 => { rsh := [[.sc], [.sc]], loops := [(0, { keep := [1, 6, 7, 8, 9, 28, 29, 30] }), (2, { keep := [7, 12, 68, 69, 70] }), (4, { keep := [7, 12, 13, 14, 15, 68, 69, 70] })], blocks := [(0, [6, 7]), (4, [7, 12, 15, 68, 69, 70]), (2, [12])], frz := [(1, [], some [0, 1, 25]), (9, [], some [1, 6, 7, 8, 9, 10, 28, 29, 30, 52]), (19, [], some [7, 12, 13, 14, 15, 68, 69, 70, 90])] }
  | 87 => { rsh := [[.sl [.sc]], [.sc]], fz := [(2, [(4, [([11], [.sl [.sc]])])])] }
  | 88 => { rsh := [[.sl [.sc]], [.sl [.sc]], [.sc]], loops := [(0, { keep := [1, 7, 8, 9, 21, 22, 23] })], blocks := [(0, [7, 8])], frz := [(1, [], some [0, 1, 20])] }
  | 89 => { rsh := [[.sl [.sc]], [.sl [.sc]]], regs := [(3, [], [4]), (5, [5, 8, 12], [])], ords := [(5, [0, 1, 2, 3, 7, 4, 5, 6, 8, 9, 10, 11, 12])], frz := [(4, [], some [4, 5, 6, 29])], cnds := [(29, [5, 6])] }
  | 90 => { rsh := [[.sc], [.sc]], loops := [(0, { keep := [0, 1, 6, 7, 30, 31] }), (2, { keep := [0, 1, 6, 9, 51, 52] }), (4, { keep := [0, 1, 6, 9, 10, 11, 12, 51, 52] })], blocks := [(0, [0, 1]), (4, [0, 1, 6, 9, 10, 11, 12, 51, 52]), (2, [9])], frz := [(1, [], some [0, 1, 28]), (21, [], some [0, 1, 6, 9, 10, 11, 12, 51, 52, 69])], cnds := [(84, [0, 1, 6, 9, 13, 51, 52])] }
  | 141 => { rsh := [[.sc]], cnds := [(11, [1, 5])] }
  | 142 => { rsh := [[.sc]] }
  | 143 => { rsh := [[.sc]] }
  | 145 => { rsh := [[.sc]] }
  | 147 => { rsh := [[.sc]] }
  | 150 => { rsh := [[.sc]], loops := [(0, { keep := [1, 2, 9, 10, 11] })], blocks := [(0, [])] }
  | 153 => { rsh := [[.sc]] }
  | 155 => { rsh := [[.sc], [.sc]], fz := [(2, [(2, [([7], [.sl [.sc]])]), (5, [([10], [.sl [.sc]])])])] }
  | 156 => { rsh := [[.sl [.sc]]], loops := [(0, { keep := [0, 3, 4] })], blocks := [(0, [0, 3])], frz := [(8, [], some [0, 3, 28])], fz := [(7, [(3, [([18], [.sl [.sc]])])]), (9, [(3, [([31], [.sl [.sc]])])])], cnds := [(8, [0, 3, 4]), (28, [3])] }
  | 157 => { rsh := [[.sc]] }
  | 158 => { rsh := [[.sl [.sc]], [.sl [.sc]], [.sc]], loops := [(0, { keep := [1, 7, 8, 9, 15, 16, 17] })], blocks := [(0, [7, 8])] }
  | 160 => { rsh := [[.sc]] }
  | 161 => { rsh := [[.sc, .sc, .sc]] }
  | 162 => { rsh := [[.sc]] }
  | 163 => { rsh := [[.sc]] }
  | 164 => { rsh := [[.sc]] }
  | 209 => { rsh := [[.sc]] }
  | 210 => { rsh := [[.sc]] }
  | 252 => { rsh := [[.sc]], cnds := [(13, [0, 3])] }
  | 255 => { rsh := [[.sc]], loops := [(0, { keep := [0, 1, 7, 8] })], blocks := [(0, [])] }
  | 256 => { rsh := [[.sc]] }
  | _ => {}
noncomputable def code : FuncId → Option Func := fun f => match f with
  | 10 => some Go.Proofs.Try.f10
  | 22 => some Go.Proofs.Try.f22
  | 25 => some Go.Proofs.Try.f25
  | 26 => some Go.Proofs.Try.f26
  | 27 => some Go.Proofs.Try.f27
  | 36 => some Go.Proofs.Try.f36
  | 83 => some Go.Proofs.Try.f83
  | 84 => some Go.Proofs.Try.f84
  | 85 => some Go.Proofs.Try.f85
  | 86 => some Go.Proofs.Try.f86
  | 87 => some Go.Proofs.Try.f87
  | 88 => some Go.Proofs.Try.f88
  | 89 => some Go.Proofs.Try.f89
  | 90 => some Go.Proofs.Try.f90
  | 141 => some Go.Proofs.Try.f141
  | 142 => some Go.Proofs.Try.f142
  | 143 => some Go.Proofs.Try.f143
  | 145 => some Go.Proofs.Try.f145
  | 147 => some Go.Proofs.Try.f147
  | 150 => some Go.Proofs.Try.f150
  | 153 => some Go.Proofs.Try.f153
  | 155 => some Go.Proofs.Try.f155
  | 156 => some Go.Proofs.Try.f156
  | 157 => some Go.Proofs.Try.f157
  | 158 => some Go.Proofs.Try.f158
  | 160 => some Go.Proofs.Try.f160
  | 161 => some Go.Proofs.Try.f161
  | 162 => some Go.Proofs.Try.f162
  | 163 => some Go.Proofs.Try.f163
  | 164 => some Go.Proofs.Try.f164
  | 209 => some Go.Proofs.Try.f209
  | 210 => some Go.Proofs.Try.f210
  | 252 => some Go.Proofs.Try.f252
  | 255 => some Go.Proofs.Try.f255
  | 256 => some Go.Proofs.Try.f256
  | _ => none
noncomputable def C : Ctx := ⟨E, pol, code, fun _ _ _ _ => False⟩
theorem gC : Good C := ⟨fun _ _ _ _ _ _ h => h, fun _ _ _ _ h => h.elim⟩
theorem cE : C.E = E := rfl
theorem E3 : E 3 = some { sz := 1, agg := false, zero := [AV.int IntKind.i64 0], bytes := 8, und := UD.it IntKind.i64, eqok := true } := rfl
theorem E4 : E 4 = some { sz := 1, agg := false, zero := [AV.bool false], bytes := 1, und := UD.bl, eqok := true } := rfl
theorem E5 : E 5 = some { sz := 1, agg := false, zero := [AV.int IntKind.u8 0], bytes := 1, und := UD.it IntKind.u8, eqok := true } := rfl
theorem E22 : E 22 = some { sz := 1, agg := false, zero := [AV.nil], bytes := 24, und := UD.sl 5, eqok := true } := rfl
theorem E24 : E 24 = some { sz := 1, agg := false, zero := [AV.nil], bytes := 24, und := UD.sl 3, eqok := true } := rfl
theorem E43 : E 43 = some { sz := 3, agg := true, zero := [AV.int IntKind.i64 0, AV.int IntKind.i64 0, AV.int IntKind.i64 0], bytes := 24, und := UD.st [(0, 3), (1, 3), (2, 3)], eqok := true } := rfl
theorem E150 : E 150 = some { sz := 1, agg := false, zero := [AV.nilp], bytes := 8, und := UD.pt, eqok := true } := rfl
theorem E151 : E 151 = some { sz := 1, agg := false, zero := [AV.int IntKind.u64 0], bytes := 8, und := UD.it IntKind.u64, eqok := true } := rfl
theorem E153 : E 153 = some { sz := 3, agg := true, zero := [AV.nil, AV.int IntKind.i64 0, AV.int IntKind.u64 0], bytes := 40, und := UD.st [(0, 22), (1, 3), (2, 151)], eqok := true } := rfl
theorem E156 : E 156 = some { sz := 1, agg := false, zero := [AV.undef], bytes := 8, und := UD.ot, eqok := true } := rfl
theorem E169 : E 169 = some { sz := 1, agg := false, zero := [AV.undef], bytes := 8, und := UD.ot, eqok := true } := rfl
theorem EE : type_of% (And.intro @cE <| And.intro @E3 <| And.intro @E4 <| And.intro @E5 <| And.intro @E22 <| And.intro @E24 <| And.intro @E43 <| And.intro @E150 <| And.intro @E151 <| And.intro @E153 <| And.intro @E156 @E169) := And.intro @cE <| And.intro @E3 <| And.intro @E4 <| And.intro @E5 <| And.intro @E22 <| And.intro @E24 <| And.intro @E43 <| And.intro @E150 <| And.intro @E151 <| And.intro @E153 <| And.intro @E156 @E169
theorem e_Bucket_d (x : Bucket) : e_Bucket x = .agg [.int .i64 x.Rate, .int .i64 x.Depth, .int .i64 x.Has] := rfl
theorem e_L1Cur_d (x : L1Cur) : e_L1Cur x = .agg [.fz (x.Code.map (AV.int .u8)), .int .i64 x.At, .int .u64 x.Seed] := rfl
theorem EN : type_of% (And.intro @e_Bucket_d <| And.intro @e_L1Cur_d @killB_n) := And.intro @e_Bucket_d <| And.intro @e_L1Cur_d @killB_n
theorem spec_l1Cur_next_w {a0 : L1Cur} {i0 : Nat} {w0 : Nat} {r : (Int × L1Cur)} (h : spec_l1Cur_next a0 = some r) {F : List It} {H : Heap} (hS : Own H (⟨.ptr i0 w0 0 0, 3, [.agg [.fz (a0.Code.map (AV.int .u8)), .int .i64 a0.At, .int .u64 a0.Seed]]⟩ :: F)) {P : AV → Heap → Prop} (hP : ∀ H', Own H' (⟨.ptr i0 w0 0 0, 3, [.agg [.fz (r.2.Code.map (AV.int .u8)), .int .i64 r.2.At, .int .u64 r.2.Seed]]⟩ :: F) → P (.int .i64 r.1) H') : ACall C 252 [.ptr i0 w0 0 0] H P := by
  refine acall_of gC (res := [.tmp 2]) (n := 62) rfl rfl rfl rfl fun K0 hK0 => ?_
  simp only [W, Nat.reduceSub, Nat.reduceAdd, List.replicate]
  unfold spec_l1Cur_next at h
  refine w_seq fun K1 hK1 => ?_
  refine w_reg gC ?_
  try simp only [W, Nat.reduceAdd]
  refine seq_n hK1 ?_
  refine w_seq fun K2 hK2 => ?_
  refine w_reg gC ?_
  try simp only [W, Nat.reduceAdd]
  refine seq_n hK2 ?_
  refine w_seq fun K3 hK3 => ?_
  refine w_seq fun K4 hK4 => ?_
  refine w_draw0 gC (by kernel_rfl) ?_
  try simp only [W, EE, Nat.reduceAdd, Nat.reduceBEq, hS.var 0 rfl]
  refine seq_n hK4 ?_
  obtain ⟨y6, h, g7⟩ := Option.bind_eq_some_iff.1 h
  refine w_join gC (fun s H => ∃ x5 : Int, y6 = (x5) ∧ s = [.ptr i0 w0 0 0, u, u, .int .i64 x5, u, u, u, u, u, u, u, u, u, u, u, u, u, u, u, u, u, u, u, u, u, u, u, u, u, u, u, u, u, u, u, u, u, u, u, u, u, u, u, u, u, u, u, u, u, u, u, u, u, u, u, u, u, u, u, u, u, u] ∧ Own H (⟨.ptr i0 w0 0 0, 3, [.agg [.fz (a0.Code.map (AV.int .u8)), .int .i64 a0.At, .int .u64 a0.Seed]]⟩ :: F)) (fun K8 hK8 => ?_) (fun s H hq => ?_)
  · refine w_seq fun K9 hK9 => ?_
    refine w_if ?_
    simp only [W]
    refine w_cnd h (fun hc h => ?_) (fun hc h => ?_)
    · refine w_draw0 gC (by kernel_rfl) ?_
      try simp only [W, EE, Nat.reduceAdd, Nat.reduceBEq, hS.var 0 rfl]
      refine w_fz rfl rfl rfl (fun _ => rfl) h fun b10 hb10 h => ?_
      try simp only [W, EE]
      refine seq_n hK9 ?_
      refine w_kill ?_
      exact cut_n hK8 ⟨_, (Option.some.inj h).symm, rfl, hS⟩
    · refine w_skip ?_
      refine seq_n hK9 ?_
      refine w_kill ?_
      exact cut_n hK8 ⟨_, (Option.some.inj h).symm, rfl, hS⟩
  · obtain ⟨x5, ey, rfl, hS⟩ := hq; obtain rfl := ey.symm
    replace h := g7
    try dsimp only at h
    refine seq_n hK3 ?_
    refine w_seq fun K11 hK11 => ?_
    refine w_reg gC ?_
    try simp only [W, EE, Nat.reduceAdd, Nat.reduceBEq, hS.var 0 rfl]
    refine w_stv (a := .int .i64 (IntKind.i64.wrap (a0.At + 1))) (y' := .agg [.fz (a0.Code.map (AV.int .u8)), .int .i64 (IntKind.i64.wrap (a0.At + 1)), .int .u64 a0.Seed]) 0 hS rfl rfl rfl rfl rfl rfl rfl rfl fun H hS => ?_
    try simp only [W]
    refine seq_n hK11 ?_
    refine w_seq fun K12 hK12 => ?_
    refine w_reg gC ?_
    try simp only [W, EE, Nat.reduceAdd, Nat.reduceBEq, hS.var 0 rfl]
    refine w_stv (a := .int .u64 (IntKind.u64.wrap ((IntKind.u64.wrap ((IntKind.u64.wrap (a0.Seed * 6364136223846793005)) + (IntKind.u64.wrap x5))) + 1442695040888963407))) (y' := .agg [.fz (a0.Code.map (AV.int .u8)), .int .i64 (IntKind.i64.wrap (a0.At + 1)), .int .u64 (IntKind.u64.wrap ((IntKind.u64.wrap ((IntKind.u64.wrap (a0.Seed * 6364136223846793005)) + (IntKind.u64.wrap x5))) + 1442695040888963407))]) 0 hS rfl rfl rfl rfl rfl rfl rfl rfl fun H hS => ?_
    try simp only [W]
    refine seq_n hK12 ?_
    refine w_seq fun K13 hK13 => ?_
    refine w_seq fun K14 hK14 => ?_
    refine w_draw0 gC (by kernel_rfl) ?_
    try simp only [W, EE, Nat.reduceAdd, Nat.reduceBEq, hS.var 0 rfl]
    refine seq_n hK14 ?_
    refine w_if ?_
    simp only [W]
    refine w_cnd h (fun hc h => ?_) (fun hc h => ?_)
    · refine w_seq fun K15 hK15 => ?_
      refine w_reg gC ?_
      try simp only [W, Nat.reduceAdd]
      refine seq_n hK15 ?_
      refine w_ret ?_
      refine seq_r hK13 ?_
      refine fin_r1 hK0 rfl ?_
      try obtain rfl := Option.some.inj h
      exact hP _ hS
    · refine w_skip ?_
      refine seq_n hK13 ?_
      refine w_seq fun K16 hK16 => ?_
      refine w_reg gC ?_
      try simp only [W, EE, Nat.reduceAdd, Nat.reduceBEq, hS.var 0 rfl]
      rw [sr_lit _ _ _ rfl, Option.map_some, resV_s]
      try simp only [W, EE]
      refine seq_n hK16 ?_
      refine w_ret ?_
      refine fin_r1 hK0 rfl ?_
      try obtain rfl := Option.some.inj h
      exact hP _ hS
theorem spec_l1Cur_pick_w {a0 : L1Cur} {a1 : Int} {i0 : Nat} {w0 : Nat} {r : (Int × L1Cur)} (h : spec_l1Cur_pick a0 a1 = some r) {F : List It} {H : Heap} (hS : Own H (⟨.ptr i0 w0 0 0, 3, [.agg [.fz (a0.Code.map (AV.int .u8)), .int .i64 a0.At, .int .u64 a0.Seed]]⟩ :: F)) {P : AV → Heap → Prop} (hP : ∀ H', Own H' (⟨.ptr i0 w0 0 0, 3, [.agg [.fz (r.2.Code.map (AV.int .u8)), .int .i64 r.2.At, .int .u64 r.2.Seed]]⟩ :: F) → P (.int .i64 r.1) H') : ACall C 141 [.ptr i0 w0 0 0, .int .i64 a1] H P := by
  refine acall_of gC (res := [.tmp 4]) (n := 20) rfl rfl rfl rfl fun K0 hK0 => ?_
  simp only [W, Nat.reduceSub, Nat.reduceAdd, List.replicate]
  unfold spec_l1Cur_pick at h
  refine w_seq fun K1 hK1 => ?_
  refine w_reg gC ?_
  try simp only [W, Nat.reduceAdd]
  refine seq_n hK1 ?_
  refine w_seq fun K2 hK2 => ?_
  refine w_seq fun K3 hK3 => ?_
  refine w_reg gC ?_
  try simp only [W, EE, Nat.reduceAdd]
  refine seq_n hK3 ?_
  refine w_if ?_
  simp only [W]
  refine w_cnd h (fun hc h => ?_) (fun hc h => ?_)
  · refine w_seq fun K4 hK4 => ?_
    refine w_reg gC ?_
    try simp only [W, Nat.reduceAdd]
    refine seq_n hK4 ?_
    refine w_ret ?_
    refine seq_r hK2 ?_
    refine fin_r1 hK0 rfl ?_
    try obtain rfl := Option.some.inj h
    exact hP _ hS
  · refine w_skip ?_
    refine seq_n hK2 ?_
    refine w_seq fun K5 hK5 => ?_
    refine w_reg gC ?_
    try simp only [W, Nat.reduceAdd]
    refine w_call h fun b6 hb6 h => ?_
    obtain ⟨b7, b8⟩ := b6
    try dsimp only at h
    refine spec_l1Cur_next_w hb6 hS fun H hS => ?_
    try simp only [W]
    refine seq_n hK5 ?_
    refine w_seq fun K9 hK9 => ?_
    refine w_seq fun K10 hK10 => ?_
    refine w_reg gC ?_
    try simp only [W, EE, Nat.reduceAdd]
    refine seq_n hK10 ?_
    obtain ⟨y15, h, g16⟩ := Option.bind_eq_some_iff.1 h
    refine w_join gC (fun s H => ∃ x11 : Int, ∃ x12 : List Int, ∃ x13 : Int, ∃ x14 : Int, y15 = (x11, x12, x13, x14) ∧ s = [u, .int .i64 a1, u, u, u, .int .i64 x11, u, u, u, u, u, u, u, u, u, u, u, u, u, u] ∧ Own H (⟨.ptr i0 w0 0 0, 3, [.agg [.fz (x12.map (AV.int .u8)), .int .i64 x13, .int .u64 x14]]⟩ :: F)) (fun K17 hK17 => ?_) (fun s H hq => ?_)
    · refine w_seq fun K18 hK18 => ?_
      refine w_if ?_
      simp only [W]
      refine w_cnd h (fun hc h => ?_) (fun hc h => ?_)
      · refine w_reg gC ?_
        try simp only [W, EE, Nat.reduceAdd]
        refine w_call h fun b19 hb19 h => ?_
        obtain ⟨b20, b21⟩ := b19
        try dsimp only at h
        refine spec_l1Cur_next_w hb19 hS fun H hS => ?_
        try simp only [W, EE]
        refine seq_n hK18 ?_
        refine w_kill ?_
        exact cut_n hK17 ⟨_, _, _, _, (Option.some.inj h).symm, rfl, hS⟩
      · refine w_skip ?_
        refine seq_n hK18 ?_
        refine w_kill ?_
        exact cut_n hK17 ⟨_, _, _, _, (Option.some.inj h).symm, rfl, hS⟩
    · obtain ⟨x11, x12, x13, x14, rfl, rfl, hS⟩ := hq
      replace h := g16
      try dsimp only at h
      refine seq_n hK9 ?_
      refine w_seq fun K22 hK22 => ?_
      refine w_reg gC ?_
      try simp only [W, EE, Nat.reduceAdd]
      refine w_num _ h fun x23 hx23 h => ?_
      try simp only [W]
      refine seq_n hK22 ?_
      refine w_ret ?_
      refine fin_r1 hK0 rfl ?_
      try obtain rfl := Option.some.inj h
      exact hP _ hS
theorem spec_l1Cur_one_w {a0 : L1Cur} {a1 : Int} {i0 : Nat} {w0 : Nat} {r : (Bool × L1Cur)} (h : spec_l1Cur_one a0 a1 = some r) {F : List It} {H : Heap} (hS : Own H (⟨.ptr i0 w0 0 0, 3, [.agg [.fz (a0.Code.map (AV.int .u8)), .int .i64 a0.At, .int .u64 a0.Seed]]⟩ :: F)) {P : AV → Heap → Prop} (hP : ∀ H', Own H' (⟨.ptr i0 w0 0 0, 3, [.agg [.fz (r.2.Code.map (AV.int .u8)), .int .i64 r.2.At, .int .u64 r.2.Seed]]⟩ :: F) → P (.bool r.1) H') : ACall C 142 [.ptr i0 w0 0 0, .int .i64 a1] H P := by
  refine acall_of gC (res := [.tmp 4]) (n := 9) rfl rfl rfl rfl fun K0 hK0 => ?_
  simp only [W, Nat.reduceSub, Nat.reduceAdd, List.replicate]
  unfold spec_l1Cur_one at h
  refine w_seq fun K1 hK1 => ?_
  refine w_reg gC ?_
  try simp only [W, Nat.reduceAdd]
  refine seq_n hK1 ?_
  refine w_seq fun K2 hK2 => ?_
  refine w_reg gC ?_
  try simp only [W, Nat.reduceAdd]
  refine w_call h fun b3 hb3 h => ?_
  obtain ⟨b4, b5⟩ := b3
  try dsimp only at h
  refine spec_l1Cur_pick_w hb3 hS fun H hS => ?_
  try simp only [W, EE]
  refine seq_n hK2 ?_
  refine w_ret ?_
  refine fin_r1 hK0 rfl ?_
  try obtain rfl := Option.some.inj h
  exact hP _ hS
theorem spec_l1Cur_among_w {a0 : L1Cur} {a1 : List Int} {i0 : Nat} {w0 : Nat} {r : (Int × L1Cur)} (h : spec_l1Cur_among a0 a1 = some r) {F : List It} {H : Heap} (hS : Own H (⟨.ptr i0 w0 0 0, 3, [.agg [.fz (a0.Code.map (AV.int .u8)), .int .i64 a0.At, .int .u64 a0.Seed]]⟩ :: F)) {P : AV → Heap → Prop} (hP : ∀ H', Own H' (⟨.ptr i0 w0 0 0, 3, [.agg [.fz (r.2.Code.map (AV.int .u8)), .int .i64 r.2.At, .int .u64 r.2.Seed]]⟩ :: F) → P (.int .i64 r.1) H') : ACall C 143 [.ptr i0 w0 0 0, .fz (a1.map (AV.int .i64))] H P := by
  refine acall_of gC (res := [.tmp 4]) (n := 12) rfl rfl rfl rfl fun K0 hK0 => ?_
  simp only [W, Nat.reduceSub, Nat.reduceAdd, List.replicate]
  unfold spec_l1Cur_among at h
  refine w_seq fun K1 hK1 => ?_
  refine w_reg gC ?_
  try simp only [W, Nat.reduceAdd]
  refine seq_n hK1 ?_
  refine w_seq fun K2 hK2 => ?_
  refine w_reg gC ?_
  try simp only [W, EE, Nat.reduceAdd]
  refine w_call h fun b3 hb3 h => ?_
  obtain ⟨b4, b5⟩ := b3
  try dsimp only at h
  refine spec_l1Cur_pick_w hb3 hS fun H hS => ?_
  try simp only [W, EE]
  refine w_fz rfl rfl rfl (fun _ => rfl) h fun b6 hb6 h => ?_
  try simp only [W, EE]
  refine seq_n hK2 ?_
  refine w_ret ?_
  refine fin_r1 hK0 rfl ?_
  try obtain rfl := Option.some.inj h
  exact hP _ hS
theorem spec_l1Cur_rate_w {a0 : L1Cur} {i0 : Nat} {w0 : Nat} {r : (Int × Int × L1Cur)} (h : spec_l1Cur_rate a0 = some r) {F : List It} {H : Heap} (hS : Own H (⟨.ptr i0 w0 0 0, 3, [.agg [.fz (a0.Code.map (AV.int .u8)), .int .i64 a0.At, .int .u64 a0.Seed]]⟩ :: F)) {P : AV → Heap → Prop} (hP : ∀ H', Own H' (⟨.ptr i0 w0 0 0, 3, [.agg [.fz (r.2.2.Code.map (AV.int .u8)), .int .i64 r.2.2.At, .int .u64 r.2.2.Seed]]⟩ :: F) → P (.tup [.int .i64 r.1, .int .i64 r.2.1]) H') : ACall C 155 [.ptr i0 w0 0 0] H P := by
  refine acall_of gC (res := [.tmp 2, .tmp 3]) (n := 18) rfl rfl rfl rfl fun K0 hK0 => ?_
  simp only [W, Nat.reduceSub, Nat.reduceAdd, List.replicate]
  unfold spec_l1Cur_rate at h
  refine w_seq fun K1 hK1 => ?_
  refine w_reg gC ?_
  try simp only [W, Nat.reduceAdd]
  refine seq_n hK1 ?_
  refine w_seq fun K2 hK2 => ?_
  refine w_seq fun K3 hK3 => ?_
  refine w_reg gC ?_
  try simp only [W, Nat.reduceAdd]
  refine w_call h fun b4 hb4 h => ?_
  obtain ⟨b5, b6⟩ := b4
  try dsimp only at h
  refine spec_l1Cur_one_w hb4 hS fun H hS => ?_
  try simp only [W]
  refine seq_n hK3 ?_
  refine w_if ?_
  simp only [W]
  refine w_cnd h (fun hc h => ?_) (fun hc h => ?_)
  · refine w_seq fun K7 hK7 => ?_
    refine w_regF (fz := [(2, [([7], [.sl [.sc]])]), (5, [([10], [.sl [.sc]])])]) gC ?_
    try simp only [W, Nat.reduceAdd, Nat.reduceBEq]
    refine w_lit (el := ([0, 1, 20, 21] : List Int).map (AV.int .i64)) hS rfl rfl rfl rfl rfl rfl rfl fun v8 H qv8 hS => ?_
    try simp only [W, Nat.reduceAdd]
    refine FZ_own 0 hS rfl qv8 rfl (fun _ _ => by simp [takeE, takeT, plainA]) (fun _ => rfl) fun H hsame hS => ?_
    try simp only [W]
    refine w_call h fun b10 hb10 h => ?_
    obtain ⟨b11, b12⟩ := b10
    try dsimp only at h
    refine spec_l1Cur_among_w hb10 hS fun H hS => ?_
    try simp only [W, Nat.reduceAdd, Nat.reduceBEq]
    refine w_lit (el := ([0, 1, 60, 61] : List Int).map (AV.int .i64)) hS rfl rfl rfl rfl rfl rfl rfl fun v13 H qv13 hS => ?_
    try simp only [W, Nat.reduceAdd, Nat.reduceBEq]
    refine FZ_own 0 hS rfl qv13 rfl (fun _ _ => by simp [takeE, takeT, plainA]) (fun _ => rfl) fun H hsame hS => ?_
    try simp only [W]
    refine w_call h fun b15 hb15 h => ?_
    obtain ⟨b16, b17⟩ := b15
    try dsimp only at h
    refine spec_l1Cur_among_w hb15 hS fun H hS => ?_
    try simp only [W, Nat.reduceAdd, Nat.reduceBEq]
    refine seq_n hK7 ?_
    refine w_ret ?_
    refine seq_r hK2 ?_
    refine fin_r2 hK0 rfl rfl ?_
    try obtain rfl := Option.some.inj h
    exact hP _ hS
  · refine w_skip ?_
    refine seq_n hK2 ?_
    refine w_seq fun K18 hK18 => ?_
    refine w_reg gC ?_
    try simp only [W, Nat.reduceAdd]
    refine w_call h fun b19 hb19 h => ?_
    obtain ⟨b20, b21⟩ := b19
    try dsimp only at h
    refine spec_l1Cur_pick_w hb19 hS fun H hS => ?_
    try simp only [W, EE]
    refine w_call h fun b22 hb22 h => ?_
    obtain ⟨b23, b24⟩ := b22
    try dsimp only at h
    refine spec_l1Cur_pick_w hb22 hS fun H hS => ?_
    try simp only [W, EE]
    refine seq_n hK18 ?_
    refine w_ret ?_
    refine fin_r2 hK0 rfl rfl ?_
    try obtain rfl := Option.some.inj h
    exact hP _ hS
theorem spec_l1Cur_flow_w {a0 : L1Cur} {i0 : Nat} {w0 : Nat} {r : (List Int × L1Cur)} (h : spec_l1Cur_flow a0 = some r) {F : List It} {H : Heap} (hS : Own H (⟨.ptr i0 w0 0 0, 3, [.agg [.fz (a0.Code.map (AV.int .u8)), .int .i64 a0.At, .int .u64 a0.Seed]]⟩ :: F)) {P : AV → Heap → Prop} (hP : ∀ v89 : AV, isSl v89 → ∀ H', Own H' (⟨v89, 1, r.1.map (AV.int .i64)⟩ :: ⟨.ptr i0 w0 0 0, 3, [.agg [.fz (r.2.Code.map (AV.int .u8)), .int .i64 r.2.At, .int .u64 r.2.Seed]]⟩ :: F) → P (v89) H') : ACall C 156 [.ptr i0 w0 0 0] H P := by
  refine acall_of gC (res := [.tmp 2]) (n := 35) rfl rfl rfl rfl fun K0 hK0 => ?_
  simp only [W, Nat.reduceSub, Nat.reduceAdd, List.replicate]
  unfold spec_l1Cur_flow at h
  refine w_seq fun K1 hK1 => ?_
  refine w_reg gC ?_
  try simp only [W, Nat.reduceAdd]
  refine seq_n hK1 ?_
  refine w_seq fun K2 hK2 => ?_
  refine w_reg gC ?_
  try simp only [W, Nat.reduceAdd]
  refine seq_n hK2 ?_
  refine w_seq fun K3 hK3 => ?_
  refine w_reg gC ?_
  try simp only [W, Nat.reduceAdd]
  refine w_call h fun b4 hb4 h => ?_
  obtain ⟨b5, b6⟩ := b4
  try dsimp only at h
  refine spec_l1Cur_pick_w hb4 hS fun H hS => ?_
  try simp only [W]
  refine seq_n hK3 ?_
  refine w_seq fun K7 hK7 => ?_
  refine w_seq fun K8 hK8 => ?_
  refine w_reg gC ?_
  try simp only [W, Nat.reduceAdd]
  refine w_call h fun b9 hb9 h => ?_
  obtain ⟨b10, b11⟩ := b9
  try dsimp only at h
  refine spec_l1Cur_one_w hb9 hS fun H hS => ?_
  try simp only [W]
  refine seq_n hK8 ?_
  obtain ⟨y16, h, g17⟩ := Option.bind_eq_some_iff.1 h
  refine w_join gC (fun s H => ∃ x12 : Int, ∃ x13 : List Int, ∃ x14 : Int, ∃ x15 : Int, y16 = (x12, x13, x14, x15) ∧ s = [.ptr i0 w0 0 0, u, u, .nil, .int .i64 x12, u, u, u, u, u, u, u, u, u, u, u, u, u, u, u, u, u, u, u, u, u, u, u, u, u, u, u, u, u, u] ∧ Own H (⟨.ptr i0 w0 0 0, 3, [.agg [.fz (x13.map (AV.int .u8)), .int .i64 x14, .int .u64 x15]]⟩ :: F)) (fun K18 hK18 => ?_) (fun s H hq => ?_)
  · refine w_seq fun K19 hK19 => ?_
    refine w_if ?_
    simp only [W]
    refine w_cnd h (fun hc h => ?_) (fun hc h => ?_)
    · refine w_reg gC ?_
      try simp only [W, Nat.reduceAdd]
      refine w_call h fun b20 hb20 h => ?_
      obtain ⟨b21, b22⟩ := b20
      try dsimp only at h
      refine spec_l1Cur_pick_w hb20 hS fun H hS => ?_
      try simp only [W, EE]
      refine seq_n hK19 ?_
      refine w_kill ?_
      exact cut_n hK18 ⟨_, _, _, _, (Option.some.inj h).symm, rfl, hS⟩
    · refine w_skip ?_
      refine seq_n hK19 ?_
      refine w_kill ?_
      exact cut_n hK18 ⟨_, _, _, _, (Option.some.inj h).symm, rfl, hS⟩
  · obtain ⟨x12, x13, x14, x15, rfl, rfl, hS⟩ := hq
    replace h := g17
    try dsimp only at h
    refine seq_n hK7 ?_
    refine w_seq fun K23 hK23 => ?_
    obtain ⟨y36, hw37, g43⟩ := Option.bind_eq_some_iff.1 h
    refine w_join gC (fun s H => ∃ x31 : List Int, ∃ x33 : List Int, ∃ x34 : Int, ∃ x35 : Int, y36 = (x31, x33, x34, x35) ∧ ∃ v32 : AV, isSl v32 ∧ s = [.ptr i0 w0 0 0, u, u, v32, u, u, u, u, u, u, u, u, u, u, u, u, u, u, u, u, u, u, u, u, u, u, u, u, u, u, u, u, u, u, u] ∧ Own H (⟨v32, 1, x31.map (AV.int .i64)⟩ :: ⟨.ptr i0 w0 0 0, 3, [.agg [.fz (x33.map (AV.int .u8)), .int .i64 x34, .int .u64 x35]]⟩ :: F)) (fun K38 hK38 => ?_) (fun s H hq => ?_)
    · refine w_blk fun K39 hK39 => ?_
      refine w_loop gC hw37 (fun x s H => match x with | (x24, x27, x28, x29, x30) => ∃ v25 : AV, isSl v25 ∧ s = [.ptr i0 w0 0 0, u, u, v25, .int .i64 x27, u, u, u, u, u, u, u, u, u, u, u, u, u, u, u, u, u, u, u, u, u, u, u, u, u, u, u, u, u, u] ∧ Own H (⟨v25, 1, x24.map (AV.int .i64)⟩ :: ⟨.ptr i0 w0 0 0, 3, [.agg [.fz (x28.map (AV.int .u8)), .int .i64 x29, .int .u64 x30]]⟩ :: F)) ⟨_, isSl_nil, rfl, (hS.nil_ 1)⟩ (fun x y42 s H h hd41 hi K40 hK40 => ?_)
      obtain ⟨x24, x27, x28, x29, x30⟩ := x
      try dsimp only at hi
      obtain ⟨v25, qv25, rfl, hS⟩ := hi
      simp only [spec_l1Cur_flow_l0] at h
      refine w_seq fun K44 hK44 => ?_
      refine w_seq fun K45 hK45 => ?_
      refine w_reg gC ?_
      try simp only [W, EE, Nat.reduceAdd]
      refine seq_n hK45 ?_
      refine w_if ?_
      simp only [W]
      refine w_cnd h (fun hc h => ?_) (fun hc h => ?_)
      · refine w_skip ?_
        refine seq_n hK44 ?_
        refine w_seq fun K46 hK46 => ?_
        refine w_blk fun K47 hK47 => ?_
        refine w_regF (fz := [(3, [([18], [.sl [.sc]])])]) gC ?_
        try simp only [W, Nat.reduceAdd, Nat.reduceBEq]
        refine w_lit (el := ([0, 0, 1, 3, 5, 10, 30] : List Int).map (AV.int .i64)) hS rfl rfl rfl rfl rfl rfl rfl fun v48 H qv48 hS => ?_
        try simp only [W, Nat.reduceAdd]
        refine FZ_own 0 hS rfl qv48 rfl (fun _ _ => by simp [takeE, takeT, plainA]) (fun _ => rfl) fun H hsame hS => ?_
        try simp only [W]
        refine w_call h fun b50 hb50 h => ?_
        obtain ⟨b51, b52⟩ := b50
        try dsimp only at h
        refine spec_l1Cur_among_w hb50 (hS.sel 2 [1, 0] (by decide)) fun H hS => ?_
        try simp only [W, Nat.reduceAdd, Nat.reduceBEq]
        refine w_lit (el := ([b51] : List Int).map (AV.int .i64)) hS rfl rfl rfl rfl rfl rfl rfl fun v53 H qv53 hS => ?_
        try simp only [W, EE, Nat.reduceAdd, Nat.reduceBEq]
        refine w_appV (l := x24) (c := (AV.int .i64)) 2 hS rfl qv25 rfl rfl rfl (hS.elems 0 rfl qv53) (fun _ => rfl) rfl h fun v56 H x55 qv56 hm h hS => ?_
        try simp only [W, Nat.reduceAdd, Nat.reduceBEq]
        refine blk_n0 hK47 ?_
        refine seq_n hK46 ?_
        refine w_reg gC ?_
        try simp only [W, EE, Nat.reduceAdd]
        exact lp_n hK40 h ⟨_, qv56, rfl, (hS.sel 3 [2, 1] (by decide))⟩
      · refine w_exit ?_
        refine seq_x hK44 ?_
        try obtain rfl := Option.some.inj h
        obtain rfl := hd41 _ rfl
        have h : (some (x24, x28, x29, x30) : Option ((List Int) × (List Int) × Int × Int)) = some (x24, x28, x29, x30) := rfl
        refine lp_x hK40 ?_
        refine blk_e hK39 ?_
        exact cut_n hK38 ⟨_, _, _, _, (Option.some.inj h).symm, _, qv25, rfl, hS⟩
    · obtain ⟨x31, x33, x34, x35, rfl, v32, qv32, rfl, hS⟩ := hq
      replace h := g43
      try dsimp only at h
      refine seq_n hK23 ?_
      refine w_seq fun K60 hK60 => ?_
      refine w_seq fun K61 hK61 => ?_
      obtain ⟨y66, h, g67⟩ := Option.bind_eq_some_iff.1 h
      refine w_join gC (fun s H => ∃ x62 : Bool, ∃ x63 : List Int, ∃ x64 : Int, ∃ x65 : Int, y66 = (x62, x63, x64, x65) ∧ s = [.ptr i0 w0 0 0, u, u, v32, u, u, u, u, u, u, u, u, u, u, u, u, u, u, u, u, u, u, u, u, u, u, u, u, .bool x62, u, u, u, u, u, u] ∧ Own H (⟨v32, 1, x31.map (AV.int .i64)⟩ :: ⟨.ptr i0 w0 0 0, 3, [.agg [.fz (x63.map (AV.int .u8)), .int .i64 x64, .int .u64 x65]]⟩ :: F)) (fun K68 hK68 => ?_) (fun s H hq => ?_)
      · refine w_seq fun K69 hK69 => ?_
        refine w_reg gC ?_
        try simp only [W, EE, Nat.reduceAdd]
        refine w_len 0 hS rfl qv32 rfl ?_
        try simp only [W, EE]
        refine w_grdT h (fun hc h => ?_) (fun hc h => ?_)
        · try simp only [W, hc]
          refine w_call h fun b70 hb70 h => ?_
          obtain ⟨b71, b72⟩ := b70
          try dsimp only at h
          refine spec_l1Cur_one_w hb70 (hS.sel 2 [1, 0] (by decide)) fun H hS => ?_
          try simp only [W, reduceIte]
          refine seq_n hK69 ?_
          refine w_kill ?_
          exact cut_n hK68 ⟨_, _, _, _, (Option.some.inj h).symm, rfl, (hS.sel 2 [1, 0] (by decide))⟩
        · try simp only [W, hc]
          refine seq_n hK69 ?_
          refine w_kill ?_
          exact cut_n hK68 ⟨_, _, _, _, (Option.some.inj h).symm, rfl, hS⟩
      · obtain ⟨x62, x63, x64, x65, rfl, rfl, hS⟩ := hq
        replace h := g67
        try dsimp only at h
        refine seq_n hK61 ?_
        obtain ⟨y77, h, g78⟩ := Option.bind_eq_some_iff.1 h
        refine w_join gC (fun s H => ∃ x73 : List Int, ∃ x74 : List Int, ∃ x75 : Int, ∃ x76 : Int, y77 = (x73, x74, x75, x76) ∧ s = [u, u, u, v32, u, u, u, u, u, u, u, u, u, u, u, u, u, u, u, u, u, u, u, u, u, u, u, u, u, u, u, u, u, u, u] ∧ Own H (⟨v32, 1, x73.map (AV.int .i64)⟩ :: ⟨.ptr i0 w0 0 0, 3, [.agg [.fz (x74.map (AV.int .u8)), .int .i64 x75, .int .u64 x76]]⟩ :: F)) (fun K79 hK79 => ?_) (fun s H hq => ?_)
        · refine w_seq fun K80 hK80 => ?_
          refine w_if ?_
          simp only [W]
          refine w_cnd h (fun hc h => ?_) (fun hc h => ?_)
          · refine w_regF (fz := [(3, [([31], [.sl [.sc]])])]) gC ?_
            try simp only [W, Nat.reduceAdd, Nat.reduceBEq]
            refine w_lit (el := ([-1, 60, 61] : List Int).map (AV.int .i64)) hS rfl rfl rfl rfl rfl rfl rfl fun v81 H qv81 hS => ?_
            try simp only [W, Nat.reduceAdd]
            refine FZ_own 0 hS rfl qv81 rfl (fun _ _ => by simp [takeE, takeT, plainA]) (fun _ => rfl) fun H hsame hS => ?_
            try simp only [W]
            refine w_call h fun b83 hb83 h => ?_
            obtain ⟨b84, b85⟩ := b83
            try dsimp only at h
            refine spec_l1Cur_among_w hb83 (hS.sel 2 [1, 0] (by decide)) fun H hS => ?_
            try simp only [W, EE, Nat.reduceAdd, Nat.reduceBEq]
            refine w_ow 1 hS rfl rfl rfl rfl rfl h (fun b86 in87 wn87 on87 hb86 h en87 => ?_) qv32.ne
            obtain ⟨kn87, hbn87, hen87⟩ := hS.elem 1 rfl en87 hb86
            try simp only [W, Nat.reduceAdd, Nat.reduceBEq]
            refine w_ste (a := .int .i64 b84) (y' := b84) 1 hS rfl en87 hb86 rfl rfl rfl rfl rfl rfl rfl fun H hS => ?_
            try simp only [W, Nat.reduceAdd]
            refine seq_n hK80 ?_
            refine w_kill ?_
            exact cut_n hK79 ⟨_, _, _, _, (Option.some.inj h).symm, rfl, (hS.sel 2 [1, 0] (by decide))⟩
          · refine w_skip ?_
            refine seq_n hK80 ?_
            refine w_kill ?_
            exact cut_n hK79 ⟨_, _, _, _, (Option.some.inj h).symm, rfl, hS⟩
        · obtain ⟨x73, x74, x75, x76, rfl, rfl, hS⟩ := hq
          replace h := g78
          try dsimp only at h
          refine seq_n hK60 ?_
          refine w_seq fun K88 hK88 => ?_
          refine w_reg gC ?_
          try simp only [W, Nat.reduceAdd]
          refine seq_n hK88 ?_
          refine w_ret ?_
          refine fin_r1 hK0 rfl ?_
          try obtain rfl := Option.some.inj h
          exact hP _ qv32 _ hS
theorem spec_l1In_w {a0 : Int} {a1 : Int} {a2 : Int} {r : (Bool)} (h : spec_l1In a0 a1 a2 = some r) {F : List It} {H : Heap} (hS : Own H (F)) {P : AV → Heap → Prop} (hP : ∀ H', Own H' (F) → P (.bool r) H') : ACall C 153 [.int .i64 a0, .int .i64 a1, .int .i64 a2] H P := by
  refine acall_of gC (res := [.tmp 6]) (n := 15) rfl rfl rfl rfl fun K0 hK0 => ?_
  simp only [W, Nat.reduceSub, Nat.reduceAdd, List.replicate]
  unfold spec_l1In at h
  refine w_seq fun K1 hK1 => ?_
  refine w_reg gC ?_
  try simp only [W, Nat.reduceAdd]
  refine seq_n hK1 ?_
  refine w_seq fun K2 hK2 => ?_
  refine w_reg gC ?_
  try simp only [W, EE, Nat.reduceAdd]
  refine w_grdT h (fun hc h => ?_) (fun hc h => ?_)
  · try simp only [W, EE, reduceIte, hc]
    refine seq_n hK2 ?_
    refine w_ret ?_
    refine fin_r1 hK0 rfl ?_
    try obtain rfl := Option.some.inj h
    exact hP _ hS
  · try simp only [W, hc]
    refine seq_n hK2 ?_
    refine w_ret ?_
    refine fin_r1 hK0 rfl ?_
    try obtain rfl := Option.some.inj h
    exact hP _ hS
theorem spec_l7Rate_w {a0 : Int} {a1 : Int} {r : (Bool)} (h : spec_l7Rate a0 a1 = some r) {F : List It} {H : Heap} (hS : Own H (F)) {P : AV → Heap → Prop} (hP : ∀ H', Own H' (F) → P (.bool r) H') : ACall C 164 [.int .i64 a0, .int .i64 a1] H P := by
  refine acall_of gC (res := [.tmp 4]) (n := 11) rfl rfl rfl rfl fun K0 hK0 => ?_
  simp only [W, Nat.reduceSub, Nat.reduceAdd, List.replicate]
  unfold spec_l7Rate at h
  refine w_seq fun K1 hK1 => ?_
  refine w_reg gC ?_
  try simp only [W, Nat.reduceAdd]
  refine seq_n hK1 ?_
  refine w_seq fun K2 hK2 => ?_
  refine w_reg gC ?_
  try simp only [W, Nat.reduceAdd]
  refine w_call h fun b3 hb3 h => ?_
  refine spec_l1In_w hb3 hS fun H hS => ?_
  try simp only [W]
  refine w_grdT h (fun hc h => ?_) (fun hc h => ?_)
  · try simp only [W, hc]
    refine w_call h fun b4 hb4 h => ?_
    refine spec_l1In_w hb4 hS fun H hS => ?_
    try simp only [W, reduceIte]
    refine seq_n hK2 ?_
    refine w_ret ?_
    refine fin_r1 hK0 rfl ?_
    try obtain rfl := Option.some.inj h
    exact hP _ hS
  · try simp only [W, hc]
    refine seq_n hK2 ?_
    refine w_ret ?_
    refine fin_r1 hK0 rfl ?_
    try obtain rfl := Option.some.inj h
    exact hP _ hS
theorem spec_NewBucket_w {a0 : Int} {a1 : Int} {r : (Bucket × Bool)} (h : spec_NewBucket a0 a1 = some r) {F : List It} {H : Heap} (hS : Own H (F)) {P : AV → Heap → Prop} (hP : ∀ H', Own H' (F) → P (.tup [.agg [.int .i64 r.1.Rate, .int .i64 r.1.Depth, .int .i64 r.1.Has], .bool r.2]) H') : ACall C 36 [.int .i64 a0, .int .i64 a1] H P := by
  refine acall_of gC (res := [.cell 4 43, .tmp 5]) (n := 15) rfl rfl rfl rfl fun K0 hK0 => ?_
  simp only [W, Nat.reduceSub, Nat.reduceAdd, List.replicate]
  unfold spec_NewBucket at h
  refine w_seq fun K1 hK1 => ?_
  refine w_reg gC ?_
  try simp only [W, Nat.reduceAdd]
  refine w_alloc hS rfl rfl fun ip2 wp2 H hS => ?_
  try simp only [W]
  refine seq_n hK1 ?_
  refine w_seq fun K4 hK4 => ?_
  refine w_seq fun K5 hK5 => ?_
  refine w_reg gC ?_
  try simp only [W, Nat.reduceAdd]
  refine w_call h fun b6 hb6 h => ?_
  refine spec_l7Rate_w hb6 hS fun H hS => ?_
  try simp only [W]
  refine seq_n hK5 ?_
  refine w_if ?_
  simp only [W]
  refine w_cnd h (fun hc h => ?_) (fun hc h => ?_)
  · refine w_seq fun K7 hK7 => ?_
    refine w_reg gC ?_
    try simp only [W, EE, Nat.reduceAdd]
    refine w_bld rfl rfl rfl rfl rfl ?_
    try simp only [W]
    refine w_stv (a := .agg [.int .i64 0, .int .i64 0, .int .i64 0]) (y' := .agg [.int .i64 0, .int .i64 0, .int .i64 0]) 0 hS rfl rfl rfl rfl rfl rfl rfl rfl fun H hS => ?_
    try simp only [W]
    refine seq_n hK7 ?_
    refine w_ret ?_
    refine seq_r hK4 ?_
    refine fin_r hK0 (res_c rfl rfl (hS.var 0 rfl) rfl (res_tc rfl rfl)) ?_
    try obtain rfl := Option.some.inj h
    exact hP _ (hS.sel 1 [] (by decide))
  · refine w_skip ?_
    refine seq_n hK4 ?_
    refine w_seq fun K8 hK8 => ?_
    refine w_reg gC ?_
    try simp only [W, EE, Nat.reduceAdd]
    refine w_bld rfl rfl rfl rfl rfl ?_
    try simp only [W]
    refine w_stv (a := .agg [.int .i64 a0, .int .i64 a1, .int .i64 a1]) (y' := .agg [.int .i64 a0, .int .i64 a1, .int .i64 a1]) 0 hS rfl rfl rfl rfl rfl rfl rfl rfl fun H hS => ?_
    try simp only [W]
    refine seq_n hK8 ?_
    refine w_ret ?_
    refine fin_r hK0 (res_c rfl rfl (hS.var 0 rfl) rfl (res_tc rfl rfl)) ?_
    try obtain rfl := Option.some.inj h
    exact hP _ (hS.sel 1 [] (by decide))
theorem spec_l1All_w {a0 : List Int} {a1 : Int} {a2 : Int} {r : (Bool)} (h : spec_l1All a0 a1 a2 = some r) {F : List It} {H : Heap} (hS : Own H (F)) {P : AV → Heap → Prop} (hP : ∀ H', Own H' (F) → P (.bool r) H') : ACall C 150 [.fz (a0.map (AV.int .i64)), .int .i64 a1, .int .i64 a2] H P := by
  refine acall_of gC (res := [.tmp 6]) (n := 21) rfl rfl rfl rfl fun K0 hK0 => ?_
  simp only [W, Nat.reduceSub, Nat.reduceAdd, List.replicate]
  unfold spec_l1All at h
  refine w_seq fun K1 hK1 => ?_
  refine w_reg gC ?_
  try simp only [W, Nat.reduceAdd]
  refine seq_n hK1 ?_
  refine w_seq fun K2 hK2 => ?_
  refine w_seq fun K3 hK3 => ?_
  refine w_reg gC ?_
  try simp only [W, EE, Nat.reduceAdd]
  refine seq_n hK3 ?_
  obtain ⟨y5, hw6, g12⟩ := Option.bind_eq_some_iff.1 h
  refine w_join gC (fun s H => y5 = LR.next () ∧ s = [u, u, u, u, u, u, u, u, u, u, u, u, u, u, u, u, u, u, u, u, u] ∧ Own H (F)) (fun K7 hK7 => ?_) (fun s H hq => ?_)
  · refine w_blk fun K8 hK8 => ?_
    refine w_loop gC hw6 (fun x s H => s = [u, .int .i64 a1, .int .i64 a2, u, u, u, u, u, u, .fz (a0.map (AV.int .i64)), .int .i64 (a0.length : Int), .int .i64 x, u, u, u, u, u, u, u, u, u] ∧ Own H (F)) ⟨rfl, hS⟩ (fun x4 y11 s H h hd10 hi K9 hK9 => ?_)
    skip
    try dsimp only at hi
    obtain ⟨rfl, hS⟩ := hi
    simp only [spec_l1All_l0] at h
    refine w_seq fun K13 hK13 => ?_
    refine w_reg gC ?_
    try simp only [W, EE, Nat.reduceAdd]
    refine seq_n hK13 ?_
    refine w_seq fun K14 hK14 => ?_
    refine w_if ?_
    simp only [W]
    refine w_cnd h (fun hc h => ?_) (fun hc h => ?_)
    · refine w_skip ?_
      refine seq_n hK14 ?_
      refine w_seq fun K15 hK15 => ?_
      refine w_blk fun K16 hK16 => ?_
      refine w_seq fun K17 hK17 => ?_
      refine w_reg gC ?_
      try simp only [W, EE, Nat.reduceAdd]
      refine w_fz rfl rfl rfl (fun _ => rfl) h fun b18 hb18 h => ?_
      try simp only [W, EE]
      refine seq_n hK17 ?_
      refine w_seq fun K19 hK19 => ?_
      refine w_reg gC ?_
      try simp only [W, Nat.reduceAdd]
      refine w_call h fun b20 hb20 h => ?_
      refine spec_l1In_w hb20 hS fun H hS => ?_
      try simp only [W]
      refine seq_n hK19 ?_
      refine w_if ?_
      simp only [W]
      refine w_cnd h (fun hc h => ?_) (fun hc h => ?_)
      · refine w_seq fun K21 hK21 => ?_
        refine w_reg gC ?_
        try simp only [W, Nat.reduceAdd]
        refine seq_n hK21 ?_
        refine w_ret ?_
        refine blk_r hK16 ?_
        refine seq_r hK15 ?_
        try obtain rfl := Option.some.inj h
        obtain rfl := hd10 _ rfl
        have h : (some (LR.done false) : Option (LR Unit (Bool))) = some (LR.done false) := rfl
        refine lp_r hK9 ?_
        refine blk_r hK8 ?_
        try obtain rfl := Option.some.inj h
        obtain rfl := Option.some.inj g12
        have h : (some false : Option (Bool)) = some false := rfl
        refine cut_r hK7 ?_
        refine seq_r hK2 ?_
        refine fin_r1 hK0 rfl ?_
        try obtain rfl := Option.some.inj h
        exact hP _ hS
      · refine w_skip ?_
        refine blk_n0 hK16 ?_
        refine seq_n hK15 ?_
        refine w_reg gC ?_
        try simp only [W, EE, Nat.reduceAdd]
        exact lp_n hK9 h ⟨rfl, hS⟩
    · refine w_exit ?_
      refine seq_x hK14 ?_
      try obtain rfl := Option.some.inj h
      obtain rfl := hd10 _ rfl
      have h : (some (LR.next ()) : Option (LR Unit (Bool))) = some (LR.next ()) := rfl
      refine lp_x hK9 ?_
      refine blk_e hK8 ?_
      exact cut_n hK7 ⟨(Option.some.inj h).symm, rfl, hS⟩
  · obtain ⟨rfl, rfl, hS⟩ := hq
    replace h := g12
    try dsimp only at h
    refine seq_n hK2 ?_
    refine w_seq fun K28 hK28 => ?_
    refine w_reg gC ?_
    try simp only [W, Nat.reduceAdd]
    refine seq_n hK28 ?_
    refine w_ret ?_
    refine fin_r1 hK0 rfl ?_
    try obtain rfl := Option.some.inj h
    exact hP _ hS
theorem spec_l7Flow_w {a0 : List Int} {r : (Bool)} (h : spec_l7Flow a0 = some r) {F : List It} {H : Heap} (hS : Own H (F)) {P : AV → Heap → Prop} (hP : ∀ H', Own H' (F) → P (.bool r) H') : ACall C 160 [.fz (a0.map (AV.int .i64))] H P := by
  refine acall_of gC (res := [.tmp 2]) (n := 10) rfl rfl rfl rfl fun K0 hK0 => ?_
  simp only [W, Nat.reduceSub, Nat.reduceAdd, List.replicate]
  unfold spec_l7Flow at h
  refine w_seq fun K1 hK1 => ?_
  refine w_reg gC ?_
  try simp only [W, Nat.reduceAdd]
  refine seq_n hK1 ?_
  refine w_seq fun K2 hK2 => ?_
  refine w_reg gC ?_
  try simp only [W, EE, Nat.reduceAdd]
  refine w_grdT h (fun hc h => ?_) (fun hc h => ?_)
  · try simp only [W, hc]
    refine w_call h fun b3 hb3 h => ?_
    refine spec_l1All_w hb3 hS fun H hS => ?_
    try simp only [W, reduceIte]
    refine seq_n hK2 ?_
    refine w_ret ?_
    refine fin_r1 hK0 rfl ?_
    try obtain rfl := Option.some.inj h
    exact hP _ hS
  · try simp only [W, hc]
    refine seq_n hK2 ?_
    refine w_ret ?_
    refine fin_r1 hK0 rfl ?_
    try obtain rfl := Option.some.inj h
    exact hP _ hS
theorem spec_l1Least_w {a0 : Int} {a1 : Int} {r : (Int)} (h : spec_l1Least a0 a1 = some r) {F : List It} {H : Heap} (hS : Own H (F)) {P : AV → Heap → Prop} (hP : ∀ H', Own H' (F) → P (.int .i64 r) H') : ACall C 162 [.int .i64 a0, .int .i64 a1] H P := by
  refine acall_of gC (res := [.tmp 4]) (n := 10) rfl rfl rfl rfl fun K0 hK0 => ?_
  simp only [W, Nat.reduceSub, Nat.reduceAdd, List.replicate]
  unfold spec_l1Least at h
  refine w_seq fun K1 hK1 => ?_
  refine w_reg gC ?_
  try simp only [W, Nat.reduceAdd]
  refine seq_n hK1 ?_
  refine w_seq fun K2 hK2 => ?_
  refine w_seq fun K3 hK3 => ?_
  refine w_reg gC ?_
  try simp only [W, EE, Nat.reduceAdd]
  refine seq_n hK3 ?_
  refine w_if ?_
  simp only [W]
  refine w_cnd h (fun hc h => ?_) (fun hc h => ?_)
  · refine w_seq fun K4 hK4 => ?_
    refine w_reg gC ?_
    try simp only [W, Nat.reduceAdd]
    refine seq_n hK4 ?_
    refine w_ret ?_
    refine seq_r hK2 ?_
    refine fin_r1 hK0 rfl ?_
    try obtain rfl := Option.some.inj h
    exact hP _ hS
  · refine w_skip ?_
    refine seq_n hK2 ?_
    refine w_seq fun K5 hK5 => ?_
    refine w_reg gC ?_
    try simp only [W, Nat.reduceAdd]
    refine seq_n hK5 ?_
    refine w_ret ?_
    refine fin_r1 hK0 rfl ?_
    try obtain rfl := Option.some.inj h
    exact hP _ hS
theorem spec_l7Tick_w {a0 : Bucket} {r : (Bucket)} (h : spec_l7Tick a0 = some r) {F : List It} {H : Heap} (hS : Own H (F)) {P : AV → Heap → Prop} (hP : ∀ H', Own H' (F) → P (.agg [.int .i64 r.Rate, .int .i64 r.Depth, .int .i64 r.Has]) H') : ACall C 161 [.agg [.int .i64 a0.Rate, .int .i64 a0.Depth, .int .i64 a0.Has]] H P := by
  refine acall_of gC (res := [.cell 2 43]) (n := 13) rfl rfl rfl rfl fun K0 hK0 => ?_
  simp only [W, Nat.reduceSub, Nat.reduceAdd, List.replicate]
  unfold spec_l7Tick at h
  refine w_seq fun K1 hK1 => ?_
  refine w_reg gC ?_
  try simp only [W, Nat.reduceAdd]
  refine w_box hS rfl rfl rfl rfl fun ip2 wp2 H hS => ?_
  try simp only [W]
  refine w_alloc hS rfl rfl fun ip4 wp4 H hS => ?_
  try simp only [W]
  refine seq_n hK1 ?_
  refine w_seq fun K6 hK6 => ?_
  refine w_reg gC ?_
  try simp only [W, EE, Nat.reduceAdd, Nat.reduceBEq, hS.var 1 rfl]
  refine w_call h fun b7 hb7 h => ?_
  refine spec_l1Least_w hb7 hS fun H hS => ?_
  try simp only [W, EE, Nat.reduceAdd, Nat.reduceBEq, hS.var 1 rfl]
  refine w_stv (a := .int .i64 b7) (y' := .agg [.int .i64 a0.Rate, .int .i64 a0.Depth, .int .i64 b7]) 1 hS rfl rfl rfl rfl rfl rfl rfl rfl fun H hS => ?_
  try simp only [W]
  refine seq_n hK6 ?_
  refine w_seq fun K8 hK8 => ?_
  refine w_reg gC ?_
  try simp only [W, EE, reduceIte, Nat.reduceAdd, Nat.reduceLeDiff, hS.var 1 rfl]
  refine w_stv (a := .agg [.int .i64 a0.Rate, .int .i64 a0.Depth, .int .i64 b7]) (y' := .agg [.int .i64 a0.Rate, .int .i64 a0.Depth, .int .i64 b7]) 0 hS rfl rfl rfl rfl rfl rfl rfl rfl fun H hS => ?_
  try simp only [W]
  refine seq_n hK8 ?_
  refine w_ret ?_
  refine fin_r hK0 (res_c rfl rfl (hS.var 0 rfl) rfl rfl) ?_
  try obtain rfl := Option.some.inj h
  exact hP _ (hS.sel 2 [] (by decide))
theorem spec_ShapeFlow_w {a0 : Int} {a1 : Int} {a2 : List Int} {r : (List Int × List Int × Bool)} (h : spec_ShapeFlow a0 a1 a2 = some r) {F : List It} {H : Heap} (hS : Own H (F)) {P : AV → Heap → Prop} (hP : ∀ v79 : AV, isSl v79 → ∀ v81 : AV, isSl v81 → ∀ H', Own H' (⟨v79, 1, r.1.map (AV.int .i64)⟩ :: ⟨v81, 1, r.2.1.map (AV.int .i64)⟩ :: F) → P (.tup [v79, v81, .bool r.2.2]) H') : ACall C 25 [.int .i64 a0, .int .i64 a1, .fz (a2.map (AV.int .i64))] H P := by
  refine acall_of gC (res := [.tmp 6, .tmp 7, .tmp 8]) (n := 67) rfl rfl rfl rfl fun K0 hK0 => ?_
  simp only [W, Nat.reduceSub, Nat.reduceAdd, List.replicate]
  unfold spec_ShapeFlow at h
  refine w_seq fun K1 hK1 => ?_
  refine w_reg gC ?_
  try simp only [W, Nat.reduceAdd]
  refine seq_n hK1 ?_
  refine w_seq fun K2 hK2 => ?_
  refine w_reg gC ?_
  try simp only [W, Nat.reduceAdd]
  refine w_call h fun b3 hb3 h => ?_
  obtain ⟨b4, b5⟩ := b3
  try dsimp only at h
  refine spec_NewBucket_w hb3 hS fun H hS => ?_
  try simp only [W]
  refine w_alloc hS rfl rfl fun ip6 wp6 H hS => ?_
  try simp only [W]
  refine w_stv (a := .agg [.int .i64 b4.Rate, .int .i64 b4.Depth, .int .i64 b4.Has]) (y' := .agg [.int .i64 b4.Rate, .int .i64 b4.Depth, .int .i64 b4.Has]) 0 hS rfl rfl rfl rfl rfl rfl rfl rfl fun H hS => ?_
  try simp only [W]
  refine seq_n hK2 ?_
  refine w_seq fun K8 hK8 => ?_
  refine w_seq fun K9 hK9 => ?_
  obtain ⟨y11, h, g12⟩ := Option.bind_eq_some_iff.1 h
  refine w_join gC (fun s H => ∃ x10 : Bool, y11 = (x10) ∧ s = [u, u, .fz (a2.map (AV.int .i64)), u, u, u, u, u, u, .ptr ip6 wp6 0 0, u, u, u, u, u, u, u, u, u, u, u, u, u, u, u, u, u, u, u, .bool x10, u, u, u, u, u, u, u, u, u, u, u, u, u, u, u, u, u, u, u, u, u, u, u, u, u, u, u, u, u, u, u, u, u, u, u, u, u] ∧ Own H (⟨.ptr ip6 wp6 0 0, 3, [.agg [.int .i64 b4.Rate, .int .i64 b4.Depth, .int .i64 b4.Has]]⟩ :: F)) (fun K13 hK13 => ?_) (fun s H hq => ?_)
  · refine w_seq fun K14 hK14 => ?_
    refine w_reg gC ?_
    try simp only [W, Nat.reduceAdd]
    refine w_grdT h (fun hc h => ?_) (fun hc h => ?_)
    · try simp only [W, hc]
      refine seq_n hK14 ?_
      refine w_kill ?_
      exact cut_n hK13 ⟨_, (Option.some.inj h).symm, rfl, hS⟩
    · try simp only [W, hc]
      refine w_call h fun b15 hb15 h => ?_
      refine spec_l7Flow_w hb15 hS fun H hS => ?_
      try simp only [W, reduceIte, Bool.false_eq_true]
      refine seq_n hK14 ?_
      refine w_kill ?_
      exact cut_n hK13 ⟨_, (Option.some.inj h).symm, rfl, hS⟩
  · obtain ⟨x10, ey, rfl, hS⟩ := hq; obtain rfl := ey.symm
    replace h := g12
    try dsimp only at h
    refine seq_n hK9 ?_
    refine w_if ?_
    simp only [W]
    refine w_cnd h (fun hc h => ?_) (fun hc h => ?_)
    · refine w_seq fun K16 hK16 => ?_
      refine w_reg gC ?_
      try simp only [W, Nat.reduceAdd]
      refine seq_n hK16 ?_
      refine w_ret ?_
      refine seq_r hK8 ?_
      refine fin_r3 hK0 rfl rfl rfl ?_
      try obtain rfl := Option.some.inj h
      exact hP _ isSl_nil _ isSl_nil _ (((hS.nil_ 1).nil_ 1).sel 3 [0, 1] (by decide))
    · refine w_skip ?_
      refine seq_n hK8 ?_
      refine w_seq fun K17 hK17 => ?_
      refine w_reg gC ?_
      try simp only [W, Nat.reduceAdd]
      refine seq_n hK17 ?_
      refine w_seq fun K18 hK18 => ?_
      refine w_reg gC ?_
      try simp only [W, Nat.reduceAdd]
      refine seq_n hK18 ?_
      refine w_seq fun K19 hK19 => ?_
      refine w_seq fun K20 hK20 => ?_
      refine w_reg gC ?_
      try simp only [W, EE, Nat.reduceAdd]
      refine seq_n hK20 ?_
      obtain ⟨y36, hw37, g43⟩ := Option.bind_eq_some_iff.1 h
      refine w_join gC (fun s H => ∃ x32 : List Int, ∃ x34 : List Int, y36 = (x32, x34) ∧ ∃ v33 : AV, isSl v33 ∧ ∃ v35 : AV, isSl v35 ∧ s = [u, u, u, u, u, u, u, u, u, u, u, v33, v35, u, u, u, u, u, u, u, u, u, u, u, u, u, u, u, u, u, u, u, u, u, u, u, u, u, u, u, u, u, u, u, u, u, u, u, u, u, u, u, u, u, u, u, u, u, u, u, u, u, u, u, u, u, u] ∧ Own H (⟨v33, 1, x32.map (AV.int .i64)⟩ :: ⟨v35, 1, x34.map (AV.int .i64)⟩ :: F)) (fun K38 hK38 => ?_) (fun s H hq => ?_)
      · refine w_blk fun K39 hK39 => ?_
        refine w_loop gC hw37 (fun x s H => match x with | (x21, x24, x27, x28, x29, x30, x31) => ∃ v22 : AV, isSl v22 ∧ ∃ v25 : AV, isSl v25 ∧ s = [u, u, u, u, u, u, u, u, u, .ptr ip6 wp6 0 0, u, v22, v25, .int .i64 x27, u, u, u, u, u, u, u, u, u, u, u, u, u, u, u, u, .fz (a2.map (AV.int .i64)), .int .i64 (a2.length : Int), .int .i64 x28, u, u, u, u, u, u, u, u, u, u, u, u, u, u, u, u, u, u, u, u, u, u, u, u, u, u, u, u, u, u, u, u, u, u] ∧ Own H (⟨v22, 1, x21.map (AV.int .i64)⟩ :: ⟨v25, 1, x24.map (AV.int .i64)⟩ :: ⟨.ptr ip6 wp6 0 0, 3, [.agg [.int .i64 x29, .int .i64 x30, .int .i64 x31]]⟩ :: F)) ⟨_, isSl_nil, _, isSl_nil, rfl, ((hS.nil_ 1).nil_ 1)⟩ (fun x y42 s H h hd41 hi K40 hK40 => ?_)
        obtain ⟨x21, x24, x27, x28, x29, x30, x31⟩ := x
        try dsimp only at hi
        obtain ⟨v22, qv22, v25, qv25, rfl, hS⟩ := hi
        simp only [spec_ShapeFlow_l0] at h
        refine w_seq fun K44 hK44 => ?_
        refine w_reg gC ?_
        try simp only [W, EE, Nat.reduceAdd]
        refine seq_n hK44 ?_
        refine w_seq fun K45 hK45 => ?_
        refine w_if ?_
        simp only [W]
        refine w_cnd h (fun hc h => ?_) (fun hc h => ?_)
        · refine w_skip ?_
          refine seq_n hK45 ?_
          refine w_seq fun K46 hK46 => ?_
          refine w_blk fun K47 hK47 => ?_
          refine w_seq fun K48 hK48 => ?_
          refine w_reg gC ?_
          try simp only [W, EE, Nat.reduceAdd]
          refine w_fz rfl rfl rfl (fun _ => rfl) h fun b49 hb49 h => ?_
          try simp only [W, EE]
          refine seq_n hK48 ?_
          refine w_seq fun K50 hK50 => ?_
          refine w_seq fun K51 hK51 => ?_
          refine w_reg gC ?_
          try simp only [W, EE, Nat.reduceAdd]
          refine seq_n hK51 ?_
          obtain ⟨y55, h, g56⟩ := Option.bind_eq_some_iff.1 h
          refine w_join gC (fun s H => ∃ x52 : Int, ∃ x53 : Int, ∃ x54 : Int, y55 = (x52, x53, x54) ∧ s = [u, u, u, u, u, u, u, u, u, .ptr ip6 wp6 0 0, u, v22, v25, .int .i64 x27, u, .int .i64 b49, u, u, u, u, u, u, u, u, u, u, u, u, u, u, .fz (a2.map (AV.int .i64)), .int .i64 (a2.length : Int), .int .i64 x28, u, u, u, u, u, u, u, u, u, u, u, u, u, u, u, u, u, u, u, u, u, u, u, u, u, u, u, u, u, u, u, u, u, u] ∧ Own H (⟨v22, 1, x21.map (AV.int .i64)⟩ :: ⟨v25, 1, x24.map (AV.int .i64)⟩ :: ⟨.ptr ip6 wp6 0 0, 3, [.agg [.int .i64 x52, .int .i64 x53, .int .i64 x54]]⟩ :: F)) (fun K57 hK57 => ?_) (fun s H hq => ?_)
          · refine w_seq fun K58 hK58 => ?_
            refine w_if ?_
            simp only [W]
            refine w_cnd h (fun hc h => ?_) (fun hc h => ?_)
            · refine w_reg gC ?_
              try simp only [W, EE, reduceIte, Nat.reduceAdd, Nat.reduceLeDiff, hS.var 2 rfl]
              refine w_call h fun b59 hb59 h => ?_
              refine spec_l7Tick_w hb59 hS fun H hS => ?_
              try simp only [W]
              refine w_stv (a := .agg [.int .i64 b59.Rate, .int .i64 b59.Depth, .int .i64 b59.Has]) (y' := .agg [.int .i64 b59.Rate, .int .i64 b59.Depth, .int .i64 b59.Has]) 2 hS rfl rfl rfl rfl rfl rfl rfl rfl fun H hS => ?_
              try simp only [W]
              refine seq_n hK58 ?_
              refine w_kill ?_
              exact cut_n hK57 ⟨_, _, _, (Option.some.inj h).symm, rfl, hS⟩
            · refine w_skip ?_
              refine seq_n hK58 ?_
              refine w_kill ?_
              exact cut_n hK57 ⟨_, _, _, (Option.some.inj h).symm, rfl, hS⟩
          · obtain ⟨x52, x53, x54, rfl, rfl, hS⟩ := hq
            replace h := g56
            try dsimp only at h
            refine seq_n hK50 ?_
            refine w_seq fun K60 hK60 => ?_
            refine w_reg gC ?_
            try simp only [W, EE, Nat.reduceAdd]
            refine seq_n hK60 ?_
            refine w_seq fun K61 hK61 => ?_
            refine w_reg gC ?_
            try simp only [W, EE, Nat.reduceAdd, Nat.reduceBEq, hS.var 2 rfl]
            refine w_call h fun b62 hb62 h => ?_
            refine spec_l1Least_w hb62 hS fun H hS => ?_
            try simp only [W]
            refine seq_n hK61 ?_
            refine w_seq fun K63 hK63 => ?_
            refine w_reg gC ?_
            try simp only [W, EE, Nat.reduceAdd, Nat.reduceBEq, hS.var 2 rfl]
            refine w_stv (a := .int .i64 (IntKind.i64.wrap (x54 - b62))) (y' := .agg [.int .i64 x52, .int .i64 x53, .int .i64 (IntKind.i64.wrap (x54 - b62))]) 2 hS rfl rfl rfl rfl rfl rfl rfl rfl fun H hS => ?_
            try simp only [W]
            refine seq_n hK63 ?_
            refine w_seq fun K64 hK64 => ?_
            refine w_reg gC ?_
            try simp only [W, EE, Nat.reduceAdd]
            refine seq_n hK64 ?_
            refine w_seq fun K65 hK65 => ?_
            refine w_reg gC ?_
            try simp only [W, Nat.reduceAdd]
            refine w_lit (el := ([b62] : List Int).map (AV.int .i64)) hS rfl rfl rfl rfl rfl rfl rfl fun v66 H qv66 hS => ?_
            try simp only [W, EE]
            refine w_appV (l := x21) (c := (AV.int .i64)) 1 hS rfl qv22 rfl rfl rfl (hS.elems 0 rfl qv66) (fun _ => rfl) rfl h fun v69 H x68 qv69 hm h hS => ?_
            try simp only [W]
            refine seq_n hK65 ?_
            refine w_reg gC ?_
            try simp only [W, Nat.reduceAdd]
            refine w_lit (el := ([(IntKind.i64.wrap ((IntKind.i64.wrap (x27 + b49)) - b62))] : List Int).map (AV.int .i64)) hS rfl rfl rfl rfl rfl rfl rfl fun v71 H qv71 hS => ?_
            try simp only [W, EE]
            refine w_appV (l := x24) (c := (AV.int .i64)) 3 hS rfl qv25 rfl rfl rfl (hS.elems 0 rfl qv71) (fun _ => rfl) rfl h fun v74 H x73 qv74 hm h hS => ?_
            try simp only [W]
            refine blk_n0 hK47 ?_
            refine seq_n hK46 ?_
            refine w_reg gC ?_
            try simp only [W, EE, Nat.reduceAdd]
            exact lp_n hK40 h ⟨_, qv69, _, qv74, rfl, (hS.sel 5 [2, 3, 4] (by decide))⟩
        · refine w_exit ?_
          refine seq_x hK45 ?_
          try obtain rfl := Option.some.inj h
          obtain rfl := hd41 _ rfl
          have h : (some (x21, x24) : Option ((List Int) × (List Int))) = some (x21, x24) := rfl
          refine lp_x hK40 ?_
          refine blk_e hK39 ?_
          exact cut_n hK38 ⟨_, _, (Option.some.inj h).symm, _, qv22, _, qv25, rfl, (hS.sel 3 [0, 1] (by decide))⟩
      · obtain ⟨x32, x34, rfl, v33, qv33, v35, qv35, rfl, hS⟩ := hq
        replace h := g43
        try dsimp only at h
        refine seq_n hK19 ?_
        refine w_seq fun K78 hK78 => ?_
        refine w_reg gC ?_
        try simp only [W, Nat.reduceAdd]
        refine seq_n hK78 ?_
        refine w_ret ?_
        refine fin_r3 hK0 rfl rfl rfl ?_
        try obtain rfl := Option.some.inj h
        exact hP _ qv33 _ qv35 _ hS
theorem spec_DrawConforms_w {a0 : List Int} {r : (Int × Int × List Int)} (h : spec_DrawConforms a0 = some r) {F : List It} {H : Heap} (hS : Own H (F)) {P : AV → Heap → Prop} (hP : ∀ v39 : AV, isSl v39 → ∀ H', Own H' (⟨v39, 1, r.2.2.map (AV.int .i64)⟩ :: F) → P (.tup [.int .i64 r.1, .int .i64 r.2.1, v39]) H') : ACall C 83 [.fz (a0.map (AV.int .u8))] H P := by
  refine acall_of gC (res := [.tmp 2, .tmp 3, .tmp 4]) (n := 41) rfl rfl rfl rfl fun K0 hK0 => ?_
  simp only [W, Nat.reduceSub, Nat.reduceAdd, List.replicate]
  unfold spec_DrawConforms at h
  refine w_seq fun K1 hK1 => ?_
  refine w_reg gC ?_
  try simp only [W, Nat.reduceAdd]
  refine seq_n hK1 ?_
  refine w_seq fun K2 hK2 => ?_
  refine w_reg gC ?_
  try simp only [W, EE, Nat.reduceAdd]
  refine w_bld rfl rfl rfl rfl rfl ?_
  try simp only [W]
  refine w_box hS rfl rfl rfl rfl fun ip3 wp3 H hS => ?_
  try simp only [W]
  refine seq_n hK2 ?_
  refine w_seq fun K5 hK5 => ?_
  refine w_reg gC ?_
  try simp only [W, Nat.reduceAdd]
  refine w_call h fun b6 hb6 h => ?_
  obtain ⟨b7, b8, b9⟩ := b6
  try dsimp only at h
  refine spec_l1Cur_rate_w hb6 hS fun H hS => ?_
  try simp only [W]
  refine seq_n hK5 ?_
  refine w_seq fun K10 hK10 => ?_
  refine w_reg gC ?_
  try simp only [W, Nat.reduceAdd]
  refine w_call h fun b11 hb11 h => ?_
  obtain ⟨b12, b13⟩ := b11
  try dsimp only at h
  refine spec_l1Cur_flow_w hb11 hS fun v14 qv14 H hS => ?_
  try simp only [W]
  refine seq_n hK10 ?_
  refine w_seq fun K16 hK16 => ?_
  refine w_seq fun K17 hK17 => ?_
  refine w_reg gC ?_
  try simp only [W, Nat.reduceAdd, Nat.reduceBEq, List.contains_cons, Nat.reduceBEq, Bool.or_self]
  refine w_callO (rsh := [[.sl [.sc]], [.sl [.sc]], [.sc]]) (ys := [.int .i64 b7, .int .i64 b8, .fz (b12.map (AV.int .i64))]) h rfl (pv_c rfl (pv_c rfl (pv_c (sn_ow hS 0 rfl qv14 (fun _ => rfl)) pv_n))) fun b18 hb18 h => ⟨.tup [.own 1 (b18.1.map (AV.int .i64)), .own 1 (b18.2.1.map (AV.int .i64)), .bool b18.2.2], spec_ShapeFlow_w hb18 (Own.nil _) fun v22 qv22 v23 qv23 H hS => TV_ok rfl (TV_o 0 hS rfl qv22 (fun _ _ => by simp [takeE, takeT, plainA]) fun H hS => TV_o 0 hS rfl qv23 (fun _ _ => by simp [takeE, takeT, plainA]) fun H hS => TV_p rfl (TV_n rfl)), (nf_t (nf_c (noFz_o _ (fun _ => rfl) _) (nf_c (noFz_o _ (fun _ => rfl) _) (nf_c rfl nf_n)))), ?_⟩
  refine thaw_tup ?_
  refine TH_o hS (fun _ _ => rfl) (fun _ => rfl) fun v25 H qv25 hS => ?_
  refine TH_o hS (fun _ _ => rfl) (fun _ => rfl) fun v27 H qv27 hS => ?_
  refine TH_p (fun _ => rfl) ?_
  refine TH_n ?_
  try simp only [List.headD_cons]
  obtain ⟨b19, b20, b21⟩ := b18
  try dsimp only at h
  try simp only [W]
  refine seq_n hK17 ?_
  refine w_seq fun K28 hK28 => ?_
  obtain ⟨y30, h, g31⟩ := Option.bind_eq_some_iff.1 h
  refine w_join gC (fun s H => ∃ x29 : Bool, y30 = (x29) ∧ s = [u, u, u, u, u, u, .int .i64 b7, .int .i64 b8, v14, v25, u, u, u, u, u, u, u, u, u, u, u, u, u, u, u, u, u, u, u, u, u, u, u, u, .bool x29, u, u, u, u, u, u] ∧ Own H (⟨v14, 1, b12.map (AV.int .i64)⟩ :: ⟨v25, 1, b19.map (AV.int .i64)⟩ :: F)) (fun K32 hK32 => ?_) (fun s H hq => ?_)
  · refine w_seq fun K33 hK33 => ?_
    refine w_reg gC ?_
    try simp only [W, Nat.reduceAdd]
    refine w_grdT h (fun hc h => ?_) (fun hc h => ?_)
    · try simp only [W, hc]
      refine w_call h fun b34 hb34 h => ?_
      obtain ⟨b35, b36⟩ := b34
      try dsimp only at h
      refine spec_l1Cur_one_w hb34 (hS.sel 4 [3, 0, 1, 2] (by decide)) fun H hS => ?_
      try simp only [W, reduceIte]
      refine seq_n hK33 ?_
      refine w_kill ?_
      exact cut_n hK32 ⟨_, (Option.some.inj h).symm, rfl, (hS.sel 4 [3, 2] (by decide))⟩
    · try simp only [W, hc]
      refine seq_n hK33 ?_
      refine w_kill ?_
      exact cut_n hK32 ⟨_, (Option.some.inj h).symm, rfl, (hS.sel 4 [2, 1] (by decide))⟩
  · obtain ⟨x29, ey, rfl, hS⟩ := hq; obtain rfl := ey.symm
    replace h := g31
    try dsimp only at h
    refine seq_n hK28 ?_
    refine w_if ?_
    simp only [W]
    refine w_cnd h (fun hc h => ?_) (fun hc h => ?_)
    · refine w_seq fun K37 hK37 => ?_
      refine w_reg gC ?_
      try simp only [W, Nat.reduceAdd]
      refine seq_n hK37 ?_
      refine w_ret ?_
      refine seq_r hK16 ?_
      refine fin_r3 hK0 rfl rfl rfl ?_
      try obtain rfl := Option.some.inj h
      exact hP _ qv25 _ (hS.sel 2 [1] (by decide))
    · refine w_skip ?_
      refine seq_n hK16 ?_
      refine w_seq fun K38 hK38 => ?_
      refine w_reg gC ?_
      try simp only [W, Nat.reduceAdd]
      refine seq_n hK38 ?_
      refine w_ret ?_
      refine fin_r3 hK0 rfl rfl rfl ?_
      try obtain rfl := Option.some.inj h
      exact hP _ qv14 _ (hS.sel 2 [0] (by decide))
theorem impl_in_w {a0 : Int} {a1 : Int} {a2 : Int} {r : (Bool)} (h : impl_in a0 a1 a2 = some r) {F : List It} {H : Heap} (hS : Own H (F)) {P : AV → Heap → Prop} (hP : ∀ H', Own H' (F) → P (.bool r) H') : ACall C 147 [.int .i64 a0, .int .i64 a1, .int .i64 a2] H P := by
  refine acall_of gC (res := [.tmp 6]) (n := 15) rfl rfl rfl rfl fun K0 hK0 => ?_
  simp only [W, Nat.reduceSub, Nat.reduceAdd, List.replicate]
  unfold impl_in at h
  refine w_seq fun K1 hK1 => ?_
  refine w_reg gC ?_
  try simp only [W, Nat.reduceAdd]
  refine seq_n hK1 ?_
  refine w_seq fun K2 hK2 => ?_
  refine w_reg gC ?_
  try simp only [W, EE, Nat.reduceAdd]
  refine w_grdT h (fun hc h => ?_) (fun hc h => ?_)
  · try simp only [W, EE, reduceIte, hc]
    refine seq_n hK2 ?_
    refine w_ret ?_
    refine fin_r1 hK0 rfl ?_
    try obtain rfl := Option.some.inj h
    exact hP _ hS
  · try simp only [W, hc]
    refine seq_n hK2 ?_
    refine w_ret ?_
    refine fin_r1 hK0 rfl ?_
    try obtain rfl := Option.some.inj h
    exact hP _ hS
theorem impl_isRate_w {a0 : Int} {a1 : Int} {r : (Bool)} (h : impl_isRate a0 a1 = some r) {F : List It} {H : Heap} (hS : Own H (F)) {P : AV → Heap → Prop} (hP : ∀ H', Own H' (F) → P (.bool r) H') : ACall C 163 [.int .i64 a0, .int .i64 a1] H P := by
  refine acall_of gC (res := [.tmp 4]) (n := 11) rfl rfl rfl rfl fun K0 hK0 => ?_
  simp only [W, Nat.reduceSub, Nat.reduceAdd, List.replicate]
  unfold impl_isRate at h
  refine w_seq fun K1 hK1 => ?_
  refine w_reg gC ?_
  try simp only [W, Nat.reduceAdd]
  refine seq_n hK1 ?_
  refine w_seq fun K2 hK2 => ?_
  refine w_reg gC ?_
  try simp only [W, Nat.reduceAdd]
  refine w_call h fun b3 hb3 h => ?_
  refine impl_in_w hb3 hS fun H hS => ?_
  try simp only [W]
  refine w_grdT h (fun hc h => ?_) (fun hc h => ?_)
  · try simp only [W, hc]
    refine w_call h fun b4 hb4 h => ?_
    refine impl_in_w hb4 hS fun H hS => ?_
    try simp only [W, reduceIte]
    refine seq_n hK2 ?_
    refine w_ret ?_
    refine fin_r1 hK0 rfl ?_
    try obtain rfl := Option.some.inj h
    exact hP _ hS
  · try simp only [W, hc]
    refine seq_n hK2 ?_
    refine w_ret ?_
    refine fin_r1 hK0 rfl ?_
    try obtain rfl := Option.some.inj h
    exact hP _ hS
theorem slices_IndexFunc_int_w {a0 : List Int} {g1 : Int → Option Bool} {f1 : FuncId} {c1 : List AV} {r : (Int)} (h : slices_IndexFunc_int a0 g1 = some r) {F : List It} {H : Heap} (hg1 : ∀ {x0 : Int} {r : Bool}, g1 x0 = some r → ∀ (L : List It) (n : Nat), L.drop n = F → ∀ (H : Heap), Own H L → ∀ (P : AV → Heap → Prop), (∀ H', Own H' L → P (.bool r) H') → ACall C f1 ([.int .i64 x0] ++ c1) H P) (hS : Own H (F)) {P : AV → Heap → Prop} (hP : ∀ H', Own H' (F) → P (.int .i64 r) H') : ACall C 255 [.fz (a0.map (AV.int .i64)), .fn f1 c1] H P := by
  refine acall_of gC (res := [.tmp 4]) (n := 19) rfl rfl rfl rfl fun K0 hK0 => ?_
  simp only [W, Nat.reduceSub, Nat.reduceAdd, List.replicate]
  unfold slices_IndexFunc_int at h
  refine w_seq fun K1 hK1 => ?_
  refine w_reg gC ?_
  try simp only [W, Nat.reduceAdd]
  refine seq_n hK1 ?_
  refine w_seq fun K2 hK2 => ?_
  refine w_seq fun K3 hK3 => ?_
  refine w_reg gC ?_
  try simp only [W, EE, Nat.reduceAdd]
  refine seq_n hK3 ?_
  obtain ⟨y5, hw6, g12⟩ := Option.bind_eq_some_iff.1 h
  refine w_join gC (fun s H => y5 = LR.next () ∧ s = [u, u, u, u, u, u, u, u, u, u, u, u, u, u, u, u, u, u, u] ∧ Own H (F)) (fun K7 hK7 => ?_) (fun s H hq => ?_)
  · refine w_blk fun K8 hK8 => ?_
    refine w_loop gC hw6 (fun x s H => s = [.fz (a0.map (AV.int .i64)), .fn f1 c1, u, u, u, u, u, .int .i64 (a0.length : Int), .int .i64 x, u, u, u, u, u, u, u, u, u, u] ∧ Own H (F)) ⟨rfl, hS⟩ (fun x4 y11 s H h hd10 hi K9 hK9 => ?_)
    skip
    try dsimp only at hi
    obtain ⟨rfl, hS⟩ := hi
    simp only [slices_IndexFunc_int_l0] at h
    refine w_seq fun K13 hK13 => ?_
    refine w_reg gC ?_
    try simp only [W, EE, Nat.reduceAdd]
    refine seq_n hK13 ?_
    refine w_seq fun K14 hK14 => ?_
    refine w_if ?_
    simp only [W]
    refine w_cnd h (fun hc h => ?_) (fun hc h => ?_)
    · refine w_skip ?_
      refine seq_n hK14 ?_
      refine w_seq fun K15 hK15 => ?_
      refine w_blk fun K16 hK16 => ?_
      refine w_seq fun K17 hK17 => ?_
      refine w_reg gC ?_
      try simp only [W, Nat.reduceAdd]
      refine seq_n hK17 ?_
      refine w_seq fun K18 hK18 => ?_
      refine w_reg gC ?_
      try simp only [W, EE, Nat.reduceAdd]
      refine w_fz rfl rfl rfl (fun _ => rfl) h fun b19 hb19 h => ?_
      try simp only [W, EE]
      refine w_call h fun b20 hb20 h => ?_
      refine hg1 hb20 _ 0 rfl _ hS _ fun H hS => ?_
      try simp only [W]
      refine seq_n hK18 ?_
      refine w_if ?_
      simp only [W]
      refine w_cnd h (fun hc h => ?_) (fun hc h => ?_)
      · refine w_seq fun K21 hK21 => ?_
        refine w_reg gC ?_
        try simp only [W, Nat.reduceAdd]
        refine seq_n hK21 ?_
        refine w_ret ?_
        refine blk_r hK16 ?_
        refine seq_r hK15 ?_
        try obtain rfl := Option.some.inj h
        obtain rfl := hd10 _ rfl
        have h : (some (LR.done x4) : Option (LR Unit (Int))) = some (LR.done x4) := rfl
        refine lp_r hK9 ?_
        refine blk_r hK8 ?_
        try obtain rfl := Option.some.inj h
        obtain rfl := Option.some.inj g12
        have h : (some x4 : Option (Int)) = some x4 := rfl
        refine cut_r hK7 ?_
        refine seq_r hK2 ?_
        refine fin_r1 hK0 rfl ?_
        try obtain rfl := Option.some.inj h
        exact hP _ hS
      · refine w_skip ?_
        refine blk_n0 hK16 ?_
        refine seq_n hK15 ?_
        refine w_reg gC ?_
        try simp only [W, EE, Nat.reduceAdd]
        exact lp_n hK9 h ⟨rfl, hS⟩
    · refine w_exit ?_
      refine seq_x hK14 ?_
      try obtain rfl := Option.some.inj h
      obtain rfl := hd10 _ rfl
      have h : (some (LR.next ()) : Option (LR Unit (Int))) = some (LR.next ()) := rfl
      refine lp_x hK9 ?_
      refine blk_e hK8 ?_
      exact cut_n hK7 ⟨(Option.some.inj h).symm, rfl, hS⟩
  · obtain ⟨rfl, rfl, hS⟩ := hq
    replace h := g12
    try dsimp only at h
    refine seq_n hK2 ?_
    refine w_seq fun K28 hK28 => ?_
    refine w_reg gC ?_
    try simp only [W, Nat.reduceAdd]
    refine seq_n hK28 ?_
    refine w_ret ?_
    refine fin_r1 hK0 rfl ?_
    try obtain rfl := Option.some.inj h
    exact hP _ hS
theorem slices_ContainsFunc_int_w {a0 : List Int} {g1 : Int → Option Bool} {f1 : FuncId} {c1 : List AV} {r : (Bool)} (h : slices_ContainsFunc_int a0 g1 = some r) {F : List It} {H : Heap} (hg1 : ∀ {x0 : Int} {r : Bool}, g1 x0 = some r → ∀ (L : List It) (n : Nat), L.drop n = F → ∀ (H : Heap), Own H L → ∀ (P : AV → Heap → Prop), (∀ H', Own H' L → P (.bool r) H') → ACall C f1 ([.int .i64 x0] ++ c1) H P) (hS : Own H (F)) {P : AV → Heap → Prop} (hP : ∀ H', Own H' (F) → P (.bool r) H') : ACall C 145 [.fz (a0.map (AV.int .i64)), .fn f1 c1] H P := by
  refine acall_of gC (res := [.tmp 4]) (n := 9) rfl rfl rfl rfl fun K0 hK0 => ?_
  simp only [W, Nat.reduceSub, Nat.reduceAdd, List.replicate]
  unfold slices_ContainsFunc_int at h
  refine w_seq fun K1 hK1 => ?_
  refine w_reg gC ?_
  try simp only [W, Nat.reduceAdd]
  refine seq_n hK1 ?_
  refine w_seq fun K2 hK2 => ?_
  refine w_reg gC ?_
  try simp only [W, Nat.reduceAdd]
  refine w_call h fun b3 hb3 h => ?_
  refine slices_IndexFunc_int_w hb3 hg1 hS fun H hS => ?_
  try simp only [W, EE]
  refine seq_n hK2 ?_
  refine w_ret ?_
  refine fin_r1 hK0 rfl ?_
  try obtain rfl := Option.some.inj h
  exact hP _ hS
theorem impl_isFlow_1_w {a0 : Int} {r : (Bool)} (h : impl_isFlow_1 a0 = some r) {F : List It} {H : Heap} (hS : Own H (F)) {P : AV → Heap → Prop} (hP : ∀ H', Own H' (F) → P (.bool r) H') : ACall C 256 [.int .i64 a0] H P := by
  refine acall_of gC (res := [.tmp 2]) (n := 6) rfl rfl rfl rfl fun K0 hK0 => ?_
  simp only [W, Nat.reduceSub, Nat.reduceAdd, List.replicate]
  unfold impl_isFlow_1 at h
  refine w_seq fun K1 hK1 => ?_
  refine w_reg gC ?_
  try simp only [W, Nat.reduceAdd]
  refine seq_n hK1 ?_
  refine w_seq fun K2 hK2 => ?_
  refine w_reg gC ?_
  try simp only [W, Nat.reduceAdd]
  refine w_call h fun b3 hb3 h => ?_
  refine impl_in_w hb3 hS fun H hS => ?_
  try simp only [W]
  refine seq_n hK2 ?_
  refine w_ret ?_
  refine fin_r1 hK0 rfl ?_
  try obtain rfl := Option.some.inj h
  exact hP _ hS
theorem impl_isFlow_w {a0 : List Int} {r : (Bool)} (h : impl_isFlow a0 = some r) {F : List It} {H : Heap} (hS : Own H (F)) {P : AV → Heap → Prop} (hP : ∀ H', Own H' (F) → P (.bool r) H') : ACall C 157 [.fz (a0.map (AV.int .i64))] H P := by
  refine acall_of gC (res := [.tmp 2]) (n := 11) rfl rfl rfl rfl fun K0 hK0 => ?_
  simp only [W, Nat.reduceSub, Nat.reduceAdd, List.replicate]
  unfold impl_isFlow at h
  refine w_seq fun K1 hK1 => ?_
  refine w_reg gC ?_
  try simp only [W, Nat.reduceAdd]
  refine seq_n hK1 ?_
  refine w_seq fun K2 hK2 => ?_
  refine w_reg gC ?_
  try simp only [W, EE, Nat.reduceAdd]
  refine w_grdT h (fun hc h => ?_) (fun hc h => ?_)
  · try simp only [W, hc]
    refine w_call h fun b3 hb3 h => ?_
    refine slices_ContainsFunc_int_w hb3 (fun h _ n hL _ hS _ hP => impl_isFlow_1_w h hS hP) hS fun H hS => ?_
    try simp only [W, reduceIte]
    refine seq_n hK2 ?_
    refine w_ret ?_
    refine fin_r1 hK0 rfl ?_
    try obtain rfl := Option.some.inj h
    exact hP _ hS
  · try simp only [W, hc]
    refine seq_n hK2 ?_
    refine w_ret ?_
    refine fin_r1 hK0 rfl ?_
    try obtain rfl := Option.some.inj h
    exact hP _ hS
theorem impl_Conforms_w {a0 : Int} {a1 : Int} {a2 : List Int} {r : (Bool × Bool)} (h : impl_Conforms a0 a1 a2 = some r) {F : List It} {H : Heap} (hS : Own H (F)) {P : AV → Heap → Prop} (hP : ∀ H', Own H' (F) → P (.tup [.bool r.1, .bool r.2]) H') : ACall C 26 [.int .i64 a0, .int .i64 a1, .fz (a2.map (AV.int .i64))] H P := by
  refine acall_of gC (res := [.tmp 6, .tmp 7]) (n := 47) rfl rfl rfl rfl fun K0 hK0 => ?_
  simp only [W, Nat.reduceSub, Nat.reduceAdd, List.replicate]
  unfold impl_Conforms at h
  refine w_seq fun K1 hK1 => ?_
  refine w_reg gC ?_
  try simp only [W, Nat.reduceAdd]
  refine seq_n hK1 ?_
  refine w_seq fun K2 hK2 => ?_
  refine w_seq fun K3 hK3 => ?_
  obtain ⟨y5, h, g6⟩ := Option.bind_eq_some_iff.1 h
  refine w_join gC (fun s H => ∃ x4 : Bool, y5 = (x4) ∧ s = [.int .i64 a0, .int .i64 a1, .fz (a2.map (AV.int .i64)), u, u, u, u, u, u, u, u, u, u, u, u, u, u, u, u, u, .bool x4, u, u, u, u, u, u, u, u, u, u, u, u, u, u, u, u, u, u, u, u, u, u, u, u, u, u] ∧ Own H (F)) (fun K7 hK7 => ?_) (fun s H hq => ?_)
  · refine w_seq fun K8 hK8 => ?_
    refine w_reg gC ?_
    try simp only [W, Nat.reduceAdd]
    refine w_call h fun b9 hb9 h => ?_
    refine impl_isRate_w hb9 hS fun H hS => ?_
    try simp only [W]
    refine w_grdT h (fun hc h => ?_) (fun hc h => ?_)
    · try simp only [W, hc]
      refine seq_n hK8 ?_
      refine w_kill ?_
      exact cut_n hK7 ⟨_, (Option.some.inj h).symm, rfl, hS⟩
    · try simp only [W, hc]
      refine w_call h fun b10 hb10 h => ?_
      refine impl_isFlow_w hb10 hS fun H hS => ?_
      try simp only [W, reduceIte, Bool.false_eq_true]
      refine seq_n hK8 ?_
      refine w_kill ?_
      exact cut_n hK7 ⟨_, (Option.some.inj h).symm, rfl, hS⟩
  · obtain ⟨x4, ey, rfl, hS⟩ := hq; obtain rfl := ey.symm
    replace h := g6
    try dsimp only at h
    refine seq_n hK3 ?_
    refine w_if ?_
    simp only [W]
    refine w_cnd h (fun hc h => ?_) (fun hc h => ?_)
    · refine w_seq fun K11 hK11 => ?_
      refine w_reg gC ?_
      try simp only [W, Nat.reduceAdd]
      refine seq_n hK11 ?_
      refine w_ret ?_
      refine seq_r hK2 ?_
      refine fin_r2 hK0 rfl rfl ?_
      try obtain rfl := Option.some.inj h
      exact hP _ hS
    · refine w_skip ?_
      refine seq_n hK2 ?_
      refine w_seq fun K12 hK12 => ?_
      refine w_seq fun K13 hK13 => ?_
      refine w_reg gC ?_
      try simp only [W, EE, Nat.reduceAdd]
      refine seq_n hK13 ?_
      obtain ⟨y15, hw16, g22⟩ := Option.bind_eq_some_iff.1 h
      refine w_join gC (fun s H => y15 = LR.next () ∧ s = [u, u, u, u, u, u, u, u, u, u, u, u, u, u, u, u, u, u, u, u, u, u, u, u, u, u, u, u, u, u, u, u, u, u, u, u, u, u, u, u, u, u, u, u, u, u, u] ∧ Own H (F)) (fun K17 hK17 => ?_) (fun s H hq => ?_)
      · refine w_blk fun K18 hK18 => ?_
        refine w_loop gC hw16 (fun x s H => s = [.int .i64 a0, .int .i64 a1, .fz (a2.map (AV.int .i64)), u, u, u, u, u, u, u, u, u, u, u, u, u, u, u, u, u, u, u, .int .i64 (a2.length : Int), .int .i64 x, u, u, u, u, u, u, u, u, u, u, u, u, u, u, u, u, u, u, u, u, u, u, u] ∧ Own H (F)) ⟨rfl, hS⟩ (fun x14 y21 s H h hd20 hi K19 hK19 => ?_)
        skip
        try dsimp only at hi
        obtain ⟨rfl, hS⟩ := hi
        simp only [impl_Conforms_l1] at h
        refine w_seq fun K23 hK23 => ?_
        refine w_reg gC ?_
        try simp only [W, EE, Nat.reduceAdd]
        refine seq_n hK23 ?_
        refine w_seq fun K24 hK24 => ?_
        refine w_if ?_
        simp only [W]
        refine w_cnd h (fun hc h => ?_) (fun hc h => ?_)
        · refine w_skip ?_
          refine seq_n hK24 ?_
          refine w_seq fun K25 hK25 => ?_
          refine w_blk fun K26 hK26 => ?_
          refine w_seq fun K27 hK27 => ?_
          refine w_reg gC ?_
          try simp only [W, Nat.reduceAdd]
          refine seq_n hK27 ?_
          refine w_seq fun K28 hK28 => ?_
          refine w_reg gC ?_
          try simp only [W, Nat.reduceAdd]
          refine seq_n hK28 ?_
          refine w_seq fun K29 hK29 => ?_
          refine w_reg gC ?_
          try simp only [W, EE, Nat.reduceAdd]
          refine w_slF rfl rfl rfl (fun _ => rfl) h fun x30 hx30 h => ?_
          try simp only [W, EE]
          refine seq_n hK29 ?_
          obtain ⟨y33, hw34, g40⟩ := Option.bind_eq_some_iff.1 h
          refine w_join gC (fun s H => y33 = LR.next () ∧ s = [.int .i64 a0, .int .i64 a1, .fz (a2.map (AV.int .i64)), u, u, u, u, u, u, u, u, u, u, u, u, u, u, u, u, u, u, u, .int .i64 (a2.length : Int), .int .i64 x14, u, u, u, u, u, u, u, u, u, u, u, u, u, u, u, u, u, u, u, u, u, u, u] ∧ Own H (F)) (fun K35 hK35 => ?_) (fun s H hq => ?_)
          · refine w_blk fun K36 hK36 => ?_
            refine w_loop gC hw34 (fun x s H => match x with | (x31, x32) => s = [.int .i64 a0, .int .i64 a1, .fz (a2.map (AV.int .i64)), u, u, u, u, u, u, .int .i64 x31, u, u, u, u, u, u, u, u, u, u, u, u, .int .i64 (a2.length : Int), .int .i64 x14, u, u, u, u, .fz (x30.map (AV.int .i64)), .int .i64 (x30.length : Int), .int .i64 x32, u, u, u, u, u, u, u, u, u, u, u, u, u, u, u, u] ∧ Own H (F)) ⟨rfl, hS⟩ (fun x y39 s H h hd38 hi K37 hK37 => ?_)
            obtain ⟨x31, x32⟩ := x
            try dsimp only at hi
            obtain ⟨rfl, hS⟩ := hi
            simp only [impl_Conforms_l0] at h
            refine w_seq fun K41 hK41 => ?_
            refine w_reg gC ?_
            try simp only [W, EE, Nat.reduceAdd]
            refine seq_n hK41 ?_
            refine w_seq fun K42 hK42 => ?_
            refine w_if ?_
            simp only [W]
            refine w_cnd h (fun hc h => ?_) (fun hc h => ?_)
            · refine w_skip ?_
              refine seq_n hK42 ?_
              refine w_seq fun K43 hK43 => ?_
              refine w_blk fun K44 hK44 => ?_
              refine w_seq fun K45 hK45 => ?_
              refine w_reg gC ?_
              try simp only [W, EE, Nat.reduceAdd]
              refine w_fz rfl rfl rfl (fun _ => rfl) h fun b46 hb46 h => ?_
              try simp only [W, EE]
              refine seq_n hK45 ?_
              refine w_seq fun K47 hK47 => ?_
              refine w_reg gC ?_
              try simp only [W, EE, Nat.reduceAdd]
              refine seq_n hK47 ?_
              refine w_seq fun K48 hK48 => ?_
              refine w_reg gC ?_
              try simp only [W, EE, Nat.reduceAdd]
              refine seq_n hK48 ?_
              refine w_if ?_
              simp only [W]
              refine w_cnd h (fun hc h => ?_) (fun hc h => ?_)
              · refine w_seq fun K49 hK49 => ?_
                refine w_reg gC ?_
                try simp only [W, Nat.reduceAdd]
                refine seq_n hK49 ?_
                refine w_ret ?_
                refine blk_r hK44 ?_
                refine seq_r hK43 ?_
                try obtain rfl := Option.some.inj h
                obtain rfl := hd38 _ rfl
                have h : (some (LR.done (LR.done (LR.done (false, true)))) : Option (LR Unit (LR (Int) (LR Unit (Bool × Bool))))) = some (LR.done (LR.done (LR.done (false, true)))) := rfl
                refine lp_r hK37 ?_
                refine blk_r hK36 ?_
                try obtain rfl := Option.some.inj h
                obtain rfl := Option.some.inj g40
                have h : (some (LR.done (LR.done (false, true))) : Option (LR (Int) (LR Unit (Bool × Bool)))) = some (LR.done (LR.done (false, true))) := rfl
                refine cut_r hK35 ?_
                refine blk_r hK26 ?_
                refine seq_r hK25 ?_
                try obtain rfl := Option.some.inj h
                obtain rfl := hd20 _ rfl
                have h : (some (LR.done (false, true)) : Option (LR Unit (Bool × Bool))) = some (LR.done (false, true)) := rfl
                refine lp_r hK19 ?_
                refine blk_r hK18 ?_
                try obtain rfl := Option.some.inj h
                obtain rfl := Option.some.inj g22
                have h : (some (false, true) : Option (Bool × Bool)) = some (false, true) := rfl
                refine cut_r hK17 ?_
                refine seq_r hK12 ?_
                refine fin_r2 hK0 rfl rfl ?_
                try obtain rfl := Option.some.inj h
                exact hP _ hS
              · refine w_skip ?_
                refine blk_n0 hK44 ?_
                refine seq_n hK43 ?_
                refine w_reg gC ?_
                try simp only [W, EE, Nat.reduceAdd]
                exact lp_n hK37 h ⟨rfl, hS⟩
            · refine w_exit ?_
              refine seq_x hK42 ?_
              try obtain rfl := Option.some.inj h
              obtain rfl := hd38 _ rfl
              have h : (some (LR.next ()) : Option (LR Unit (LR (Int) (LR Unit (Bool × Bool))))) = some (LR.next ()) := rfl
              refine lp_x hK37 ?_
              refine blk_e hK36 ?_
              exact cut_n hK35 ⟨(Option.some.inj h).symm, rfl, hS⟩
          · obtain ⟨rfl, rfl, hS⟩ := hq
            replace h := g40
            try dsimp only at h
            refine blk_n0 hK26 ?_
            refine seq_n hK25 ?_
            refine w_reg gC ?_
            try simp only [W, EE, Nat.reduceAdd]
            exact lp_n hK19 h ⟨rfl, hS⟩
        · refine w_exit ?_
          refine seq_x hK24 ?_
          try obtain rfl := Option.some.inj h
          obtain rfl := hd20 _ rfl
          have h : (some (LR.next ()) : Option (LR Unit (Bool × Bool))) = some (LR.next ()) := rfl
          refine lp_x hK19 ?_
          refine blk_e hK18 ?_
          exact cut_n hK17 ⟨(Option.some.inj h).symm, rfl, hS⟩
      · obtain ⟨rfl, rfl, hS⟩ := hq
        replace h := g22
        try dsimp only at h
        refine seq_n hK12 ?_
        refine w_seq fun K62 hK62 => ?_
        refine w_reg gC ?_
        try simp only [W, Nat.reduceAdd]
        refine seq_n hK62 ?_
        refine w_ret ?_
        refine fin_r2 hK0 rfl rfl ?_
        try obtain rfl := Option.some.inj h
        exact hP _ hS
theorem spec_Conforms_w {a0 : Int} {a1 : Int} {a2 : List Int} {r : (Bool × Bool)} (h : spec_Conforms a0 a1 a2 = some r) {F : List It} {H : Heap} (hS : Own H (F)) {P : AV → Heap → Prop} (hP : ∀ H', Own H' (F) → P (.tup [.bool r.1, .bool r.2]) H') : ACall C 27 [.int .i64 a0, .int .i64 a1, .fz (a2.map (AV.int .i64))] H P := by
  refine acall_of gC (res := [.tmp 6, .tmp 7]) (n := 48) rfl rfl rfl rfl fun K0 hK0 => ?_
  simp only [W, Nat.reduceSub, Nat.reduceAdd, List.replicate]
  unfold spec_Conforms at h
  refine w_seq fun K1 hK1 => ?_
  refine w_reg gC ?_
  try simp only [W, Nat.reduceAdd]
  refine seq_n hK1 ?_
  refine w_seq fun K2 hK2 => ?_
  refine w_seq fun K3 hK3 => ?_
  obtain ⟨y5, h, g6⟩ := Option.bind_eq_some_iff.1 h
  refine w_join gC (fun s H => ∃ x4 : Bool, y5 = (x4) ∧ s = [.int .i64 a0, .int .i64 a1, .fz (a2.map (AV.int .i64)), u, u, u, u, u, u, u, u, u, u, u, u, u, u, u, u, .bool x4, u, u, u, u, u, u, u, u, u, u, u, u, u, u, u, u, u, u, u, u, u, u, u, u, u, u, u, u] ∧ Own H (F)) (fun K7 hK7 => ?_) (fun s H hq => ?_)
  · refine w_seq fun K8 hK8 => ?_
    refine w_reg gC ?_
    try simp only [W, Nat.reduceAdd]
    refine w_call h fun b9 hb9 h => ?_
    refine spec_l7Rate_w hb9 hS fun H hS => ?_
    try simp only [W]
    refine w_grdT h (fun hc h => ?_) (fun hc h => ?_)
    · try simp only [W, hc]
      refine seq_n hK8 ?_
      refine w_kill ?_
      exact cut_n hK7 ⟨_, (Option.some.inj h).symm, rfl, hS⟩
    · try simp only [W, hc]
      refine w_call h fun b10 hb10 h => ?_
      refine spec_l7Flow_w hb10 hS fun H hS => ?_
      try simp only [W, reduceIte, Bool.false_eq_true]
      refine seq_n hK8 ?_
      refine w_kill ?_
      exact cut_n hK7 ⟨_, (Option.some.inj h).symm, rfl, hS⟩
  · obtain ⟨x4, ey, rfl, hS⟩ := hq; obtain rfl := ey.symm
    replace h := g6
    try dsimp only at h
    refine seq_n hK3 ?_
    refine w_if ?_
    simp only [W]
    refine w_cnd h (fun hc h => ?_) (fun hc h => ?_)
    · refine w_seq fun K11 hK11 => ?_
      refine w_reg gC ?_
      try simp only [W, Nat.reduceAdd]
      refine seq_n hK11 ?_
      refine w_ret ?_
      refine seq_r hK2 ?_
      refine fin_r2 hK0 rfl rfl ?_
      try obtain rfl := Option.some.inj h
      exact hP _ hS
    · refine w_skip ?_
      refine seq_n hK2 ?_
      refine w_seq fun K12 hK12 => ?_
      refine w_seq fun K13 hK13 => ?_
      refine w_reg gC ?_
      try simp only [W, EE, Nat.reduceAdd]
      refine seq_n hK13 ?_
      obtain ⟨y15, hw16, g22⟩ := Option.bind_eq_some_iff.1 h
      refine w_join gC (fun s H => y15 = LR.next () ∧ s = [u, u, u, u, u, u, u, u, u, u, u, u, u, u, u, u, u, u, u, u, u, u, u, u, u, u, u, u, u, u, u, u, u, u, u, u, u, u, u, u, u, u, u, u, u, u, u, u] ∧ Own H (F)) (fun K17 hK17 => ?_) (fun s H hq => ?_)
      · refine w_blk fun K18 hK18 => ?_
        refine w_loop gC hw16 (fun x s H => s = [.int .i64 a0, .int .i64 a1, .fz (a2.map (AV.int .i64)), u, u, u, u, u, u, u, u, u, u, u, u, u, u, u, u, u, u, .int .i64 (a2.length : Int), .int .i64 x, u, u, u, u, u, u, u, u, u, u, u, u, u, u, u, u, u, u, u, u, u, u, u, u, u] ∧ Own H (F)) ⟨rfl, hS⟩ (fun x14 y21 s H h hd20 hi K19 hK19 => ?_)
        skip
        try dsimp only at hi
        obtain ⟨rfl, hS⟩ := hi
        simp only [spec_Conforms_l1] at h
        refine w_seq fun K23 hK23 => ?_
        refine w_reg gC ?_
        try simp only [W, EE, Nat.reduceAdd]
        refine seq_n hK23 ?_
        refine w_seq fun K24 hK24 => ?_
        refine w_if ?_
        simp only [W]
        refine w_cnd h (fun hc h => ?_) (fun hc h => ?_)
        · refine w_skip ?_
          refine seq_n hK24 ?_
          refine w_seq fun K25 hK25 => ?_
          refine w_blk fun K26 hK26 => ?_
          refine w_seq fun K27 hK27 => ?_
          refine w_reg gC ?_
          try simp only [W, Nat.reduceAdd]
          refine seq_n hK27 ?_
          refine w_seq fun K28 hK28 => ?_
          refine w_reg gC ?_
          try simp only [W, Nat.reduceAdd]
          refine seq_n hK28 ?_
          refine w_seq fun K29 hK29 => ?_
          refine w_reg gC ?_
          try simp only [W, Nat.reduceAdd]
          refine seq_n hK29 ?_
          obtain ⟨y32, hw33, g39⟩ := Option.bind_eq_some_iff.1 h
          refine w_join gC (fun s H => y32 = LR.next () ∧ s = [.int .i64 a0, .int .i64 a1, .fz (a2.map (AV.int .i64)), u, u, u, u, u, u, u, u, u, u, u, u, u, u, u, u, u, u, .int .i64 (a2.length : Int), .int .i64 x14, u, u, u, u, u, u, u, u, u, u, u, u, u, u, u, u, u, u, u, u, u, u, u, u, u] ∧ Own H (F)) (fun K34 hK34 => ?_) (fun s H hq => ?_)
          · refine w_blk fun K35 hK35 => ?_
            refine w_loop gC hw33 (fun x s H => match x with | (x30, x31) => s = [.int .i64 a0, .int .i64 a1, .fz (a2.map (AV.int .i64)), u, u, u, u, u, .int .i64 x14, .int .i64 x30, .int .i64 x31, u, u, u, u, u, u, u, u, u, u, .int .i64 (a2.length : Int), .int .i64 x14, u, u, u, u, u, u, u, u, u, u, u, u, u, u, u, u, u, u, u, u, u, u, u, u, u] ∧ Own H (F)) ⟨rfl, hS⟩ (fun x y38 s H h hd37 hi K36 hK36 => ?_)
            obtain ⟨x30, x31⟩ := x
            try dsimp only at hi
            obtain ⟨rfl, hS⟩ := hi
            simp only [spec_Conforms_l0] at h
            refine w_seq fun K40 hK40 => ?_
            refine w_seq fun K41 hK41 => ?_
            refine w_reg gC ?_
            try simp only [W, EE, Nat.reduceAdd]
            refine seq_n hK41 ?_
            refine w_if ?_
            simp only [W]
            refine w_cnd h (fun hc h => ?_) (fun hc h => ?_)
            · refine w_skip ?_
              refine seq_n hK40 ?_
              refine w_seq fun K42 hK42 => ?_
              refine w_blk fun K43 hK43 => ?_
              refine w_seq fun K44 hK44 => ?_
              refine w_reg gC ?_
              try simp only [W, EE, Nat.reduceAdd]
              refine w_fz rfl rfl rfl (fun _ => rfl) h fun b45 hb45 h => ?_
              try simp only [W, EE]
              refine seq_n hK44 ?_
              refine w_seq fun K46 hK46 => ?_
              refine w_reg gC ?_
              try simp only [W, EE, Nat.reduceAdd]
              refine seq_n hK46 ?_
              refine w_if ?_
              simp only [W]
              refine w_cnd h (fun hc h => ?_) (fun hc h => ?_)
              · refine w_seq fun K47 hK47 => ?_
                refine w_reg gC ?_
                try simp only [W, Nat.reduceAdd]
                refine seq_n hK47 ?_
                refine w_ret ?_
                refine blk_r hK43 ?_
                refine seq_r hK42 ?_
                try obtain rfl := Option.some.inj h
                obtain rfl := hd37 _ rfl
                have h : (some (LR.done (LR.done (LR.done (false, true)))) : Option (LR Unit (LR (Int) (LR Unit (Bool × Bool))))) = some (LR.done (LR.done (LR.done (false, true)))) := rfl
                refine lp_r hK36 ?_
                refine blk_r hK35 ?_
                try obtain rfl := Option.some.inj h
                obtain rfl := Option.some.inj g39
                have h : (some (LR.done (LR.done (false, true))) : Option (LR (Int) (LR Unit (Bool × Bool)))) = some (LR.done (LR.done (false, true))) := rfl
                refine cut_r hK34 ?_
                refine blk_r hK26 ?_
                refine seq_r hK25 ?_
                try obtain rfl := Option.some.inj h
                obtain rfl := hd20 _ rfl
                have h : (some (LR.done (false, true)) : Option (LR Unit (Bool × Bool))) = some (LR.done (false, true)) := rfl
                refine lp_r hK19 ?_
                refine blk_r hK18 ?_
                try obtain rfl := Option.some.inj h
                obtain rfl := Option.some.inj g22
                have h : (some (false, true) : Option (Bool × Bool)) = some (false, true) := rfl
                refine cut_r hK17 ?_
                refine seq_r hK12 ?_
                refine fin_r2 hK0 rfl rfl ?_
                try obtain rfl := Option.some.inj h
                exact hP _ hS
              · refine w_skip ?_
                refine blk_n0 hK43 ?_
                refine seq_n hK42 ?_
                refine w_reg gC ?_
                try simp only [W, EE, Nat.reduceAdd]
                exact lp_n hK36 h ⟨rfl, hS⟩
            · refine w_exit ?_
              refine seq_x hK40 ?_
              try obtain rfl := Option.some.inj h
              obtain rfl := hd37 _ rfl
              have h : (some (LR.next ()) : Option (LR Unit (LR (Int) (LR Unit (Bool × Bool))))) = some (LR.next ()) := rfl
              refine lp_x hK36 ?_
              refine blk_e hK35 ?_
              exact cut_n hK34 ⟨(Option.some.inj h).symm, rfl, hS⟩
          · obtain ⟨rfl, rfl, hS⟩ := hq
            replace h := g39
            try dsimp only at h
            refine blk_n0 hK26 ?_
            refine seq_n hK25 ?_
            refine w_reg gC ?_
            try simp only [W, EE, Nat.reduceAdd]
            exact lp_n hK19 h ⟨rfl, hS⟩
        · refine w_exit ?_
          refine seq_x hK24 ?_
          try obtain rfl := Option.some.inj h
          obtain rfl := hd20 _ rfl
          have h : (some (LR.next ()) : Option (LR Unit (Bool × Bool))) = some (LR.next ()) := rfl
          refine lp_x hK19 ?_
          refine blk_e hK18 ?_
          exact cut_n hK17 ⟨(Option.some.inj h).symm, rfl, hS⟩
      · obtain ⟨rfl, rfl, hS⟩ := hq
        replace h := g22
        try dsimp only at h
        refine seq_n hK12 ?_
        refine w_seq fun K60 hK60 => ?_
        refine w_reg gC ?_
        try simp only [W, Nat.reduceAdd]
        refine seq_n hK60 ?_
        refine w_ret ?_
        refine fin_r2 hK0 rfl rfl ?_
        try obtain rfl := Option.some.inj h
        exact hP _ hS
theorem laws_numberOf_w {a0 : List Int} {r : (Int)} (h : laws_numberOf a0 = some r) {F : List It} {H : Heap} (hS : Own H (F)) {P : AV → Heap → Prop} (hP : ∀ H', Own H' (F) → P (.int .i64 r) H') : ACall C 84 [.fz (a0.map (AV.int .u8))] H P := by
  refine acall_of gC (res := [.tmp 2]) (n := 20) rfl rfl rfl rfl fun K0 hK0 => ?_
  simp only [W, Nat.reduceSub, Nat.reduceAdd, List.replicate]
  unfold laws_numberOf at h
  refine w_seq fun K1 hK1 => ?_
  refine w_reg gC ?_
  try simp only [W, Nat.reduceAdd]
  refine seq_n hK1 ?_
  refine w_seq fun K2 hK2 => ?_
  refine w_reg gC ?_
  try simp only [W, Nat.reduceAdd]
  refine seq_n hK2 ?_
  refine w_seq fun K3 hK3 => ?_
  refine w_seq fun K4 hK4 => ?_
  refine w_reg gC ?_
  try simp only [W, EE, Nat.reduceAdd]
  refine seq_n hK4 ?_
  obtain ⟨y8, hw9, g15⟩ := Option.bind_eq_some_iff.1 h
  refine w_join gC (fun s H => ∃ x7 : Int, y8 = (x7) ∧ s = [u, u, u, .int .i64 x7, u, u, u, u, u, u, u, u, u, u, u, u, u, u, u, u] ∧ Own H (F)) (fun K10 hK10 => ?_) (fun s H hq => ?_)
  · refine w_blk fun K11 hK11 => ?_
    refine w_loop gC hw9 (fun x s H => match x with | (x5, x6) => s = [u, u, u, .int .i64 x5, u, u, .fz (a0.map (AV.int .u8)), .int .i64 (a0.length : Int), .int .i64 x6, u, u, u, u, u, u, u, u, u, u, u] ∧ Own H (F)) ⟨rfl, hS⟩ (fun x y14 s H h hd13 hi K12 hK12 => ?_)
    obtain ⟨x5, x6⟩ := x
    try dsimp only at hi
    obtain ⟨rfl, hS⟩ := hi
    simp only [laws_numberOf_l0] at h
    refine w_seq fun K16 hK16 => ?_
    refine w_reg gC ?_
    try simp only [W, EE, Nat.reduceAdd]
    refine seq_n hK16 ?_
    refine w_seq fun K17 hK17 => ?_
    refine w_if ?_
    simp only [W]
    refine w_cnd h (fun hc h => ?_) (fun hc h => ?_)
    · refine w_skip ?_
      refine seq_n hK17 ?_
      refine w_seq fun K18 hK18 => ?_
      refine w_blk fun K19 hK19 => ?_
      refine w_seq fun K20 hK20 => ?_
      refine w_reg gC ?_
      try simp only [W, EE, Nat.reduceAdd]
      refine w_fz rfl rfl rfl (fun _ => rfl) h fun b21 hb21 h => ?_
      try simp only [W, EE]
      refine seq_n hK20 ?_
      refine w_reg gC ?_
      try simp only [W, EE, Nat.reduceAdd]
      rw [md_lit _ _ rfl, Option.map_some, resV_s]
      try simp only [W]
      refine blk_n0 hK19 ?_
      refine seq_n hK18 ?_
      refine w_reg gC ?_
      try simp only [W, EE, Nat.reduceAdd]
      exact lp_n hK12 h ⟨rfl, hS⟩
    · refine w_exit ?_
      refine seq_x hK17 ?_
      try obtain rfl := Option.some.inj h
      obtain rfl := hd13 _ rfl
      have h : (some (x5) : Option (Int)) = some (x5) := rfl
      refine lp_x hK12 ?_
      refine blk_e hK11 ?_
      exact cut_n hK10 ⟨_, (Option.some.inj h).symm, rfl, hS⟩
  · obtain ⟨x7, ey, rfl, hS⟩ := hq; obtain rfl := ey.symm
    replace h := g15
    try dsimp only at h
    refine seq_n hK3 ?_
    refine w_seq fun K24 hK24 => ?_
    refine w_reg gC ?_
    try simp only [W, Nat.reduceAdd]
    refine seq_n hK24 ?_
    refine w_ret ?_
    refine fin_r1 hK0 rfl ?_
    try obtain rfl := Option.some.inj h
    exact hP _ hS
theorem impl_serve_w {a0 : List Int} {g1 : Int → Int → Option Int} {f1 : FuncId} {c1 : List AV} {r : (List Int × List Int × Bool)} (h : impl_serve a0 g1 = some r) {F : List It} {H : Heap} (hg1 : ∀ {x0 : Int} {x1 : Int} {r : Int}, g1 x0 x1 = some r → ∀ (L : List It) (n : Nat), L.drop n = F → ∀ (H : Heap), Own H L → ∀ (P : AV → Heap → Prop), (∀ H', Own H' L → P (.int .i64 r) H') → ACall C f1 ([.int .i64 x0, .int .i64 x1] ++ c1) H P) (hS : Own H (F)) {P : AV → Heap → Prop} (hP : ∀ v48 : AV, isSl v48 → ∀ v50 : AV, isSl v50 → ∀ H', Own H' (⟨v48, 1, r.1.map (AV.int .i64)⟩ :: ⟨v50, 1, r.2.1.map (AV.int .i64)⟩ :: F) → P (.tup [v48, v50, .bool r.2.2]) H') : ACall C 158 [.fz (a0.map (AV.int .i64)), .fn f1 c1] H P := by
  refine acall_of gC (res := [.tmp 4, .tmp 5, .tmp 6]) (n := 43) rfl rfl rfl rfl fun K0 hK0 => ?_
  simp only [W, Nat.reduceSub, Nat.reduceAdd, List.replicate]
  unfold impl_serve at h
  refine w_seq fun K1 hK1 => ?_
  refine w_reg gC ?_
  try simp only [W, Nat.reduceAdd]
  refine seq_n hK1 ?_
  refine w_seq fun K2 hK2 => ?_
  refine w_reg gC ?_
  try simp only [W, Nat.reduceAdd]
  refine w_lit0 rfl rfl ?_
  try simp only [W]
  refine w_lit0 rfl rfl ?_
  try simp only [W]
  refine seq_n hK2 ?_
  refine w_seq fun K3 hK3 => ?_
  refine w_seq fun K4 hK4 => ?_
  refine w_reg gC ?_
  try simp only [W, EE, Nat.reduceAdd]
  refine seq_n hK4 ?_
  obtain ⟨y17, hw18, g24⟩ := Option.bind_eq_some_iff.1 h
  refine w_join gC (fun s H => ∃ x13 : List Int, ∃ x15 : List Int, y17 = (x13, x15) ∧ ∃ v14 : AV, isSl v14 ∧ ∃ v16 : AV, isSl v16 ∧ s = [u, u, u, u, u, u, u, v14, v16, u, u, u, u, u, u, u, u, u, u, u, u, u, u, u, u, u, u, u, u, u, u, u, u, u, u, u, u, u, u, u, u, u, u] ∧ Own H (⟨v14, 1, x13.map (AV.int .i64)⟩ :: ⟨v16, 1, x15.map (AV.int .i64)⟩ :: F)) (fun K19 hK19 => ?_) (fun s H hq => ?_)
  · refine w_blk fun K20 hK20 => ?_
    refine w_loop gC hw18 (fun x s H => match x with | (x5, x8, x11, x12) => ∃ v6 : AV, isSl v6 ∧ ∃ v9 : AV, isSl v9 ∧ s = [u, .fn f1 c1, u, u, u, u, u, v6, v9, .int .i64 x11, u, u, u, u, u, .fz (a0.map (AV.int .i64)), .int .i64 (a0.length : Int), .int .i64 x12, u, u, u, u, u, u, u, u, u, u, u, u, u, u, u, u, u, u, u, u, u, u, u, u, u] ∧ Own H (⟨v6, 1, x5.map (AV.int .i64)⟩ :: ⟨v9, 1, x8.map (AV.int .i64)⟩ :: F)) ⟨_, isSl_e0, _, isSl_e0, rfl, ((hS.e0_ 1).e0_ 1)⟩ (fun x y23 s H h hd22 hi K21 hK21 => ?_)
    obtain ⟨x5, x8, x11, x12⟩ := x
    try dsimp only at hi
    obtain ⟨v6, qv6, v9, qv9, rfl, hS⟩ := hi
    simp only [impl_serve_l0] at h
    refine w_seq fun K25 hK25 => ?_
    refine w_reg gC ?_
    try simp only [W, EE, Nat.reduceAdd]
    refine seq_n hK25 ?_
    refine w_seq fun K26 hK26 => ?_
    refine w_if ?_
    simp only [W]
    refine w_cnd h (fun hc h => ?_) (fun hc h => ?_)
    · refine w_skip ?_
      refine seq_n hK26 ?_
      refine w_seq fun K27 hK27 => ?_
      refine w_blk fun K28 hK28 => ?_
      refine w_seq fun K29 hK29 => ?_
      refine w_reg gC ?_
      try simp only [W, EE, Nat.reduceAdd]
      refine w_fz rfl rfl rfl (fun _ => rfl) h fun b30 hb30 h => ?_
      try simp only [W, EE]
      refine seq_n hK29 ?_
      refine w_seq fun K31 hK31 => ?_
      refine w_reg gC ?_
      try simp only [W, EE, Nat.reduceAdd]
      refine seq_n hK31 ?_
      refine w_seq fun K32 hK32 => ?_
      refine w_reg gC ?_
      try simp only [W, Nat.reduceAdd]
      refine w_call h fun b33 hb33 h => ?_
      refine hg1 hb33 _ 2 rfl _ hS _ fun H hS => ?_
      try simp only [W]
      refine seq_n hK32 ?_
      refine w_seq fun K34 hK34 => ?_
      refine w_reg gC ?_
      try simp only [W, EE, Nat.reduceAdd]
      refine seq_n hK34 ?_
      refine w_reg gC ?_
      try simp only [W, Nat.reduceAdd]
      refine w_lit (el := ([b33] : List Int).map (AV.int .i64)) hS rfl rfl rfl rfl rfl rfl rfl fun v35 H qv35 hS => ?_
      try simp only [W, EE]
      refine w_appV (l := x5) (c := (AV.int .i64)) 1 hS rfl qv6 rfl rfl rfl (hS.elems 0 rfl qv35) (fun _ => rfl) rfl h fun v38 H x37 qv38 hm h hS => ?_
      try simp only [W]
      refine w_lit (el := ([(IntKind.i64.wrap ((IntKind.i64.wrap (x11 + b30)) - b33))] : List Int).map (AV.int .i64)) hS rfl rfl rfl rfl rfl rfl rfl fun v40 H qv40 hS => ?_
      try simp only [W, EE]
      refine w_appV (l := x8) (c := (AV.int .i64)) 3 hS rfl qv9 rfl rfl rfl (hS.elems 0 rfl qv40) (fun _ => rfl) rfl h fun v43 H x42 qv43 hm h hS => ?_
      try simp only [W]
      refine blk_n0 hK28 ?_
      refine seq_n hK27 ?_
      refine w_reg gC ?_
      try simp only [W, EE, Nat.reduceAdd]
      exact lp_n hK21 h ⟨_, qv38, _, qv43, rfl, (hS.sel 4 [2, 3] (by decide))⟩
    · refine w_exit ?_
      refine seq_x hK26 ?_
      try obtain rfl := Option.some.inj h
      obtain rfl := hd22 _ rfl
      have h : (some (x5, x8) : Option ((List Int) × (List Int))) = some (x5, x8) := rfl
      refine lp_x hK21 ?_
      refine blk_e hK20 ?_
      exact cut_n hK19 ⟨_, _, (Option.some.inj h).symm, _, qv6, _, qv9, rfl, hS⟩
  · obtain ⟨x13, x15, rfl, v14, qv14, v16, qv16, rfl, hS⟩ := hq
    replace h := g24
    try dsimp only at h
    refine seq_n hK3 ?_
    refine w_seq fun K47 hK47 => ?_
    refine w_reg gC ?_
    try simp only [W, Nat.reduceAdd]
    refine seq_n hK47 ?_
    refine w_ret ?_
    refine fin_r3 hK0 rfl rfl rfl ?_
    try obtain rfl := Option.some.inj h
    exact hP _ qv14 _ qv16 _ hS
theorem impl_PassThrough_1_w {a0 : Int} {a1 : Int} {a2 : Int} {i2 : Nat} {w2 : Nat} {r : (Int)} (h : impl_PassThrough_1 a0 a1 a2 = some r) {F : List It} {H : Heap} (hm2 : ⟨.ptr i2 w2 0 0, 1, [.int .i64 a2]⟩ ∈ F) (hS : Own H (F)) {P : AV → Heap → Prop} (hP : ∀ H', Own H' (F) → P (.int .i64 r) H') : ACall C 209 [.int .i64 a0, .int .i64 a1, .ptr i2 w2 0 0] H P := by
  refine acall_of gC (res := [.tmp 5]) (n := 9) rfl rfl rfl rfl fun K0 hK0 => ?_
  simp only [W, Nat.reduceSub, Nat.reduceAdd, List.replicate]
  unfold impl_PassThrough_1 at h
  refine w_seq fun K1 hK1 => ?_
  refine w_reg gC ?_
  try simp only [W, Nat.reduceAdd]
  refine seq_n hK1 ?_
  refine w_seq fun K2 hK2 => ?_
  refine w_reg gC ?_
  try simp only [W, EE, Nat.reduceAdd, hS.varm hm2]
  refine seq_n hK2 ?_
  refine w_ret ?_
  refine fin_r1 hK0 rfl ?_
  try obtain rfl := Option.some.inj h
  exact hP _ hS
theorem impl_PassThrough_w {a0 : List Int} {a1 : Int} {r : (List Int × List Int × Bool)} (h : impl_PassThrough a0 a1 = some r) {F : List It} {H : Heap} (hS : Own H (F)) {P : AV → Heap → Prop} (hP : ∀ v23 : AV, isSl v23 → ∀ v25 : AV, isSl v25 → ∀ H', Own H' (⟨v23, 1, r.1.map (AV.int .i64)⟩ :: ⟨v25, 1, r.2.1.map (AV.int .i64)⟩ :: F) → P (.tup [v23, v25, .bool r.2.2]) H') : ACall C 85 [.fz (a0.map (AV.int .i64)), .int .i64 a1] H P := by
  refine acall_of gC (res := [.tmp 4, .tmp 5, .tmp 6]) (n := 21) rfl rfl rfl rfl fun K0 hK0 => ?_
  simp only [W, Nat.reduceSub, Nat.reduceAdd, List.replicate]
  unfold impl_PassThrough at h
  refine w_seq fun K1 hK1 => ?_
  refine w_reg gC ?_
  try simp only [W, Nat.reduceAdd]
  refine w_box hS rfl rfl rfl rfl fun ip2 wp2 H hS => ?_
  try simp only [W]
  refine seq_n hK1 ?_
  refine w_seq fun K4 hK4 => ?_
  refine w_seq fun K5 hK5 => ?_
  obtain ⟨y7, h, g8⟩ := Option.bind_eq_some_iff.1 h
  refine w_join gC (fun s H => ∃ x6 : Bool, y7 = (x6) ∧ s = [.fz (a0.map (AV.int .i64)), u, u, .ptr ip2 wp2 0 0, u, u, u, u, u, u, u, u, u, u, .bool x6, u, u, u, u, u, u] ∧ Own H (⟨.ptr ip2 wp2 0 0, 1, [.int .i64 a1]⟩ :: F)) (fun K9 hK9 => ?_) (fun s H hq => ?_)
  · refine w_seq fun K10 hK10 => ?_
    refine w_reg gC ?_
    try simp only [W, Nat.reduceAdd]
    refine w_call h fun b11 hb11 h => ?_
    refine impl_isFlow_w hb11 hS fun H hS => ?_
    try simp only [W]
    refine w_grdT h (fun hc h => ?_) (fun hc h => ?_)
    · try simp only [W, hc]
      refine seq_n hK10 ?_
      refine w_kill ?_
      exact cut_n hK9 ⟨_, (Option.some.inj h).symm, rfl, hS⟩
    · try simp only [W, EE, hS.var 0 rfl, hc]
      refine w_call h fun b12 hb12 h => ?_
      refine impl_in_w hb12 hS fun H hS => ?_
      try simp only [W, reduceIte, Bool.false_eq_true]
      refine seq_n hK10 ?_
      refine w_kill ?_
      exact cut_n hK9 ⟨_, (Option.some.inj h).symm, rfl, hS⟩
  · obtain ⟨x6, ey, rfl, hS⟩ := hq; obtain rfl := ey.symm
    replace h := g8
    try dsimp only at h
    refine seq_n hK5 ?_
    refine w_if ?_
    simp only [W]
    refine w_cnd h (fun hc h => ?_) (fun hc h => ?_)
    · refine w_seq fun K13 hK13 => ?_
      refine w_reg gC ?_
      try simp only [W, Nat.reduceAdd]
      refine seq_n hK13 ?_
      refine w_ret ?_
      refine seq_r hK4 ?_
      refine fin_r3 hK0 rfl rfl rfl ?_
      try obtain rfl := Option.some.inj h
      exact hP _ isSl_nil _ isSl_nil _ (((hS.nil_ 1).nil_ 1).sel 3 [0, 1] (by decide))
    · refine w_skip ?_
      refine seq_n hK4 ?_
      refine w_seq fun K14 hK14 => ?_
      refine w_reg gC ?_
      try simp only [W, Nat.reduceAdd]
      refine w_call h fun b15 hb15 h => ?_
      obtain ⟨b16, b17, b18⟩ := b15
      try dsimp only at h
      refine impl_serve_w hb15 (fun h _ n hL _ hS _ hP => impl_PassThrough_1_w h (memd hL (List.mem_of_getElem? (i := 0) rfl)) hS hP) hS fun v19 qv19 v21 qv21 H hS => ?_
      try simp only [W]
      refine seq_n hK14 ?_
      refine w_ret ?_
      refine fin_r3 hK0 rfl rfl rfl ?_
      try obtain rfl := Option.some.inj h
      exact hP _ qv19 _ qv21 _ (hS.sel 3 [0, 1] (by decide))
theorem impl_WorstDelay_w {a0 : List Int} {a1 : List Int} {r : (Int × Bool)} (h : impl_WorstDelay a0 a1 = some r) {F : List It} {H : Heap} (hS : Own H (F)) {P : AV → Heap → Prop} (hP : ∀ H', Own H' (F) → P (.tup [.int .i64 r.1, .bool r.2]) H') : ACall C 86 [.fz (a0.map (AV.int .i64)), .fz (a1.map (AV.int .i64))] H P := by
  refine acall_of gC (res := [.tmp 4, .tmp 5]) (n := 98) rfl rfl rfl rfl fun K0 hK0 => ?_
  simp only [W, Nat.reduceSub, Nat.reduceAdd, List.replicate]
  unfold impl_WorstDelay at h
  refine w_seq fun K1 hK1 => ?_
  refine w_reg gC ?_
  try simp only [W, Nat.reduceAdd]
  refine seq_n hK1 ?_
  refine w_seq fun K2 hK2 => ?_
  refine w_seq fun K3 hK3 => ?_
  obtain ⟨y5, h, g6⟩ := Option.bind_eq_some_iff.1 h
  refine w_join gC (fun s H => ∃ x4 : Bool, y5 = (x4) ∧ s = [.fz (a0.map (AV.int .i64)), .fz (a1.map (AV.int .i64)), u, u, u, u, u, u, u, u, u, u, u, u, u, u, u, u, u, u, u, u, u, u, u, .bool x4, u, u, u, u, u, u, u, u, u, u, u, u, u, u, u, u, u, u, u, u, u, u, u, u, u, u, u, u, u, u, u, u, u, u, u, u, u, u, u, u, u, u, u, u, u, u, u, u, u, u, u, u, u, u, u, u, u, u, u, u, u, u, u, u, u, u, u, u, u, u, u, u] ∧ Own H (F)) (fun K7 hK7 => ?_) (fun s H hq => ?_)
  · refine w_seq fun K8 hK8 => ?_
    refine w_reg gC ?_
    try simp only [W, Nat.reduceAdd]
    refine w_call h fun b9 hb9 h => ?_
    refine impl_isFlow_w hb9 hS fun H hS => ?_
    try simp only [W]
    refine w_grdT h (fun hc h => ?_) (fun hc h => ?_)
    · try simp only [W, hc]
      refine seq_n hK8 ?_
      refine w_kill ?_
      exact cut_n hK7 ⟨_, (Option.some.inj h).symm, rfl, hS⟩
    · try simp only [W, EE, reduceIte, Bool.false_eq_true, hc]
      refine seq_n hK8 ?_
      refine w_kill ?_
      exact cut_n hK7 ⟨_, (Option.some.inj h).symm, rfl, hS⟩
  · obtain ⟨x4, ey, rfl, hS⟩ := hq; obtain rfl := ey.symm
    replace h := g6
    try dsimp only at h
    refine seq_n hK3 ?_
    refine w_if ?_
    simp only [W]
    refine w_cnd h (fun hc h => ?_) (fun hc h => ?_)
    · refine w_seq fun K10 hK10 => ?_
      refine w_reg gC ?_
      try simp only [W, Nat.reduceAdd]
      refine seq_n hK10 ?_
      refine w_ret ?_
      refine seq_r hK2 ?_
      refine fin_r2 hK0 rfl rfl ?_
      try obtain rfl := Option.some.inj h
      exact hP _ hS
    · refine w_skip ?_
      refine seq_n hK2 ?_
      refine w_seq fun K11 hK11 => ?_
      refine w_reg gC ?_
      try simp only [W, Nat.reduceAdd]
      refine w_lit0 rfl rfl ?_
      try simp only [W]
      refine w_lit0 rfl rfl ?_
      try simp only [W]
      refine seq_n hK11 ?_
      refine w_seq fun K12 hK12 => ?_
      refine w_reg gC ?_
      try simp only [W, Nat.reduceAdd]
      refine seq_n hK12 ?_
      refine w_seq fun K13 hK13 => ?_
      refine w_seq fun K14 hK14 => ?_
      refine w_reg gC ?_
      try simp only [W, EE, Nat.reduceAdd]
      refine seq_n hK14 ?_
      obtain ⟨y28, hw29, g35⟩ := Option.bind_eq_some_iff.1 h
      refine w_join gC (fun s H => ∃ x24 : List Int, ∃ x26 : List Int, y28 = LR.next (x24, x26) ∧ ∃ v25 : AV, isSl v25 ∧ ∃ v27 : AV, isSl v27 ∧ s = [u, u, u, u, u, u, v25, v27, u, u, u, u, u, u, u, u, u, u, u, u, u, u, u, u, u, u, u, u, u, u, u, u, u, u, u, u, u, u, u, u, u, u, u, u, u, u, u, u, u, u, u, u, u, u, u, u, u, u, u, u, u, u, u, u, u, u, u, u, u, u, u, u, u, u, u, u, u, u, u, u, u, u, u, u, u, u, u, u, u, u, u, u, u, u, u, u, u, u] ∧ Own H (⟨v25, 1, x24.map (AV.int .i64)⟩ :: ⟨v27, 1, x26.map (AV.int .i64)⟩ :: F)) (fun K30 hK30 => ?_) (fun s H hq => ?_)
      · refine w_blk fun K31 hK31 => ?_
        refine w_loop gC hw29 (fun x s H => match x with | (x15, x18, x21, x22, x23) => ∃ v16 : AV, isSl v16 ∧ ∃ v19 : AV, isSl v19 ∧ s = [u, .fz (a1.map (AV.int .i64)), u, u, u, u, v16, v19, .int .i64 x21, .int .i64 x22, u, u, u, u, u, u, u, u, u, u, u, u, u, u, u, u, u, u, .fz (a0.map (AV.int .i64)), .int .i64 (a0.length : Int), .int .i64 x23, u, u, u, u, u, u, u, u, u, u, u, u, u, u, u, u, u, u, u, u, u, u, u, u, u, u, u, u, u, u, u, u, u, u, u, u, u, u, u, u, u, u, u, u, u, u, u, u, u, u, u, u, u, u, u, u, u, u, u, u, u, u, u, u, u, u, u] ∧ Own H (⟨v16, 1, x15.map (AV.int .i64)⟩ :: ⟨v19, 1, x18.map (AV.int .i64)⟩ :: F)) ⟨_, isSl_e0, _, isSl_e0, rfl, ((hS.e0_ 1).e0_ 1)⟩ (fun x y34 s H h hd33 hi K32 hK32 => ?_)
        obtain ⟨x15, x18, x21, x22, x23⟩ := x
        try dsimp only at hi
        obtain ⟨v16, qv16, v19, qv19, rfl, hS⟩ := hi
        simp only [impl_WorstDelay_l0] at h
        refine w_seq fun K36 hK36 => ?_
        refine w_reg gC ?_
        try simp only [W, EE, Nat.reduceAdd]
        refine seq_n hK36 ?_
        refine w_seq fun K37 hK37 => ?_
        refine w_if ?_
        simp only [W]
        refine w_cnd h (fun hc h => ?_) (fun hc h => ?_)
        · refine w_skip ?_
          refine seq_n hK37 ?_
          refine w_seq fun K38 hK38 => ?_
          refine w_blk fun K39 hK39 => ?_
          refine w_seq fun K40 hK40 => ?_
          refine w_reg gC ?_
          try simp only [W, EE, Nat.reduceAdd]
          refine w_fz rfl rfl rfl (fun _ => rfl) h fun b41 hb41 h => ?_
          try simp only [W, EE]
          refine seq_n hK40 ?_
          refine w_seq fun K42 hK42 => ?_
          refine w_reg gC ?_
          try simp only [W, EE, Nat.reduceAdd]
          refine seq_n hK42 ?_
          refine w_seq fun K43 hK43 => ?_
          refine w_seq fun K44 hK44 => ?_
          obtain ⟨y46, h, g47⟩ := Option.bind_eq_some_iff.1 h
          refine w_join gC (fun s H => ∃ x45 : Bool, y46 = (x45) ∧ s = [u, .fz (a1.map (AV.int .i64)), u, u, u, u, v16, v19, .int .i64 (IntKind.i64.wrap (x21 + b41)), .int .i64 x22, .int .i64 x23, u, u, u, u, u, u, u, u, u, u, u, u, u, u, u, u, u, .fz (a0.map (AV.int .i64)), .int .i64 (a0.length : Int), .int .i64 x23, u, u, u, u, u, u, u, u, u, u, u, u, u, u, u, u, u, u, u, u, u, .bool x45, u, u, u, u, u, u, u, u, u, u, u, u, u, u, u, u, u, u, u, u, u, u, u, u, u, u, u, u, u, u, u, u, u, u, u, u, u, u, u, u, u, u, u, u, u] ∧ Own H (⟨v16, 1, x15.map (AV.int .i64)⟩ :: ⟨v19, 1, x18.map (AV.int .i64)⟩ :: F)) (fun K48 hK48 => ?_) (fun s H hq => ?_)
          · refine w_seq fun K49 hK49 => ?_
            refine w_reg gC ?_
            try simp only [W, EE, Nat.reduceAdd]
            refine w_fz rfl rfl rfl (fun _ => rfl) h fun b50 hb50 h => ?_
            try simp only [W, EE]
            refine w_grdT h (fun hc h => ?_) (fun hc h => ?_)
            · try simp only [W, hc]
              refine seq_n hK49 ?_
              refine w_kill ?_
              exact cut_n hK48 ⟨_, (Option.some.inj h).symm, rfl, hS⟩
            · try simp only [W, EE, hc]
              refine w_fz rfl rfl rfl (fun _ => rfl) h fun b51 hb51 h => ?_
              try simp only [W, EE, reduceIte, Bool.false_eq_true]
              refine seq_n hK49 ?_
              refine w_kill ?_
              exact cut_n hK48 ⟨_, (Option.some.inj h).symm, rfl, hS⟩
          · obtain ⟨x45, ey, rfl, hS⟩ := hq; obtain rfl := ey.symm
            replace h := g47
            try dsimp only at h
            refine seq_n hK44 ?_
            refine w_if ?_
            simp only [W]
            refine w_cnd h (fun hc h => ?_) (fun hc h => ?_)
            · refine w_seq fun K52 hK52 => ?_
              refine w_reg gC ?_
              try simp only [W, Nat.reduceAdd]
              refine seq_n hK52 ?_
              refine w_ret ?_
              refine seq_r hK43 ?_
              refine blk_r hK39 ?_
              refine seq_r hK38 ?_
              try obtain rfl := Option.some.inj h
              obtain rfl := hd33 _ rfl
              have h : (some (LR.done (0, false)) : Option (LR ((List Int) × (List Int)) (Int × Bool))) = some (LR.done (0, false)) := rfl
              refine lp_r hK32 ?_
              refine blk_r hK31 ?_
              try obtain rfl := Option.some.inj h
              obtain rfl := Option.some.inj g35
              have h : (some (0, false) : Option (Int × Bool)) = some (0, false) := rfl
              refine cut_r hK30 ?_
              refine seq_r hK13 ?_
              refine fin_r2 hK0 rfl rfl ?_
              try obtain rfl := Option.some.inj h
              exact hP _ (hS.sel 2 [] (by decide))
            · refine w_skip ?_
              refine seq_n hK43 ?_
              refine w_seq fun K57 hK57 => ?_
              refine w_reg gC ?_
              try simp only [W, EE, Nat.reduceAdd]
              refine w_fz rfl rfl rfl (fun _ => rfl) h fun b58 hb58 h => ?_
              try simp only [W, EE]
              refine seq_n hK57 ?_
              refine w_reg gC ?_
              try simp only [W, Nat.reduceAdd]
              refine w_lit (el := ([(IntKind.i64.wrap (x21 + b41))] : List Int).map (AV.int .i64)) hS rfl rfl rfl rfl rfl rfl rfl fun v59 H qv59 hS => ?_
              try simp only [W, EE]
              refine w_appV (l := x15) (c := (AV.int .i64)) 1 hS rfl qv16 rfl rfl rfl (hS.elems 0 rfl qv59) (fun _ => rfl) rfl h fun v62 H x61 qv62 hm h hS => ?_
              try simp only [W]
              refine w_lit (el := ([(IntKind.i64.wrap (x22 + b58))] : List Int).map (AV.int .i64)) hS rfl rfl rfl rfl rfl rfl rfl fun v64 H qv64 hS => ?_
              try simp only [W, EE]
              refine w_appV (l := x18) (c := (AV.int .i64)) 3 hS rfl qv19 rfl rfl rfl (hS.elems 0 rfl qv64) (fun _ => rfl) rfl h fun v67 H x66 qv67 hm h hS => ?_
              try simp only [W]
              refine blk_n0 hK39 ?_
              refine seq_n hK38 ?_
              refine w_reg gC ?_
              try simp only [W, EE, Nat.reduceAdd]
              exact lp_n hK32 h ⟨_, qv62, _, qv67, rfl, (hS.sel 4 [2, 3] (by decide))⟩
        · refine w_exit ?_
          refine seq_x hK37 ?_
          try obtain rfl := Option.some.inj h
          obtain rfl := hd33 _ rfl
          have h : (some (LR.next (x15, x18)) : Option (LR ((List Int) × (List Int)) (Int × Bool))) = some (LR.next (x15, x18)) := rfl
          refine lp_x hK32 ?_
          refine blk_e hK31 ?_
          exact cut_n hK30 ⟨_, _, (Option.some.inj h).symm, _, qv16, _, qv19, rfl, hS⟩
      · obtain ⟨x24, x26, rfl, v25, qv25, v27, qv27, rfl, hS⟩ := hq
        replace h := g35
        try dsimp only at h
        refine seq_n hK13 ?_
        refine w_seq fun K71 hK71 => ?_
        refine w_reg gC ?_
        try simp only [W, Nat.reduceAdd]
        refine seq_n hK71 ?_
        refine w_seq fun K72 hK72 => ?_
        refine w_seq fun K73 hK73 => ?_
        refine w_reg gC ?_
        try simp only [W, EE, Nat.reduceAdd]
        refine w_len 0 hS rfl qv25 rfl ?_
        try simp only [W]
        refine seq_n hK73 ?_
        obtain ⟨y77, hw78, g84⟩ := Option.bind_eq_some_iff.1 h
        refine w_join gC (fun s H => ∃ x76 : Int, y77 = (x76) ∧ s = [u, u, u, u, u, u, u, u, u, u, u, u, .int .i64 x76, u, u, u, u, u, u, u, u, u, u, u, u, u, u, u, u, u, u, u, u, u, u, u, u, u, u, u, u, u, u, u, u, u, u, u, u, u, u, u, u, u, u, u, u, u, u, u, u, u, u, u, u, u, u, u, u, u, u, u, u, u, u, u, u, u, u, u, u, u, u, u, u, u, u, u, u, u, u, u, u, u, u, u, u, u] ∧ Own H (F)) (fun K79 hK79 => ?_) (fun s H hq => ?_)
        · refine w_blk fun K80 hK80 => ?_
          refine w_loop gC hw78 (fun x s H => match x with | (x74, x75) => s = [u, u, u, u, u, u, u, v27, u, u, u, u, .int .i64 x74, u, u, u, u, u, u, u, u, u, u, u, u, u, u, u, u, u, u, u, u, u, u, u, u, u, u, u, u, u, u, u, u, u, u, u, u, u, u, u, u, u, u, u, u, u, u, u, u, u, u, u, u, u, u, u, v25, .int .i64 (x24.length : Int), .int .i64 x75, u, u, u, u, u, u, u, u, u, u, u, u, u, u, u, u, u, u, u, u, u, u, u, u, u, u, u] ∧ Own H (⟨v27, 1, x26.map (AV.int .i64)⟩ :: ⟨v25, 1, x24.map (AV.int .i64)⟩ :: F)) ⟨rfl, (hS.sel 2 [1, 0] (by decide))⟩ (fun x y83 s H h hd82 hi K81 hK81 => ?_)
          obtain ⟨x74, x75⟩ := x
          try dsimp only at hi
          obtain ⟨rfl, hS⟩ := hi
          simp only [impl_WorstDelay_l2] at h
          refine w_seq fun K85 hK85 => ?_
          refine w_reg gC ?_
          try simp only [W, EE, Nat.reduceAdd]
          refine seq_n hK85 ?_
          refine w_seq fun K86 hK86 => ?_
          refine w_if ?_
          simp only [W]
          refine w_cnd h (fun hc h => ?_) (fun hc h => ?_)
          · refine w_skip ?_
            refine seq_n hK86 ?_
            refine w_seq fun K87 hK87 => ?_
            refine w_blk fun K88 hK88 => ?_
            refine w_seq fun K89 hK89 => ?_
            refine w_reg gC ?_
            try simp only [W, EE, Nat.reduceAdd]
            refine w_ow 1 hS rfl rfl rfl rfl rfl h (fun b90 in91 wn91 on91 hb90 h en91 => ?_) qv25.ne
            obtain ⟨kn91, hbn91, hen91⟩ := hS.elem 1 rfl en91 hb90
            try simp only [W, EE, hbn91, hen91]
            refine seq_n hK89 ?_
            refine w_seq fun K92 hK92 => ?_
            refine w_reg gC ?_
            try simp only [W, Nat.reduceAdd]
            refine seq_n hK92 ?_
            refine w_seq fun K93 hK93 => ?_
            obtain ⟨y96, hw97, g103⟩ := Option.bind_eq_some_iff.1 h
            refine w_join gC (fun s H => ∃ x95 : Int, y96 = (x95) ∧ s = [u, u, u, u, u, u, u, v27, u, u, u, u, .int .i64 x74, u, u, .int .i64 x95, u, u, u, u, u, u, u, u, u, u, u, u, u, u, u, u, u, u, u, u, u, u, u, u, u, u, u, u, u, u, u, u, u, u, u, u, u, u, u, u, u, u, u, u, u, u, u, u, u, u, u, u, v25, .int .i64 (x24.length : Int), .int .i64 x75, u, u, u, u, u, u, u, u, u, u, u, u, u, u, u, u, u, u, u, u, u, u, u, u, u, u, u] ∧ Own H (⟨v27, 1, x26.map (AV.int .i64)⟩ :: ⟨v25, 1, x24.map (AV.int .i64)⟩ :: F)) (fun K98 hK98 => ?_) (fun s H hq => ?_)
            · refine w_blk fun K99 hK99 => ?_
              refine w_loop gC hw97 (fun x s H => s = [u, u, u, u, u, u, u, v27, u, u, u, u, .int .i64 x74, .int .i64 x75, .int .i64 b90, .int .i64 x, u, u, u, u, u, u, u, u, u, u, u, u, u, u, u, u, u, u, u, u, u, u, u, u, u, u, u, u, u, u, u, u, u, u, u, u, u, u, u, u, u, u, u, u, u, u, u, u, u, u, u, u, v25, .int .i64 (x24.length : Int), .int .i64 x75, u, u, u, u, u, u, u, u, u, u, u, u, u, u, u, u, u, u, u, u, u, u, u, u, u, u, u] ∧ Own H (⟨v27, 1, x26.map (AV.int .i64)⟩ :: ⟨v25, 1, x24.map (AV.int .i64)⟩ :: F)) ⟨rfl, hS⟩ (fun x94 y102 s H h hd101 hi K100 hK100 => ?_)
              skip
              try dsimp only at hi
              obtain ⟨rfl, hS⟩ := hi
              simp only [impl_WorstDelay_l1] at h
              refine w_seq fun K104 hK104 => ?_
              refine w_seq fun K105 hK105 => ?_
              obtain ⟨y107, h, g108⟩ := Option.bind_eq_some_iff.1 h
              refine w_join gC (fun s H => ∃ x106 : Bool, y107 = (x106) ∧ s = [u, u, u, u, u, u, u, v27, u, u, u, u, .int .i64 x74, .int .i64 x75, .int .i64 b90, .int .i64 x94, u, u, u, u, u, u, u, u, u, u, u, u, u, u, u, u, u, u, u, u, u, u, u, u, u, u, u, u, u, u, u, u, u, u, u, u, u, u, u, u, u, u, u, u, u, u, u, u, u, u, u, u, v25, .int .i64 (x24.length : Int), .int .i64 x75, u, u, u, u, u, u, u, u, u, u, u, u, u, u, u, u, u, u, u, .bool x106, u, u, u, u, u, u, u] ∧ Own H (⟨v27, 1, x26.map (AV.int .i64)⟩ :: ⟨v25, 1, x24.map (AV.int .i64)⟩ :: F)) (fun K109 hK109 => ?_) (fun s H hq => ?_)
              · refine w_seq fun K110 hK110 => ?_
                refine w_reg gC ?_
                try simp only [W, EE, Nat.reduceAdd]
                refine w_len 0 hS rfl qv27 rfl ?_
                try simp only [W, EE]
                refine w_grdT h (fun hc h => ?_) (fun hc h => ?_)
                · try simp only [W, EE, hc]
                  refine w_ow 0 hS rfl rfl rfl rfl rfl h (fun b111 in112 wn112 on112 hb111 h en112 => ?_) qv27.ne
                  obtain ⟨kn112, hbn112, hen112⟩ := hS.elem 0 rfl en112 hb111
                  try simp only [W, EE, reduceIte, hbn112, hen112]
                  refine seq_n hK110 ?_
                  refine w_kill ?_
                  exact cut_n hK109 ⟨_, (Option.some.inj h).symm, rfl, hS⟩
                · try simp only [W, hc]
                  refine seq_n hK110 ?_
                  refine w_kill ?_
                  exact cut_n hK109 ⟨_, (Option.some.inj h).symm, rfl, hS⟩
              · obtain ⟨x106, ey, rfl, hS⟩ := hq; obtain rfl := ey.symm
                replace h := g108
                try dsimp only at h
                refine seq_n hK105 ?_
                refine w_if ?_
                simp only [W]
                refine w_cnd h (fun hc h => ?_) (fun hc h => ?_)
                · refine w_skip ?_
                  refine seq_n hK104 ?_
                  refine w_blk fun K113 hK113 => ?_
                  refine w_reg gC ?_
                  try simp only [W, EE, Nat.reduceAdd]
                  refine blk_n0 hK113 ?_
                  exact lp_n hK100 h ⟨rfl, hS⟩
                · refine w_exit ?_
                  refine seq_x hK104 ?_
                  try obtain rfl := Option.some.inj h
                  obtain rfl := hd101 _ rfl
                  have h : (some (x94) : Option (Int)) = some (x94) := rfl
                  refine lp_x hK100 ?_
                  refine blk_e hK99 ?_
                  exact cut_n hK98 ⟨_, (Option.some.inj h).symm, rfl, hS⟩
            · obtain ⟨x95, ey, rfl, hS⟩ := hq; obtain rfl := ey.symm
              replace h := g103
              try dsimp only at h
              refine seq_n hK93 ?_
              refine w_reg gC ?_
              try simp only [W, Nat.reduceAdd]
              refine blk_n0 hK88 ?_
              refine seq_n hK87 ?_
              refine w_reg gC ?_
              try simp only [W, EE, Nat.reduceAdd]
              exact lp_n hK81 h ⟨rfl, hS⟩
          · refine w_exit ?_
            refine seq_x hK86 ?_
            try obtain rfl := Option.some.inj h
            obtain rfl := hd82 _ rfl
            have h : (some (x74) : Option (Int)) = some (x74) := rfl
            refine lp_x hK81 ?_
            refine blk_e hK80 ?_
            exact cut_n hK79 ⟨_, (Option.some.inj h).symm, rfl, (hS.sel 2 [] (by decide))⟩
        · obtain ⟨x76, ey, rfl, hS⟩ := hq; obtain rfl := ey.symm
          replace h := g84
          try dsimp only at h
          refine seq_n hK72 ?_
          refine w_seq fun K118 hK118 => ?_
          refine w_reg gC ?_
          try simp only [W, Nat.reduceAdd]
          refine seq_n hK118 ?_
          refine w_ret ?_
          refine fin_r2 hK0 rfl rfl ?_
          try obtain rfl := Option.some.inj h
          exact hP _ hS
theorem spec_DrawPassThrough_w {a0 : List Int} {r : (List Int × Int)} (h : spec_DrawPassThrough a0 = some r) {F : List It} {H : Heap} (hS : Own H (F)) {P : AV → Heap → Prop} (hP : ∀ v16 : AV, isSl v16 → ∀ H', Own H' (⟨v16, 1, r.1.map (AV.int .i64)⟩ :: F) → P (.tup [v16, .int .i64 r.2]) H') : ACall C 87 [.fz (a0.map (AV.int .u8))] H P := by
  refine acall_of gC (res := [.tmp 2, .tmp 3]) (n := 13) rfl rfl rfl rfl fun K0 hK0 => ?_
  simp only [W, Nat.reduceSub, Nat.reduceAdd, List.replicate]
  unfold spec_DrawPassThrough at h
  refine w_seq fun K1 hK1 => ?_
  refine w_reg gC ?_
  try simp only [W, Nat.reduceAdd]
  refine seq_n hK1 ?_
  refine w_seq fun K2 hK2 => ?_
  refine w_reg gC ?_
  try simp only [W, EE, Nat.reduceAdd]
  refine w_bld rfl rfl rfl rfl rfl ?_
  try simp only [W]
  refine w_box hS rfl rfl rfl rfl fun ip3 wp3 H hS => ?_
  try simp only [W]
  refine seq_n hK2 ?_
  refine w_seq fun K5 hK5 => ?_
  refine w_regF (fz := [(4, [([11], [.sl [.sc]])])]) gC ?_
  try simp only [W, Nat.reduceAdd, Nat.reduceBEq]
  refine w_call h fun b6 hb6 h => ?_
  obtain ⟨b7, b8⟩ := b6
  try dsimp only at h
  refine spec_l1Cur_flow_w hb6 hS fun v9 qv9 H hS => ?_
  try simp only [W, Nat.reduceAdd, Nat.reduceBEq]
  refine w_lit (el := ([0, 1, 3, 5, 20, 60, 61] : List Int).map (AV.int .i64)) hS rfl rfl rfl rfl rfl rfl rfl fun v11 H qv11 hS => ?_
  try simp only [W, Nat.reduceAdd]
  refine FZ_own 0 hS rfl qv11 rfl (fun _ _ => by simp [takeE, takeT, plainA]) (fun _ => rfl) fun H hsame hS => ?_
  try simp only [W]
  refine w_call h fun b13 hb13 h => ?_
  obtain ⟨b14, b15⟩ := b13
  try dsimp only at h
  refine spec_l1Cur_among_w hb13 (hS.sel 2 [1, 0] (by decide)) fun H hS => ?_
  try simp only [W, Nat.reduceAdd, Nat.reduceBEq]
  refine seq_n hK5 ?_
  refine w_ret ?_
  refine fin_r2 hK0 rfl rfl ?_
  try obtain rfl := Option.some.inj h
  exact hP _ qv9 _ (hS.sel 2 [1] (by decide))
theorem spec_PassThrough_w {a0 : List Int} {a1 : Int} {r : (List Int × List Int × Bool)} (h : spec_PassThrough a0 a1 = some r) {F : List It} {H : Heap} (hS : Own H (F)) {P : AV → Heap → Prop} (hP : ∀ v60 : AV, isSl v60 → ∀ v62 : AV, isSl v62 → ∀ H', Own H' (⟨v60, 1, r.1.map (AV.int .i64)⟩ :: ⟨v62, 1, r.2.1.map (AV.int .i64)⟩ :: F) → P (.tup [v60, v62, .bool r.2.2]) H') : ACall C 88 [.fz (a0.map (AV.int .i64)), .int .i64 a1] H P := by
  refine acall_of gC (res := [.tmp 4, .tmp 5, .tmp 6]) (n := 47) rfl rfl rfl rfl fun K0 hK0 => ?_
  simp only [W, Nat.reduceSub, Nat.reduceAdd, List.replicate]
  unfold spec_PassThrough at h
  refine w_seq fun K1 hK1 => ?_
  refine w_reg gC ?_
  try simp only [W, Nat.reduceAdd]
  refine seq_n hK1 ?_
  refine w_seq fun K2 hK2 => ?_
  refine w_seq fun K3 hK3 => ?_
  obtain ⟨y5, h, g6⟩ := Option.bind_eq_some_iff.1 h
  refine w_join gC (fun s H => ∃ x4 : Bool, y5 = (x4) ∧ s = [.fz (a0.map (AV.int .i64)), .int .i64 a1, u, u, u, u, u, u, u, u, u, u, u, u, u, u, u, u, u, u, .bool x4, u, u, u, u, u, u, u, u, u, u, u, u, u, u, u, u, u, u, u, u, u, u, u, u, u, u] ∧ Own H (F)) (fun K7 hK7 => ?_) (fun s H hq => ?_)
  · refine w_seq fun K8 hK8 => ?_
    refine w_reg gC ?_
    try simp only [W, Nat.reduceAdd]
    refine w_call h fun b9 hb9 h => ?_
    refine spec_l7Flow_w hb9 hS fun H hS => ?_
    try simp only [W]
    refine w_grdT h (fun hc h => ?_) (fun hc h => ?_)
    · try simp only [W, hc]
      refine seq_n hK8 ?_
      refine w_kill ?_
      exact cut_n hK7 ⟨_, (Option.some.inj h).symm, rfl, hS⟩
    · try simp only [W, hc]
      refine w_call h fun b10 hb10 h => ?_
      refine spec_l1In_w hb10 hS fun H hS => ?_
      try simp only [W, reduceIte, Bool.false_eq_true]
      refine seq_n hK8 ?_
      refine w_kill ?_
      exact cut_n hK7 ⟨_, (Option.some.inj h).symm, rfl, hS⟩
  · obtain ⟨x4, ey, rfl, hS⟩ := hq; obtain rfl := ey.symm
    replace h := g6
    try dsimp only at h
    refine seq_n hK3 ?_
    refine w_if ?_
    simp only [W]
    refine w_cnd h (fun hc h => ?_) (fun hc h => ?_)
    · refine w_seq fun K11 hK11 => ?_
      refine w_reg gC ?_
      try simp only [W, Nat.reduceAdd]
      refine seq_n hK11 ?_
      refine w_ret ?_
      refine seq_r hK2 ?_
      refine fin_r3 hK0 rfl rfl rfl ?_
      try obtain rfl := Option.some.inj h
      exact hP _ isSl_nil _ isSl_nil _ ((hS.nil_ 1).nil_ 1)
    · refine w_skip ?_
      refine seq_n hK2 ?_
      refine w_seq fun K12 hK12 => ?_
      refine w_reg gC ?_
      try simp only [W, Nat.reduceAdd]
      refine seq_n hK12 ?_
      refine w_seq fun K13 hK13 => ?_
      refine w_reg gC ?_
      try simp only [W, Nat.reduceAdd]
      refine seq_n hK13 ?_
      refine w_seq fun K14 hK14 => ?_
      refine w_seq fun K15 hK15 => ?_
      refine w_reg gC ?_
      try simp only [W, EE, Nat.reduceAdd]
      refine seq_n hK15 ?_
      obtain ⟨y28, hw29, g35⟩ := Option.bind_eq_some_iff.1 h
      refine w_join gC (fun s H => ∃ x24 : List Int, ∃ x26 : List Int, y28 = (x24, x26) ∧ ∃ v25 : AV, isSl v25 ∧ ∃ v27 : AV, isSl v27 ∧ s = [u, u, u, u, u, u, u, v25, v27, u, u, u, u, u, u, u, u, u, u, u, u, u, u, u, u, u, u, u, u, u, u, u, u, u, u, u, u, u, u, u, u, u, u, u, u, u, u] ∧ Own H (⟨v25, 1, x24.map (AV.int .i64)⟩ :: ⟨v27, 1, x26.map (AV.int .i64)⟩ :: F)) (fun K30 hK30 => ?_) (fun s H hq => ?_)
      · refine w_blk fun K31 hK31 => ?_
        refine w_loop gC hw29 (fun x s H => match x with | (x16, x19, x22, x23) => ∃ v17 : AV, isSl v17 ∧ ∃ v20 : AV, isSl v20 ∧ s = [u, .int .i64 a1, u, u, u, u, u, v17, v20, .int .i64 x22, u, u, u, u, u, u, u, u, u, u, u, .fz (a0.map (AV.int .i64)), .int .i64 (a0.length : Int), .int .i64 x23, u, u, u, u, u, u, u, u, u, u, u, u, u, u, u, u, u, u, u, u, u, u, u] ∧ Own H (⟨v17, 1, x16.map (AV.int .i64)⟩ :: ⟨v20, 1, x19.map (AV.int .i64)⟩ :: F)) ⟨_, isSl_nil, _, isSl_nil, rfl, ((hS.nil_ 1).nil_ 1)⟩ (fun x y34 s H h hd33 hi K32 hK32 => ?_)
        obtain ⟨x16, x19, x22, x23⟩ := x
        try dsimp only at hi
        obtain ⟨v17, qv17, v20, qv20, rfl, hS⟩ := hi
        simp only [spec_PassThrough_l0] at h
        refine w_seq fun K36 hK36 => ?_
        refine w_reg gC ?_
        try simp only [W, EE, Nat.reduceAdd]
        refine seq_n hK36 ?_
        refine w_seq fun K37 hK37 => ?_
        refine w_if ?_
        simp only [W]
        refine w_cnd h (fun hc h => ?_) (fun hc h => ?_)
        · refine w_skip ?_
          refine seq_n hK37 ?_
          refine w_seq fun K38 hK38 => ?_
          refine w_blk fun K39 hK39 => ?_
          refine w_seq fun K40 hK40 => ?_
          refine w_reg gC ?_
          try simp only [W, EE, Nat.reduceAdd]
          refine w_fz rfl rfl rfl (fun _ => rfl) h fun b41 hb41 h => ?_
          try simp only [W, EE]
          refine seq_n hK40 ?_
          refine w_seq fun K42 hK42 => ?_
          refine w_reg gC ?_
          try simp only [W, EE, Nat.reduceAdd]
          refine seq_n hK42 ?_
          refine w_seq fun K43 hK43 => ?_
          refine w_reg gC ?_
          try simp only [W, Nat.reduceAdd]
          refine w_call h fun b44 hb44 h => ?_
          refine spec_l1Least_w hb44 hS fun H hS => ?_
          try simp only [W]
          refine seq_n hK43 ?_
          refine w_seq fun K45 hK45 => ?_
          refine w_reg gC ?_
          try simp only [W, EE, Nat.reduceAdd]
          refine seq_n hK45 ?_
          refine w_seq fun K46 hK46 => ?_
          refine w_reg gC ?_
          try simp only [W, Nat.reduceAdd]
          refine w_lit (el := ([b44] : List Int).map (AV.int .i64)) hS rfl rfl rfl rfl rfl rfl rfl fun v47 H qv47 hS => ?_
          try simp only [W, EE]
          refine w_appV (l := x16) (c := (AV.int .i64)) 1 hS rfl qv17 rfl rfl rfl (hS.elems 0 rfl qv47) (fun _ => rfl) rfl h fun v50 H x49 qv50 hm h hS => ?_
          try simp only [W]
          refine seq_n hK46 ?_
          refine w_reg gC ?_
          try simp only [W, Nat.reduceAdd]
          refine w_lit (el := ([(IntKind.i64.wrap ((IntKind.i64.wrap (x22 + b41)) - b44))] : List Int).map (AV.int .i64)) hS rfl rfl rfl rfl rfl rfl rfl fun v52 H qv52 hS => ?_
          try simp only [W, EE]
          refine w_appV (l := x19) (c := (AV.int .i64)) 3 hS rfl qv20 rfl rfl rfl (hS.elems 0 rfl qv52) (fun _ => rfl) rfl h fun v55 H x54 qv55 hm h hS => ?_
          try simp only [W]
          refine blk_n0 hK39 ?_
          refine seq_n hK38 ?_
          refine w_reg gC ?_
          try simp only [W, EE, Nat.reduceAdd]
          exact lp_n hK32 h ⟨_, qv50, _, qv55, rfl, (hS.sel 4 [2, 3] (by decide))⟩
        · refine w_exit ?_
          refine seq_x hK37 ?_
          try obtain rfl := Option.some.inj h
          obtain rfl := hd33 _ rfl
          have h : (some (x16, x19) : Option ((List Int) × (List Int))) = some (x16, x19) := rfl
          refine lp_x hK32 ?_
          refine blk_e hK31 ?_
          exact cut_n hK30 ⟨_, _, (Option.some.inj h).symm, _, qv17, _, qv20, rfl, hS⟩
      · obtain ⟨x24, x26, rfl, v25, qv25, v27, qv27, rfl, hS⟩ := hq
        replace h := g35
        try dsimp only at h
        refine seq_n hK14 ?_
        refine w_seq fun K59 hK59 => ?_
        refine w_reg gC ?_
        try simp only [W, Nat.reduceAdd]
        refine seq_n hK59 ?_
        refine w_ret ?_
        refine fin_r3 hK0 rfl rfl rfl ?_
        try obtain rfl := Option.some.inj h
        exact hP _ qv25 _ qv27 _ hS
theorem spec_DrawWorstDelay_w {a0 : List Int} {r : (List Int × List Int)} (h : spec_DrawWorstDelay a0 = some r) {F : List It} {H : Heap} (hS : Own H (F)) {P : AV → Heap → Prop} (hP : ∀ v54 : AV, isSl v54 → ∀ v56 : AV, isSl v56 → ∀ H', Own H' (⟨v54, 1, r.1.map (AV.int .i64)⟩ :: ⟨v56, 1, r.2.map (AV.int .i64)⟩ :: F) → P (.tup [v54, v56]) H') : ACall C 89 [.fz (a0.map (AV.int .u8))] H P := by
  refine acall_of gC (res := [.tmp 2, .tmp 3]) (n := 44) rfl rfl rfl rfl fun K0 hK0 => ?_
  simp only [W, Nat.reduceSub, Nat.reduceAdd, List.replicate]
  unfold spec_DrawWorstDelay at h
  refine w_seq fun K1 hK1 => ?_
  refine w_reg gC ?_
  try simp only [W, Nat.reduceAdd]
  refine seq_n hK1 ?_
  refine w_seq fun K2 hK2 => ?_
  refine w_reg gC ?_
  try simp only [W, EE, Nat.reduceAdd]
  refine w_bld rfl rfl rfl rfl rfl ?_
  try simp only [W]
  refine w_box hS rfl rfl rfl rfl fun ip3 wp3 H hS => ?_
  try simp only [W]
  refine seq_n hK2 ?_
  refine w_seq fun K5 hK5 => ?_
  refine w_reg gC ?_
  try simp only [W, Nat.reduceAdd]
  refine w_call h fun b6 hb6 h => ?_
  obtain ⟨b7, b8⟩ := b6
  try dsimp only at h
  refine spec_l1Cur_flow_w hb6 hS fun v9 qv9 H hS => ?_
  try simp only [W]
  refine seq_n hK5 ?_
  refine w_seq fun K11 hK11 => ?_
  refine w_reg gC ?_
  try simp only [W, Nat.reduceAdd, Nat.reduceBEq, List.contains_cons, Nat.reduceBEq, Bool.or_self]
  refine w_call h fun b12 hb12 h => ?_
  obtain ⟨b13, b14⟩ := b12
  try dsimp only at h
  refine spec_l1Cur_pick_w hb12 (hS.sel 2 [1, 0] (by decide)) fun H hS => ?_
  try simp only [W, EE]
  refine w_callO (rsh := [[.sl [.sc]], [.sl [.sc]], [.sc]]) (ys := [.fz (b7.map (AV.int .i64)), .int .i64 (IntKind.i64.wrap (1 + b13))]) h rfl (pv_c (sn_ow hS 1 rfl qv9 (fun _ => rfl)) (pv_c rfl pv_n)) fun b15 hb15 h => ⟨.tup [.own 1 (b15.1.map (AV.int .i64)), .own 1 (b15.2.1.map (AV.int .i64)), .bool b15.2.2], spec_PassThrough_w hb15 (Own.nil _) fun v19 qv19 v20 qv20 H hS => TV_ok rfl (TV_o 0 hS rfl qv19 (fun _ _ => by simp [takeE, takeT, plainA]) fun H hS => TV_o 0 hS rfl qv20 (fun _ _ => by simp [takeE, takeT, plainA]) fun H hS => TV_p rfl (TV_n rfl)), (nf_t (nf_c (noFz_o _ (fun _ => rfl) _) (nf_c (noFz_o _ (fun _ => rfl) _) (nf_c rfl nf_n)))), ?_⟩
  refine thaw_tup ?_
  refine TH_o hS (fun _ _ => rfl) (fun _ => rfl) fun v22 H qv22 hS => ?_
  refine TH_o hS (fun _ _ => rfl) (fun _ => rfl) fun v24 H qv24 hS => ?_
  refine TH_p (fun _ => rfl) ?_
  refine TH_n ?_
  try simp only [List.headD_cons]
  obtain ⟨b16, b17, b18⟩ := b15
  try dsimp only at h
  try simp only [W]
  refine seq_n hK11 ?_
  refine w_seq fun K25 hK25 => ?_
  refine w_seq fun K26 hK26 => ?_
  obtain ⟨y31, h, g32⟩ := Option.bind_eq_some_iff.1 h
  refine w_join gC (fun s H => ∃ x27 : Bool, ∃ x28 : List Int, ∃ x29 : Int, ∃ x30 : Int, y31 = (x27, x28, x29, x30) ∧ s = [u, u, u, u, .ptr ip3 wp3 0 0, v9, v22, u, u, u, u, u, u, u, u, u, u, u, u, u, u, u, u, u, u, u, u, u, u, .bool x27, u, u, u, u, u, u, u, u, u, u, u, u, u, u] ∧ Own H (⟨v9, 1, b7.map (AV.int .i64)⟩ :: ⟨v22, 1, b16.map (AV.int .i64)⟩ :: ⟨.ptr ip3 wp3 0 0, 3, [.agg [.fz (x28.map (AV.int .u8)), .int .i64 x29, .int .u64 x30]]⟩ :: F)) (fun K33 hK33 => ?_) (fun s H hq => ?_)
  · refine w_seq fun K34 hK34 => ?_
    refine w_reg gC ?_
    try simp only [W, EE, Nat.reduceAdd]
    refine w_len 1 hS rfl qv22 rfl ?_
    try simp only [W, EE]
    refine w_grdT h (fun hc h => ?_) (fun hc h => ?_)
    · try simp only [W, hc]
      refine w_call h fun b35 hb35 h => ?_
      obtain ⟨b36, b37⟩ := b35
      try dsimp only at h
      refine spec_l1Cur_one_w hb35 (hS.sel 4 [2, 0, 1, 3] (by decide)) fun H hS => ?_
      try simp only [W, reduceIte]
      refine seq_n hK34 ?_
      refine w_kill ?_
      exact cut_n hK33 ⟨_, _, _, _, (Option.some.inj h).symm, rfl, (hS.sel 4 [3, 2, 0] (by decide))⟩
    · try simp only [W, hc]
      refine seq_n hK34 ?_
      refine w_kill ?_
      exact cut_n hK33 ⟨_, _, _, _, (Option.some.inj h).symm, rfl, (hS.sel 4 [3, 1, 2] (by decide))⟩
  · obtain ⟨x27, x28, x29, x30, rfl, rfl, hS⟩ := hq
    replace h := g32
    try dsimp only at h
    refine seq_n hK26 ?_
    obtain ⟨y39, h, g40⟩ := Option.bind_eq_some_iff.1 h
    refine w_join gC (fun s H => ∃ x38 : List Int, y39 = (x38) ∧ s = [u, u, u, u, u, v9, v22, u, u, u, u, u, u, u, u, u, u, u, u, u, u, u, u, u, u, u, u, u, u, u, u, u, u, u, u, u, u, u, u, u, u, u, u, u] ∧ Own H (⟨v9, 1, b7.map (AV.int .i64)⟩ :: ⟨v22, 1, x38.map (AV.int .i64)⟩ :: F)) (fun K41 hK41 => ?_) (fun s H hq => ?_)
    · refine w_seq fun K42 hK42 => ?_
      refine w_if ?_
      simp only [W]
      refine w_cnd h (fun hc h => ?_) (fun hc h => ?_)
      · refine w_drawL gC [(5, [0, 4]), (8, [0, 6, 7]), (12, [])] (by kernel_rfl) rfl (by kernel_rfl) ?_
        try simp only [W, EE, reduceIte, Nat.reduceAdd, tabAt, qAt, Nat.reduceEqDiff, permL_d, pO_d, pO_o, pO_g, ren_c, Nat.reduceEqDiff]
        refine w_len 1 hS rfl qv22 rfl ?_
        try simp only [W]
        refine w_call h fun b43 hb43 h => ?_
        obtain ⟨b44, b45⟩ := b43
        try dsimp only at h
        refine spec_l1Cur_pick_w hb43 (hS.sel 3 [2, 0, 1] (by decide)) fun H hS => ?_
        refine goK_late ?_
        refine lateG_s (by first | rfl | (simp [evalOp, W, EE, EN, rdAt, mkT, subL, AV.cells, pO_o, pO_d, pO_g, hS.var 0 rfl]; done)) ?_
        refine lateG_s (by first | rfl | (simp [evalOp, W, EE, EN, rdAt, mkT, subL, AV.cells, pO_o, pO_d, pO_g, hS.var 0 rfl]; done)) ?_
        refine lateG_n ?_
        try simp only [W, EE]
        refine w_ow 2 hS rfl rfl rfl rfl rfl h (fun b46 in47 wn47 on47 hb46 h en47 => ?_) qv22.ne
        obtain ⟨kn47, hbn47, hen47⟩ := hS.elem 2 rfl en47 hb46
        try simp only [W, EE, hbn47, hen47]
        refine w_call h fun b48 hb48 h => ?_
        obtain ⟨b49, b50⟩ := b48
        try dsimp only at h
        refine spec_l1Cur_pick_w hb48 hS fun H hS => ?_
        refine goK_late ?_
        refine lateG_s (by first | rfl | (simp [evalOp, W, EE, EN, rdAt, mkT, subL, AV.cells, pO_o, pO_d, pO_g, hS.var 0 rfl]; done) | exact ev_ow 2 hS rfl rfl rfl rfl rfl en47 hb46 rfl rfl rfl rfl | exact ev_le 2 hS rfl rfl en47 hb46 rfl rfl rfl) ?_
        refine lateG_s (by first | rfl | (simp [evalOp, W, EE, AV.cells, pO_o]; done) | exact ev_ow 2 hS rfl rfl rfl rfl rfl en47 hb46 rfl rfl rfl rfl | exact ev_le 2 hS rfl rfl en47 hb46 rfl rfl rfl) ?_
        refine lateG_s (by first | rfl | (simp [evalOp, W, EE, rdAt, mkT, subL, AV.cells, pO_o]; done) | exact ev_ow 2 hS rfl rfl rfl rfl rfl en47 hb46 rfl rfl rfl rfl | exact ev_le 2 hS rfl rfl en47 hb46 rfl rfl rfl) ?_
        refine lateG_n ?_
        try simp only [W, EE]
        refine w_ow 2 hS rfl rfl rfl rfl rfl h (fun b51 in52 wn52 on52 hb51 h en52 => ?_) qv22.ne
        obtain ⟨kn52, hbn52, hen52⟩ := hS.elem 2 rfl en52 hb51
        try simp only [W]
        refine w_ste (a := .int .i64 (IntKind.i64.wrap (b46 + (IntKind.i64.wrap (b49 - 1))))) (y' := (IntKind.i64.wrap (b46 + (IntKind.i64.wrap (b49 - 1))))) 2 hS rfl en52 hb51 rfl rfl rfl rfl rfl rfl rfl fun H hS => ?_
        try simp only [W]
        refine seq_n hK42 ?_
        refine w_kill ?_
        exact cut_n hK41 ⟨_, (Option.some.inj h).symm, rfl, (hS.sel 3 [1, 2] (by decide))⟩
      · refine w_skip ?_
        refine seq_n hK42 ?_
        refine w_kill ?_
        exact cut_n hK41 ⟨_, (Option.some.inj h).symm, rfl, (hS.sel 3 [0, 1] (by decide))⟩
    · obtain ⟨x38, ey, rfl, hS⟩ := hq; obtain rfl := ey.symm
      replace h := g40
      try dsimp only at h
      refine seq_n hK25 ?_
      refine w_seq fun K53 hK53 => ?_
      refine w_reg gC ?_
      try simp only [W, Nat.reduceAdd]
      refine seq_n hK53 ?_
      refine w_ret ?_
      refine fin_r2 hK0 rfl rfl ?_
      try obtain rfl := Option.some.inj h
      exact hP _ qv9 _ qv22 _ hS
theorem spec_l1Most_w {a0 : Int} {a1 : Int} {r : (Int)} (h : spec_l1Most a0 a1 = some r) {F : List It} {H : Heap} (hS : Own H (F)) {P : AV → Heap → Prop} (hP : ∀ H', Own H' (F) → P (.int .i64 r) H') : ACall C 210 [.int .i64 a0, .int .i64 a1] H P := by
  refine acall_of gC (res := [.tmp 4]) (n := 10) rfl rfl rfl rfl fun K0 hK0 => ?_
  simp only [W, Nat.reduceSub, Nat.reduceAdd, List.replicate]
  unfold spec_l1Most at h
  refine w_seq fun K1 hK1 => ?_
  refine w_reg gC ?_
  try simp only [W, Nat.reduceAdd]
  refine seq_n hK1 ?_
  refine w_seq fun K2 hK2 => ?_
  refine w_seq fun K3 hK3 => ?_
  refine w_reg gC ?_
  try simp only [W, EE, Nat.reduceAdd]
  refine seq_n hK3 ?_
  refine w_if ?_
  simp only [W]
  refine w_cnd h (fun hc h => ?_) (fun hc h => ?_)
  · refine w_seq fun K4 hK4 => ?_
    refine w_reg gC ?_
    try simp only [W, Nat.reduceAdd]
    refine seq_n hK4 ?_
    refine w_ret ?_
    refine seq_r hK2 ?_
    refine fin_r1 hK0 rfl ?_
    try obtain rfl := Option.some.inj h
    exact hP _ hS
  · refine w_skip ?_
    refine seq_n hK2 ?_
    refine w_seq fun K5 hK5 => ?_
    refine w_reg gC ?_
    try simp only [W, Nat.reduceAdd]
    refine seq_n hK5 ?_
    refine w_ret ?_
    refine fin_r1 hK0 rfl ?_
    try obtain rfl := Option.some.inj h
    exact hP _ hS
theorem spec_WorstDelay_w {a0 : List Int} {a1 : List Int} {r : (Int × Bool)} (h : spec_WorstDelay a0 a1 = some r) {F : List It} {H : Heap} (hS : Own H (F)) {P : AV → Heap → Prop} (hP : ∀ H', Own H' (F) → P (.tup [.int .i64 r.1, .bool r.2]) H') : ACall C 90 [.fz (a0.map (AV.int .i64)), .fz (a1.map (AV.int .i64))] H P := by
  refine acall_of gC (res := [.tmp 4, .tmp 5]) (n := 94) rfl rfl rfl rfl fun K0 hK0 => ?_
  simp only [W, Nat.reduceSub, Nat.reduceAdd, List.replicate]
  unfold spec_WorstDelay at h
  refine w_seq fun K1 hK1 => ?_
  refine w_reg gC ?_
  try simp only [W, Nat.reduceAdd]
  refine seq_n hK1 ?_
  refine w_seq fun K2 hK2 => ?_
  refine w_seq fun K3 hK3 => ?_
  obtain ⟨y5, h, g6⟩ := Option.bind_eq_some_iff.1 h
  refine w_join gC (fun s H => ∃ x4 : Bool, y5 = (x4) ∧ s = [.fz (a0.map (AV.int .i64)), .fz (a1.map (AV.int .i64)), u, u, u, u, u, u, u, u, u, u, u, u, u, u, u, u, u, u, u, u, u, u, u, u, u, u, .bool x4, u, u, u, u, u, u, u, u, u, u, u, u, u, u, u, u, u, u, u, u, u, u, u, u, u, u, u, u, u, u, u, u, u, u, u, u, u, u, u, u, u, u, u, u, u, u, u, u, u, u, u, u, u, u, u, u, u, u, u, u, u, u, u, u, u] ∧ Own H (F)) (fun K7 hK7 => ?_) (fun s H hq => ?_)
  · refine w_seq fun K8 hK8 => ?_
    refine w_reg gC ?_
    try simp only [W, Nat.reduceAdd]
    refine w_call h fun b9 hb9 h => ?_
    refine spec_l7Flow_w hb9 hS fun H hS => ?_
    try simp only [W]
    refine w_grdT h (fun hc h => ?_) (fun hc h => ?_)
    · try simp only [W, hc]
      refine seq_n hK8 ?_
      refine w_kill ?_
      exact cut_n hK7 ⟨_, (Option.some.inj h).symm, rfl, hS⟩
    · try simp only [W, hc]
      refine w_call h fun b10 hb10 h => ?_
      refine spec_l1All_w hb10 hS fun H hS => ?_
      try simp only [W, reduceIte, Bool.false_eq_true]
      refine w_grdT h (fun hc h => ?_) (fun hc h => ?_)
      · try simp only [W, hc]
        refine seq_n hK8 ?_
        refine w_kill ?_
        exact cut_n hK7 ⟨_, (Option.some.inj h).symm, rfl, hS⟩
      · try simp only [W, EE, reduceIte, Bool.false_eq_true, hc]
        refine seq_n hK8 ?_
        refine w_kill ?_
        exact cut_n hK7 ⟨_, (Option.some.inj h).symm, rfl, hS⟩
  · obtain ⟨x4, ey, rfl, hS⟩ := hq; obtain rfl := ey.symm
    replace h := g6
    try dsimp only at h
    refine seq_n hK3 ?_
    refine w_if ?_
    simp only [W]
    refine w_cnd h (fun hc h => ?_) (fun hc h => ?_)
    · refine w_seq fun K11 hK11 => ?_
      refine w_reg gC ?_
      try simp only [W, Nat.reduceAdd]
      refine seq_n hK11 ?_
      refine w_ret ?_
      refine seq_r hK2 ?_
      refine fin_r2 hK0 rfl rfl ?_
      try obtain rfl := Option.some.inj h
      exact hP _ hS
    · refine w_skip ?_
      refine seq_n hK2 ?_
      refine w_seq fun K12 hK12 => ?_
      refine w_reg gC ?_
      try simp only [W, Nat.reduceAdd]
      refine seq_n hK12 ?_
      refine w_seq fun K13 hK13 => ?_
      refine w_reg gC ?_
      try simp only [W, Nat.reduceAdd]
      refine seq_n hK13 ?_
      refine w_seq fun K14 hK14 => ?_
      refine w_seq fun K15 hK15 => ?_
      refine w_reg gC ?_
      try simp only [W, EE, Nat.reduceAdd]
      refine seq_n hK15 ?_
      obtain ⟨y19, hw20, g26⟩ := Option.bind_eq_some_iff.1 h
      refine w_join gC (fun s H => y19 = LR.next () ∧ s = [.fz (a0.map (AV.int .i64)), .fz (a1.map (AV.int .i64)), u, u, u, u, u, u, u, u, u, u, u, u, u, u, u, u, u, u, u, u, u, u, u, u, u, u, u, u, u, u, u, u, u, u, u, u, u, u, u, u, u, u, u, u, u, u, u, u, u, u, u, u, u, u, u, u, u, u, u, u, u, u, u, u, u, u, u, u, u, u, u, u, u, u, u, u, u, u, u, u, u, u, u, u, u, u, u, u, u, u, u, u] ∧ Own H (F)) (fun K21 hK21 => ?_) (fun s H hq => ?_)
      · refine w_blk fun K22 hK22 => ?_
        refine w_loop gC hw20 (fun x s H => match x with | (x16, x17, x18) => s = [.fz (a0.map (AV.int .i64)), .fz (a1.map (AV.int .i64)), u, u, u, u, .int .i64 x16, .int .i64 x17, u, u, u, u, u, u, u, u, u, u, u, u, u, u, u, u, u, u, u, u, u, u, .int .i64 (a0.length : Int), .int .i64 x18, u, u, u, u, u, u, u, u, u, u, u, u, u, u, u, u, u, u, u, u, u, u, u, u, u, u, u, u, u, u, u, u, u, u, u, u, u, u, u, u, u, u, u, u, u, u, u, u, u, u, u, u, u, u, u, u, u, u, u, u, u, u] ∧ Own H (F)) ⟨rfl, hS⟩ (fun x y25 s H h hd24 hi K23 hK23 => ?_)
        obtain ⟨x16, x17, x18⟩ := x
        try dsimp only at hi
        obtain ⟨rfl, hS⟩ := hi
        simp only [spec_WorstDelay_l0] at h
        refine w_seq fun K27 hK27 => ?_
        refine w_reg gC ?_
        try simp only [W, EE, Nat.reduceAdd]
        refine seq_n hK27 ?_
        refine w_seq fun K28 hK28 => ?_
        refine w_if ?_
        simp only [W]
        refine w_cnd h (fun hc h => ?_) (fun hc h => ?_)
        · refine w_skip ?_
          refine seq_n hK28 ?_
          refine w_seq fun K29 hK29 => ?_
          refine w_blk fun K30 hK30 => ?_
          refine w_seq fun K31 hK31 => ?_
          refine w_reg gC ?_
          try simp only [W, Nat.reduceAdd]
          refine seq_n hK31 ?_
          refine w_seq fun K32 hK32 => ?_
          refine w_reg gC ?_
          try simp only [W, EE, Nat.reduceAdd]
          refine w_fz rfl rfl rfl (fun _ => rfl) h fun b33 hb33 h => ?_
          try simp only [W, EE]
          refine seq_n hK32 ?_
          refine w_seq fun K34 hK34 => ?_
          refine w_reg gC ?_
          try simp only [W, EE, Nat.reduceAdd]
          refine w_fz rfl rfl rfl (fun _ => rfl) h fun b35 hb35 h => ?_
          try simp only [W, EE]
          refine seq_n hK34 ?_
          refine w_seq fun K36 hK36 => ?_
          refine w_reg gC ?_
          try simp only [W, EE, Nat.reduceAdd]
          refine seq_n hK36 ?_
          refine w_if ?_
          simp only [W]
          refine w_cnd h (fun hc h => ?_) (fun hc h => ?_)
          · refine w_seq fun K37 hK37 => ?_
            refine w_reg gC ?_
            try simp only [W, Nat.reduceAdd]
            refine seq_n hK37 ?_
            refine w_ret ?_
            refine blk_r hK30 ?_
            refine seq_r hK29 ?_
            try obtain rfl := Option.some.inj h
            obtain rfl := hd24 _ rfl
            have h : (some (LR.done (0, false)) : Option (LR Unit (Int × Bool))) = some (LR.done (0, false)) := rfl
            refine lp_r hK23 ?_
            refine blk_r hK22 ?_
            try obtain rfl := Option.some.inj h
            obtain rfl := Option.some.inj g26
            have h : (some (0, false) : Option (Int × Bool)) = some (0, false) := rfl
            refine cut_r hK21 ?_
            refine seq_r hK14 ?_
            refine fin_r2 hK0 rfl rfl ?_
            try obtain rfl := Option.some.inj h
            exact hP _ hS
          · refine w_skip ?_
            refine blk_n0 hK30 ?_
            refine seq_n hK29 ?_
            refine w_reg gC ?_
            try simp only [W, EE, Nat.reduceAdd]
            exact lp_n hK23 h ⟨rfl, hS⟩
        · refine w_exit ?_
          refine seq_x hK28 ?_
          try obtain rfl := Option.some.inj h
          obtain rfl := hd24 _ rfl
          have h : (some (LR.next ()) : Option (LR Unit (Int × Bool))) = some (LR.next ()) := rfl
          refine lp_x hK23 ?_
          refine blk_e hK22 ?_
          exact cut_n hK21 ⟨(Option.some.inj h).symm, rfl, hS⟩
      · obtain ⟨rfl, rfl, hS⟩ := hq
        replace h := g26
        try dsimp only at h
        refine seq_n hK14 ?_
        refine w_seq fun K44 hK44 => ?_
        refine w_reg gC ?_
        try simp only [W, Nat.reduceAdd]
        refine seq_n hK44 ?_
        refine w_seq fun K45 hK45 => ?_
        refine w_reg gC ?_
        try simp only [W, Nat.reduceAdd]
        refine seq_n hK45 ?_
        refine w_seq fun K46 hK46 => ?_
        refine w_seq fun K47 hK47 => ?_
        refine w_reg gC ?_
        try simp only [W, EE, Nat.reduceAdd]
        refine seq_n hK47 ?_
        obtain ⟨y52, hw53, g59⟩ := Option.bind_eq_some_iff.1 h
        refine w_join gC (fun s H => ∃ x51 : Int, y52 = (x51) ∧ s = [u, u, u, u, u, u, u, u, u, .int .i64 x51, u, u, u, u, u, u, u, u, u, u, u, u, u, u, u, u, u, u, u, u, u, u, u, u, u, u, u, u, u, u, u, u, u, u, u, u, u, u, u, u, u, u, u, u, u, u, u, u, u, u, u, u, u, u, u, u, u, u, u, u, u, u, u, u, u, u, u, u, u, u, u, u, u, u, u, u, u, u, u, u, u, u, u, u] ∧ Own H (F)) (fun K54 hK54 => ?_) (fun s H hq => ?_)
        · refine w_blk fun K55 hK55 => ?_
          refine w_loop gC hw53 (fun x s H => match x with | (x48, x49, x50) => s = [.fz (a0.map (AV.int .i64)), .fz (a1.map (AV.int .i64)), u, u, u, u, .int .i64 x48, u, u, .int .i64 x49, u, u, u, u, u, u, u, u, u, u, u, u, u, u, u, u, u, u, u, u, u, u, u, u, u, u, u, u, u, u, u, u, u, u, u, u, u, u, u, u, u, .int .i64 (a0.length : Int), .int .i64 x50, u, u, u, u, u, u, u, u, u, u, u, u, u, u, u, u, u, u, u, u, u, u, u, u, u, u, u, u, u, u, u, u, u, u, u, u, u, u, u, u, u] ∧ Own H (F)) ⟨rfl, hS⟩ (fun x y58 s H h hd57 hi K56 hK56 => ?_)
          obtain ⟨x48, x49, x50⟩ := x
          try dsimp only at hi
          obtain ⟨rfl, hS⟩ := hi
          simp only [spec_WorstDelay_l2] at h
          refine w_seq fun K60 hK60 => ?_
          refine w_reg gC ?_
          try simp only [W, EE, Nat.reduceAdd]
          refine seq_n hK60 ?_
          refine w_seq fun K61 hK61 => ?_
          refine w_if ?_
          simp only [W]
          refine w_cnd h (fun hc h => ?_) (fun hc h => ?_)
          · refine w_skip ?_
            refine seq_n hK61 ?_
            refine w_seq fun K62 hK62 => ?_
            refine w_blk fun K63 hK63 => ?_
            refine w_seq fun K64 hK64 => ?_
            refine w_reg gC ?_
            try simp only [W, Nat.reduceAdd]
            refine seq_n hK64 ?_
            refine w_seq fun K65 hK65 => ?_
            refine w_reg gC ?_
            try simp only [W, EE, Nat.reduceAdd]
            refine w_fz rfl rfl rfl (fun _ => rfl) h fun b66 hb66 h => ?_
            try simp only [W, EE]
            refine seq_n hK65 ?_
            refine w_seq fun K67 hK67 => ?_
            refine w_reg gC ?_
            try simp only [W, Nat.reduceAdd]
            refine seq_n hK67 ?_
            refine w_seq fun K68 hK68 => ?_
            refine w_reg gC ?_
            try simp only [W, Nat.reduceAdd]
            refine seq_n hK68 ?_
            refine w_seq fun K69 hK69 => ?_
            obtain ⟨y74, hw75, g81⟩ := Option.bind_eq_some_iff.1 h
            refine w_join gC (fun s H => ∃ x72 : Int, ∃ x73 : Int, y74 = (x72, x73) ∧ s = [.fz (a0.map (AV.int .i64)), .fz (a1.map (AV.int .i64)), u, u, u, u, .int .i64 (IntKind.i64.wrap (x48 + b66)), u, u, .int .i64 x49, .int .i64 x50, .int .i64 x72, .int .i64 x73, u, u, u, u, u, u, u, u, u, u, u, u, u, u, u, u, u, u, u, u, u, u, u, u, u, u, u, u, u, u, u, u, u, u, u, u, u, u, .int .i64 (a0.length : Int), .int .i64 x50, u, u, u, u, u, u, u, u, u, u, u, u, u, u, u, u, u, u, u, u, u, u, u, u, u, u, u, u, u, u, u, u, u, u, u, u, u, u, u, u, u] ∧ Own H (F)) (fun K76 hK76 => ?_) (fun s H hq => ?_)
            · refine w_blk fun K77 hK77 => ?_
              refine w_loop gC hw75 (fun x s H => match x with | (x70, x71) => s = [.fz (a0.map (AV.int .i64)), .fz (a1.map (AV.int .i64)), u, u, u, u, .int .i64 (IntKind.i64.wrap (x48 + b66)), u, u, .int .i64 x49, .int .i64 x50, .int .i64 x70, .int .i64 x71, u, u, u, u, u, u, u, u, u, u, u, u, u, u, u, u, u, u, u, u, u, u, u, u, u, u, u, u, u, u, u, u, u, u, u, u, u, u, .int .i64 (a0.length : Int), .int .i64 x50, u, u, u, u, u, u, u, u, u, u, u, u, u, u, u, u, u, u, u, u, u, u, u, u, u, u, u, u, u, u, u, u, u, u, u, u, u, u, u, u, u] ∧ Own H (F)) ⟨rfl, hS⟩ (fun x y80 s H h hd79 hi K78 hK78 => ?_)
              obtain ⟨x70, x71⟩ := x
              try dsimp only at hi
              obtain ⟨rfl, hS⟩ := hi
              simp only [spec_WorstDelay_l1] at h
              refine w_seq fun K82 hK82 => ?_
              refine w_seq fun K83 hK83 => ?_
              obtain ⟨y85, h, g86⟩ := Option.bind_eq_some_iff.1 h
              refine w_join gC (fun s H => ∃ x84 : Bool, y85 = (x84) ∧ s = [.fz (a0.map (AV.int .i64)), .fz (a1.map (AV.int .i64)), u, u, u, u, .int .i64 (IntKind.i64.wrap (x48 + b66)), u, u, .int .i64 x49, .int .i64 x50, .int .i64 x70, .int .i64 x71, u, u, u, u, u, u, u, u, u, u, u, u, u, u, u, u, u, u, u, u, u, u, u, u, u, u, u, u, u, u, u, u, u, u, u, u, u, u, .int .i64 (a0.length : Int), .int .i64 x50, u, u, u, u, u, u, u, u, u, u, u, u, u, u, u, u, .bool x84, u, u, u, u, u, u, u, u, u, u, u, u, u, u, u, u, u, u, u, u, u, u, u, u] ∧ Own H (F)) (fun K87 hK87 => ?_) (fun s H hq => ?_)
              · refine w_seq fun K88 hK88 => ?_
                refine w_reg gC ?_
                try simp only [W, EE, Nat.reduceAdd]
                refine w_grdT h (fun hc h => ?_) (fun hc h => ?_)
                · try simp only [W, EE, reduceIte, hc]
                  refine seq_n hK88 ?_
                  refine w_kill ?_
                  exact cut_n hK87 ⟨_, (Option.some.inj h).symm, rfl, hS⟩
                · try simp only [W, hc]
                  refine seq_n hK88 ?_
                  refine w_kill ?_
                  exact cut_n hK87 ⟨_, (Option.some.inj h).symm, rfl, hS⟩
              · obtain ⟨x84, ey, rfl, hS⟩ := hq; obtain rfl := ey.symm
                replace h := g86
                try dsimp only at h
                refine seq_n hK83 ?_
                refine w_if ?_
                simp only [W]
                refine w_cnd h (fun hc h => ?_) (fun hc h => ?_)
                · refine w_skip ?_
                  refine seq_n hK82 ?_
                  refine w_blk fun K89 hK89 => ?_
                  refine w_seq fun K90 hK90 => ?_
                  refine w_reg gC ?_
                  try simp only [W, EE, Nat.reduceAdd]
                  refine w_fz rfl rfl rfl (fun _ => rfl) h fun b91 hb91 h => ?_
                  try simp only [W, EE]
                  refine seq_n hK90 ?_
                  refine w_reg gC ?_
                  try simp only [W, EE, Nat.reduceAdd]
                  refine blk_n0 hK89 ?_
                  exact lp_n hK78 h ⟨rfl, hS⟩
                · refine w_exit ?_
                  refine seq_x hK82 ?_
                  try obtain rfl := Option.some.inj h
                  obtain rfl := hd79 _ rfl
                  have h : (some (x70, x71) : Option (Int × Int)) = some (x70, x71) := rfl
                  refine lp_x hK78 ?_
                  refine blk_e hK77 ?_
                  exact cut_n hK76 ⟨_, _, (Option.some.inj h).symm, rfl, hS⟩
            · obtain ⟨x72, x73, rfl, rfl, hS⟩ := hq
              replace h := g81
              try dsimp only at h
              refine seq_n hK69 ?_
              refine w_seq fun K94 hK94 => ?_
              refine w_reg gC ?_
              try simp only [W, EE, Nat.reduceAdd]
              refine seq_n hK94 ?_
              refine w_seq fun K95 hK95 => ?_
              refine w_seq fun K96 hK96 => ?_
              refine w_reg gC ?_
              try simp only [W, EE, Nat.reduceAdd]
              refine seq_n hK96 ?_
              obtain ⟨y98, h, g99⟩ := Option.bind_eq_some_iff.1 h
              refine w_join gC (fun s H => ∃ x97 : Int, y98 = (x97) ∧ s = [.fz (a0.map (AV.int .i64)), .fz (a1.map (AV.int .i64)), u, u, u, u, .int .i64 (IntKind.i64.wrap (x48 + b66)), u, u, .int .i64 x49, u, u, u, .int .i64 x97, u, u, u, u, u, u, u, u, u, u, u, u, u, u, u, u, u, u, u, u, u, u, u, u, u, u, u, u, u, u, u, u, u, u, u, u, u, .int .i64 (a0.length : Int), .int .i64 x50, u, u, u, u, u, u, u, u, u, u, u, u, u, u, u, u, u, u, u, u, u, u, u, u, u, u, u, u, u, u, u, u, u, u, u, u, u, u, u, u, u] ∧ Own H (F)) (fun K100 hK100 => ?_) (fun s H hq => ?_)
              · refine w_seq fun K101 hK101 => ?_
                refine w_if ?_
                simp only [W]
                refine w_cnd h (fun hc h => ?_) (fun hc h => ?_)
                · refine w_reg gC ?_
                  try simp only [W, EE, Nat.reduceAdd]
                  refine seq_n hK101 ?_
                  refine w_kill ?_
                  exact cut_n hK100 ⟨_, (Option.some.inj h).symm, rfl, hS⟩
                · refine w_skip ?_
                  refine seq_n hK101 ?_
                  refine w_kill ?_
                  exact cut_n hK100 ⟨_, (Option.some.inj h).symm, rfl, hS⟩
              · obtain ⟨x97, ey, rfl, hS⟩ := hq; obtain rfl := ey.symm
                replace h := g99
                try dsimp only at h
                refine seq_n hK95 ?_
                refine w_reg gC ?_
                try simp only [W, Nat.reduceAdd]
                refine w_call h fun b102 hb102 h => ?_
                refine spec_l1Most_w hb102 hS fun H hS => ?_
                try simp only [W]
                refine blk_n0 hK63 ?_
                refine seq_n hK62 ?_
                refine w_reg gC ?_
                try simp only [W, EE, Nat.reduceAdd]
                exact lp_n hK56 h ⟨rfl, hS⟩
          · refine w_exit ?_
            refine seq_x hK61 ?_
            try obtain rfl := Option.some.inj h
            obtain rfl := hd57 _ rfl
            have h : (some (x49) : Option (Int)) = some (x49) := rfl
            refine lp_x hK56 ?_
            refine blk_e hK55 ?_
            exact cut_n hK54 ⟨_, (Option.some.inj h).symm, rfl, hS⟩
        · obtain ⟨x51, ey, rfl, hS⟩ := hq; obtain rfl := ey.symm
          replace h := g59
          try dsimp only at h
          refine seq_n hK46 ?_
          refine w_seq fun K105 hK105 => ?_
          refine w_reg gC ?_
          try simp only [W, Nat.reduceAdd]
          refine seq_n hK105 ?_
          refine w_ret ?_
          refine fin_r2 hK0 rfl rfl ?_
          try obtain rfl := Option.some.inj h
          exact hP _ hS
theorem laws_sameInts_w {a0 : List Int} {a1 : List Int} {r : (Bool)} (h : laws_sameInts a0 a1 = some r) {F : List It} {H : Heap} (hS : Own H (F)) {P : AV → Heap → Prop} (hP : ∀ H', Own H' (F) → P (.bool r) H') : ACall C 22 [.fz (a0.map (AV.int .i64)), .fz (a1.map (AV.int .i64))] H P := by
  refine acall_of gC (res := [.tmp 4]) (n := 26) rfl rfl rfl rfl fun K0 hK0 => ?_
  simp only [W, Nat.reduceSub, Nat.reduceAdd, List.replicate]
  unfold laws_sameInts at h
  refine w_seq fun K1 hK1 => ?_
  refine w_reg gC ?_
  try simp only [W, Nat.reduceAdd]
  refine seq_n hK1 ?_
  refine w_seq fun K2 hK2 => ?_
  refine w_seq fun K3 hK3 => ?_
  refine w_reg gC ?_
  try simp only [W, EE, Nat.reduceAdd]
  refine seq_n hK3 ?_
  refine w_if ?_
  simp only [W]
  refine w_cnd h (fun hc h => ?_) (fun hc h => ?_)
  · refine w_seq fun K4 hK4 => ?_
    refine w_reg gC ?_
    try simp only [W, Nat.reduceAdd]
    refine seq_n hK4 ?_
    refine w_ret ?_
    refine seq_r hK2 ?_
    refine fin_r1 hK0 rfl ?_
    try obtain rfl := Option.some.inj h
    exact hP _ hS
  · refine w_skip ?_
    refine seq_n hK2 ?_
    refine w_seq fun K5 hK5 => ?_
    refine w_seq fun K6 hK6 => ?_
    refine w_reg gC ?_
    try simp only [W, EE, Nat.reduceAdd]
    refine seq_n hK6 ?_
    obtain ⟨y8, hw9, g15⟩ := Option.bind_eq_some_iff.1 h
    refine w_join gC (fun s H => y8 = LR.next () ∧ s = [u, u, u, u, u, u, u, u, u, u, u, u, u, u, u, u, u, u, u, u, u, u, u, u, u, u] ∧ Own H (F)) (fun K10 hK10 => ?_) (fun s H hq => ?_)
    · refine w_blk fun K11 hK11 => ?_
      refine w_loop gC hw9 (fun x s H => s = [.fz (a0.map (AV.int .i64)), .fz (a1.map (AV.int .i64)), u, u, u, u, u, u, u, u, u, u, .int .i64 (a0.length : Int), .int .i64 x, u, u, u, u, u, u, u, u, u, u, u, u] ∧ Own H (F)) ⟨rfl, hS⟩ (fun x7 y14 s H h hd13 hi K12 hK12 => ?_)
      skip
      try dsimp only at hi
      obtain ⟨rfl, hS⟩ := hi
      simp only [laws_sameInts_l0] at h
      refine w_seq fun K16 hK16 => ?_
      refine w_reg gC ?_
      try simp only [W, EE, Nat.reduceAdd]
      refine seq_n hK16 ?_
      refine w_seq fun K17 hK17 => ?_
      refine w_if ?_
      simp only [W]
      refine w_cnd h (fun hc h => ?_) (fun hc h => ?_)
      · refine w_skip ?_
        refine seq_n hK17 ?_
        refine w_seq fun K18 hK18 => ?_
        refine w_blk fun K19 hK19 => ?_
        refine w_seq fun K20 hK20 => ?_
        refine w_reg gC ?_
        try simp only [W, Nat.reduceAdd]
        refine seq_n hK20 ?_
        refine w_seq fun K21 hK21 => ?_
        refine w_draw0 gC (by kernel_rfl) ?_
        try simp only [W, EE, Nat.reduceAdd]
        refine w_fz rfl rfl rfl (fun _ => rfl) h fun b22 hb22 h => ?_
        try simp only [W, EE]
        refine w_fz rfl rfl rfl (fun _ => rfl) h fun b23 hb23 h => ?_
        try simp only [W, EE]
        refine seq_n hK21 ?_
        refine w_if ?_
        simp only [W]
        refine w_cnd h (fun hc h => ?_) (fun hc h => ?_)
        · refine w_seq fun K24 hK24 => ?_
          refine w_reg gC ?_
          try simp only [W, Nat.reduceAdd]
          refine seq_n hK24 ?_
          refine w_ret ?_
          refine blk_r hK19 ?_
          refine seq_r hK18 ?_
          try obtain rfl := Option.some.inj h
          obtain rfl := hd13 _ rfl
          have h : (some (LR.done false) : Option (LR Unit (Bool))) = some (LR.done false) := rfl
          refine lp_r hK12 ?_
          refine blk_r hK11 ?_
          try obtain rfl := Option.some.inj h
          obtain rfl := Option.some.inj g15
          have h : (some false : Option (Bool)) = some false := rfl
          refine cut_r hK10 ?_
          refine seq_r hK5 ?_
          refine fin_r1 hK0 rfl ?_
          try obtain rfl := Option.some.inj h
          exact hP _ hS
        · refine w_skip ?_
          refine blk_n0 hK19 ?_
          refine seq_n hK18 ?_
          refine w_reg gC ?_
          try simp only [W, EE, Nat.reduceAdd]
          exact lp_n hK12 h ⟨rfl, hS⟩
      · refine w_exit ?_
        refine seq_x hK17 ?_
        try obtain rfl := Option.some.inj h
        obtain rfl := hd13 _ rfl
        have h : (some (LR.next ()) : Option (LR Unit (Bool))) = some (LR.next ()) := rfl
        refine lp_x hK12 ?_
        refine blk_e hK11 ?_
        exact cut_n hK10 ⟨(Option.some.inj h).symm, rfl, hS⟩
    · obtain ⟨rfl, rfl, hS⟩ := hq
      replace h := g15
      try dsimp only at h
      refine seq_n hK5 ?_
      refine w_seq fun K31 hK31 => ?_
      refine w_reg gC ?_
      try simp only [W, Nat.reduceAdd]
      refine seq_n hK31 ?_
      refine w_ret ?_
      refine fin_r1 hK0 rfl ?_
      try obtain rfl := Option.some.inj h
      exact hP _ hS
theorem laws_FnDelays_w {a0 : List Int} {a1 : List Int} {r : (Bool)} (h : laws_FnDelays a0 a1 = some r) {F : List It} {H : Heap} (hS : Own H (F)) {P : AV → Heap → Prop} (hP : ∀ H', Own H' (F) → P (.bool r) H') : ACall C 10 [.fz (a0.map (AV.int .u8)), .fz (a1.map (AV.int .u8))] H P := by
  refine acall_of gC (res := [.tmp 4]) (n := 173) rfl rfl rfl rfl fun K0 hK0 => ?_
  simp only [W, Nat.reduceSub, Nat.reduceAdd, List.replicate]
  unfold laws_FnDelays at h
  refine w_seq fun K1 hK1 => ?_
  refine w_reg gC ?_
  try simp only [W, Nat.reduceAdd]
  refine seq_n hK1 ?_
  refine w_seq fun K2 hK2 => ?_
  refine w_seq fun K3 hK3 => ?_
  refine w_reg gC ?_
  try simp only [W, EE, Nat.reduceAdd]
  refine seq_n hK3 ?_
  refine w_if ?_
  simp only [W]
  refine w_cnd h (fun hc h => ?_) (fun hc h => ?_)
  · refine w_seq fun K4 hK4 => ?_
    refine w_reg gC ?_
    try simp only [W, Nat.reduceAdd]
    refine seq_n hK4 ?_
    refine w_ret ?_
    refine seq_r hK2 ?_
    refine fin_r1 hK0 rfl ?_
    try obtain rfl := Option.some.inj h
    exact hP _ hS
  · refine w_skip ?_
    refine seq_n hK2 ?_
    refine w_seq fun K5 hK5 => ?_
    refine w_reg gC ?_
    try simp only [W, Nat.reduceAdd]
    refine w_call h fun b6 hb6 h => ?_
    obtain ⟨b7, b8, b9⟩ := b6
    try dsimp only at h
    refine spec_DrawConforms_w hb6 hS fun v10 qv10 H hS => ?_
    try simp only [W]
    refine seq_n hK5 ?_
    refine w_seq fun K12 hK12 => ?_
    refine w_reg gC ?_
    try simp only [W, Nat.reduceAdd]
    refine w_callS (rsh := [[.sc], [.sc]]) (ys := [.int .i64 b7, .int .i64 b8, .fz (b9.map (AV.int .i64))]) h rfl (pv_c rfl (pv_c rfl (pv_c (sn_ow hS 0 rfl qv10 (fun _ => rfl)) pv_n))) fun b13 hb13 h => ⟨.tup [.bool b13.1, .bool b13.2], impl_Conforms_w hb13 (Own.nil _) fun H hS => TV_ok rfl (TV_p rfl (TV_p rfl (TV_n rfl))), ⟨rfl, rfl, fun _ => rfl⟩, ?_⟩
    obtain ⟨b14, b15⟩ := b13
    try dsimp only at h
    try simp only [W]
    refine seq_n hK12 ?_
    refine w_seq fun K16 hK16 => ?_
    refine w_reg gC ?_
    try simp only [W, Nat.reduceAdd]
    refine w_callS (rsh := [[.sc], [.sc]]) (ys := [.int .i64 b7, .int .i64 b8, .fz (b9.map (AV.int .i64))]) h rfl (pv_c rfl (pv_c rfl (pv_c (sn_ow hS 0 rfl qv10 (fun _ => rfl)) pv_n))) fun b17 hb17 h => ⟨.tup [.bool b17.1, .bool b17.2], spec_Conforms_w hb17 (Own.nil _) fun H hS => TV_ok rfl (TV_p rfl (TV_p rfl (TV_n rfl))), ⟨rfl, rfl, fun _ => rfl⟩, ?_⟩
    obtain ⟨b18, b19⟩ := b17
    try dsimp only at h
    try simp only [W]
    refine seq_n hK16 ?_
    refine w_seq fun K20 hK20 => ?_
    refine w_seq fun K21 hK21 => ?_
    obtain ⟨y23, h, g24⟩ := Option.bind_eq_some_iff.1 h
    refine w_join gC (fun s H => ∃ x22 : Bool, y23 = (x22) ∧ s = [u, .fz (a1.map (AV.int .u8)), u, u, u, .int .i64 b7, .int .i64 b8, v10, .bool b14, .bool b15, u, u, u, u, u, u, u, u, u, u, u, u, u, u, u, u, u, u, u, u, u, u, u, u, u, u, u, u, u, u, u, u, u, u, u, u, u, u, u, u, u, u, u, u, u, u, u, u, u, u, u, u, u, u, u, u, u, .bool x22, u, u, u, u, u, u, u, u, u, u, u, u, u, u, u, u, u, u, u, u, u, u, u, u, u, u, u, u, u, u, u, u, u, u, u, u, u, u, u, u, u, u, u, u, u, u, u, u, u, u, u, u, u, u, u, u, u, u, u, u, u, u, u, u, u, u, u, u, u, u, u, u, u, u, u, u, u, u, u, u, u, u, u, u, u, u, u, u, u, u, u, u, u, u, u, u, u, u, u, u, u, u, u, u, u] ∧ Own H (⟨v10, 1, b9.map (AV.int .i64)⟩ :: F)) (fun K25 hK25 => ?_) (fun s H hq => ?_)
    · refine w_seq fun K26 hK26 => ?_
      refine w_reg gC ?_
      try simp only [W, EE, Nat.reduceAdd]
      rw [b_bneq _ _ _ _ (h := rfl) rfl, resV_s]
      try simp only [W]
      refine w_grdT h (fun hc h => ?_) (fun hc h => ?_)
      · try simp only [W, hc]
        refine seq_n hK26 ?_
        refine w_kill ?_
        exact cut_n hK25 ⟨_, (Option.some.inj h).symm, rfl, hS⟩
      · try simp only [W, EE, hc]
        rw [b_bneq _ _ _ _ (h := rfl) rfl, resV_s]
        try simp only [W, reduceIte, Bool.false_eq_true]
        refine seq_n hK26 ?_
        refine w_kill ?_
        exact cut_n hK25 ⟨_, (Option.some.inj h).symm, rfl, hS⟩
    · obtain ⟨x22, ey, rfl, hS⟩ := hq; obtain rfl := ey.symm
      replace h := g24
      try dsimp only at h
      refine seq_n hK21 ?_
      refine w_if ?_
      simp only [W]
      refine w_cnd h (fun hc h => ?_) (fun hc h => ?_)
      · refine w_seq fun K27 hK27 => ?_
        refine w_reg gC ?_
        try simp only [W, Nat.reduceAdd]
        refine seq_n hK27 ?_
        refine w_ret ?_
        refine seq_r hK20 ?_
        refine fin_r1 hK0 rfl ?_
        try obtain rfl := Option.some.inj h
        exact hP _ (hS.sel 1 [] (by decide))
      · refine w_skip ?_
        refine seq_n hK20 ?_
        refine w_seq fun K28 hK28 => ?_
        refine w_seq fun K29 hK29 => ?_
        obtain ⟨y31, h, g32⟩ := Option.bind_eq_some_iff.1 h
        refine w_join gC (fun s H => ∃ x30 : Bool, y31 = (x30) ∧ s = [u, .fz (a1.map (AV.int .u8)), u, u, u, .int .i64 b7, .int .i64 b8, v10, u, u, u, u, u, u, u, u, u, u, u, u, u, u, u, u, u, u, u, u, u, u, u, u, u, u, u, u, u, u, u, u, u, u, u, u, u, u, u, u, u, u, u, u, u, u, u, u, u, u, u, u, u, u, u, u, u, u, u, u, u, u, u, .bool x30, u, u, u, u, u, u, u, u, u, u, u, u, u, u, u, u, u, u, u, u, u, u, u, u, u, u, u, u, u, u, u, u, u, u, u, u, u, u, u, u, u, u, u, u, u, u, u, u, u, u, u, u, u, u, u, u, u, u, u, u, u, u, u, u, u, u, u, u, u, u, u, u, u, u, u, u, u, u, u, u, u, u, u, u, u, u, u, u, u, u, u, u, u, u, u, u, u, u, u, u, u] ∧ Own H (⟨v10, 1, b9.map (AV.int .i64)⟩ :: F)) (fun K33 hK33 => ?_) (fun s H hq => ?_)
        · refine w_seq fun K34 hK34 => ?_
          refine w_reg gC ?_
          try simp only [W, Nat.reduceAdd]
          refine w_grdT h (fun hc h => ?_) (fun hc h => ?_)
          · try simp only [W, reduceIte, hc]
            refine seq_n hK34 ?_
            refine w_kill ?_
            exact cut_n hK33 ⟨_, (Option.some.inj h).symm, rfl, hS⟩
          · try simp only [W, hc]
            refine seq_n hK34 ?_
            refine w_kill ?_
            exact cut_n hK33 ⟨_, (Option.some.inj h).symm, rfl, hS⟩
        · obtain ⟨x30, ey, rfl, hS⟩ := hq; obtain rfl := ey.symm
          replace h := g32
          try dsimp only at h
          refine seq_n hK29 ?_
          obtain ⟨y35, h, g36⟩ := Option.bind_eq_some_iff.1 h
          refine w_join gC (fun s H => y35 = LR.next () ∧ s = [u, .fz (a1.map (AV.int .u8)), u, u, u, u, u, u, u, u, u, u, u, u, u, u, u, u, u, u, u, u, u, u, u, u, u, u, u, u, u, u, u, u, u, u, u, u, u, u, u, u, u, u, u, u, u, u, u, u, u, u, u, u, u, u, u, u, u, u, u, u, u, u, u, u, u, u, u, u, u, u, u, u, u, u, u, u, u, u, u, u, u, u, u, u, u, u, u, u, u, u, u, u, u, u, u, u, u, u, u, u, u, u, u, u, u, u, u, u, u, u, u, u, u, u, u, u, u, u, u, u, u, u, u, u, u, u, u, u, u, u, u, u, u, u, u, u, u, u, u, u, u, u, u, u, u, u, u, u, u, u, u, u, u, u, u, u, u, u, u, u, u, u, u, u, u, u, u, u, u, u, u] ∧ Own H (F)) (fun K37 hK37 => ?_) (fun s H hq => ?_)
          · refine w_seq fun K38 hK38 => ?_
            refine w_if ?_
            simp only [W]
            refine w_cnd h (fun hc h => ?_) (fun hc h => ?_)
            · refine w_seq fun K39 hK39 => ?_
              refine w_reg gC ?_
              try simp only [W, Nat.reduceAdd]
              refine w_call h fun b40 hb40 h => ?_
              refine laws_numberOf_w hb40 hS fun H hS => ?_
              try simp only [W, EE]
              rw [md_lit _ _ rfl, Option.map_some, resV_s]
              try simp only [W, EE]
              refine seq_n hK39 ?_
              refine w_seq fun K41 hK41 => ?_
              refine w_reg gC ?_
              try simp only [W, Nat.reduceAdd, Nat.reduceBEq, List.contains_cons, Nat.reduceBEq, Bool.or_self]
              refine w_callO (rsh := [[.sl [.sc]], [.sl [.sc]], [.sc]]) (ys := [.fz (b9.map (AV.int .i64)), .int .i64 (IntKind.i64.wrap (b7 + (Int.tmod b40 10)))]) h rfl (pv_c (sn_ow hS 0 rfl qv10 (fun _ => rfl)) (pv_c rfl pv_n)) fun b42 hb42 h => ⟨.tup [.own 1 (b42.1.map (AV.int .i64)), .own 1 (b42.2.1.map (AV.int .i64)), .bool b42.2.2], impl_PassThrough_w hb42 (Own.nil _) fun v46 qv46 v47 qv47 H hS => TV_ok rfl (TV_o 0 hS rfl qv46 (fun _ _ => by simp [takeE, takeT, plainA]) fun H hS => TV_o 0 hS rfl qv47 (fun _ _ => by simp [takeE, takeT, plainA]) fun H hS => TV_p rfl (TV_n rfl)), (nf_t (nf_c (noFz_o _ (fun _ => rfl) _) (nf_c (noFz_o _ (fun _ => rfl) _) (nf_c rfl nf_n)))), ?_⟩
              refine thaw_tup ?_
              refine TH_o hS (fun _ _ => rfl) (fun _ => rfl) fun v49 H qv49 hS => ?_
              refine TH_o hS (fun _ _ => rfl) (fun _ => rfl) fun v51 H qv51 hS => ?_
              refine TH_p (fun _ => rfl) ?_
              refine TH_n ?_
              try simp only [List.headD_cons]
              obtain ⟨b43, b44, b45⟩ := b42
              try dsimp only at h
              try simp only [W]
              refine seq_n hK41 ?_
              refine w_seq fun K52 hK52 => ?_
              refine w_reg gC ?_
              try simp only [W, Nat.reduceAdd]
              refine w_callS (rsh := [[.sc], [.sc]]) (ys := [.fz (b9.map (AV.int .i64)), .fz (b43.map (AV.int .i64))]) h rfl (pv_c (sn_ow hS 2 rfl qv10 (fun _ => rfl)) (pv_c (sn_ow hS 1 rfl qv49 (fun _ => rfl)) pv_n)) fun b53 hb53 h => ⟨.tup [.int .i64 b53.1, .bool b53.2], impl_WorstDelay_w hb53 (Own.nil _) fun H hS => TV_ok rfl (TV_p rfl (TV_p rfl (TV_n rfl))), ⟨rfl, rfl, fun _ => rfl⟩, ?_⟩
              obtain ⟨b54, b55⟩ := b53
              try dsimp only at h
              try simp only [W]
              refine seq_n hK52 ?_
              refine w_seq fun K56 hK56 => ?_
              refine w_seq fun K57 hK57 => ?_
              obtain ⟨y59, h, g60⟩ := Option.bind_eq_some_iff.1 h
              refine w_join gC (fun s H => ∃ x58 : Bool, y59 = (x58) ∧ s = [u, .fz (a1.map (AV.int .u8)), u, u, u, u, .int .i64 b8, u, u, u, u, u, u, u, v51, u, u, u, u, u, u, u, u, u, u, u, u, u, u, u, u, u, u, u, u, u, u, u, u, u, u, u, u, u, u, u, u, u, u, u, u, u, u, u, u, u, u, u, u, u, u, u, u, u, u, u, u, u, u, u, u, u, u, u, u, u, u, u, u, u, u, u, u, u, u, u, u, u, u, u, u, u, u, u, u, u, u, u, u, u, u, u, u, .bool x58, u, u, u, u, u, u, u, u, u, u, u, u, u, u, u, u, u, u, u, u, u, u, u, u, u, u, u, u, u, u, u, u, u, u, u, u, u, u, u, u, u, u, u, u, u, u, u, u, u, u, u, u, u, u, u, u, u, u, u, u, u, u, u, u, u, u, u, u, u] ∧ Own H (⟨v51, 1, b44.map (AV.int .i64)⟩ :: F)) (fun K61 hK61 => ?_) (fun s H hq => ?_)
              · refine w_seq fun K62 hK62 => ?_
                refine w_reg gC ?_
                try simp only [W, Nat.reduceAdd]
                refine w_grdT h (fun hc h => ?_) (fun hc h => ?_)
                · try simp only [W, hc]
                  refine seq_n hK62 ?_
                  refine w_kill ?_
                  exact cut_n hK61 ⟨_, (Option.some.inj h).symm, rfl, (hS.sel 3 [0] (by decide))⟩
                · try simp only [W, reduceIte, Bool.false_eq_true, hc]
                  refine w_grdT h (fun hc h => ?_) (fun hc h => ?_)
                  · try simp only [W, hc]
                    refine seq_n hK62 ?_
                    refine w_kill ?_
                    exact cut_n hK61 ⟨_, (Option.some.inj h).symm, rfl, (hS.sel 3 [0] (by decide))⟩
                  · try simp only [W, EE, hc]
                    refine w_num _ h fun x63 hx63 h => ?_
                    try simp only [W, EE, reduceIte, Bool.false_eq_true]
                    refine seq_n hK62 ?_
                    refine w_kill ?_
                    exact cut_n hK61 ⟨_, (Option.some.inj h).symm, rfl, (hS.sel 3 [0] (by decide))⟩
              · obtain ⟨x58, ey, rfl, hS⟩ := hq; obtain rfl := ey.symm
                replace h := g60
                try dsimp only at h
                refine seq_n hK57 ?_
                refine w_if ?_
                simp only [W]
                refine w_cnd h (fun hc h => ?_) (fun hc h => ?_)
                · refine w_seq fun K64 hK64 => ?_
                  refine w_reg gC ?_
                  try simp only [W, Nat.reduceAdd]
                  refine seq_n hK64 ?_
                  refine w_ret ?_
                  refine seq_r hK56 ?_
                  refine seq_r hK38 ?_
                  try obtain rfl := Option.some.inj h
                  obtain rfl := Option.some.inj g36
                  have h : (some false : Option (Bool)) = some false := rfl
                  refine cut_r hK37 ?_
                  refine seq_r hK28 ?_
                  refine fin_r1 hK0 rfl ?_
                  try obtain rfl := Option.some.inj h
                  exact hP _ (hS.sel 1 [] (by decide))
                · refine w_skip ?_
                  refine seq_n hK56 ?_
                  refine w_seq fun K67 hK67 => ?_
                  refine w_reg gC ?_
                  try simp only [W, EE, Nat.reduceAdd]
                  refine w_len 0 hS rfl qv51 rfl ?_
                  try simp only [W]
                  refine seq_n hK67 ?_
                  obtain ⟨y69, hw70, g76⟩ := Option.bind_eq_some_iff.1 h
                  refine w_join gC (fun s H => y69 = LR.next () ∧ s = [u, .fz (a1.map (AV.int .u8)), u, u, u, u, u, u, u, u, u, u, u, u, u, u, u, u, u, u, u, u, u, u, u, u, u, u, u, u, u, u, u, u, u, u, u, u, u, u, u, u, u, u, u, u, u, u, u, u, u, u, u, u, u, u, u, u, u, u, u, u, u, u, u, u, u, u, u, u, u, u, u, u, u, u, u, u, u, u, u, u, u, u, u, u, u, u, u, u, u, u, u, u, u, u, u, u, u, u, u, u, u, u, u, u, u, u, u, u, u, u, u, u, u, u, u, u, u, u, u, u, u, u, u, u, u, u, u, u, u, u, u, u, u, u, u, u, u, u, u, u, u, u, u, u, u, u, u, u, u, u, u, u, u, u, u, u, u, u, u, u, u, u, u, u, u, u, u, u, u, u, u] ∧ Own H (F)) (fun K71 hK71 => ?_) (fun s H hq => ?_)
                  · refine w_blk fun K72 hK72 => ?_
                    refine w_loop gC hw70 (fun x s H => s = [u, .fz (a1.map (AV.int .u8)), u, u, u, u, .int .i64 b8, u, u, u, u, u, u, u, u, u, u, u, u, u, u, u, u, u, u, u, u, u, u, u, u, u, u, u, u, u, u, u, u, u, u, u, u, u, u, u, u, u, u, u, u, u, u, u, u, u, u, u, u, u, u, u, u, u, u, u, u, u, u, u, u, u, u, u, u, u, u, u, u, u, u, u, u, u, u, u, u, u, u, u, u, u, u, u, u, u, u, u, u, u, u, u, u, u, v51, .int .i64 (b44.length : Int), .int .i64 x, u, u, u, u, u, u, u, u, u, u, u, u, u, u, u, u, u, u, u, u, u, u, u, u, u, u, u, u, u, u, u, u, u, u, u, u, u, u, u, u, u, u, u, u, u, u, u, u, u, u, u, u, u, u, u, u, u, u, u, u, u, u, u, u, u, u] ∧ Own H (⟨v51, 1, b44.map (AV.int .i64)⟩ :: F)) ⟨rfl, hS⟩ (fun x68 y75 s H h hd74 hi K73 hK73 => ?_)
                    skip
                    try dsimp only at hi
                    obtain ⟨rfl, hS⟩ := hi
                    simp only [laws_FnDelays_l0] at h
                    refine w_seq fun K77 hK77 => ?_
                    refine w_reg gC ?_
                    try simp only [W, EE, Nat.reduceAdd]
                    refine seq_n hK77 ?_
                    refine w_seq fun K78 hK78 => ?_
                    refine w_if ?_
                    simp only [W]
                    refine w_cnd h (fun hc h => ?_) (fun hc h => ?_)
                    · refine w_skip ?_
                      refine seq_n hK78 ?_
                      refine w_seq fun K79 hK79 => ?_
                      refine w_blk fun K80 hK80 => ?_
                      refine w_seq fun K81 hK81 => ?_
                      refine w_reg gC ?_
                      try simp only [W, EE, Nat.reduceAdd]
                      refine w_ow 0 hS rfl rfl rfl rfl rfl h (fun b82 in83 wn83 on83 hb82 h en83 => ?_) qv51.ne
                      obtain ⟨kn83, hbn83, hen83⟩ := hS.elem 0 rfl en83 hb82
                      try simp only [W, EE, hbn83, hen83]
                      refine seq_n hK81 ?_
                      refine w_seq fun K84 hK84 => ?_
                      refine w_reg gC ?_
                      try simp only [W, EE, Nat.reduceAdd]
                      refine seq_n hK84 ?_
                      refine w_if ?_
                      simp only [W]
                      refine w_cnd h (fun hc h => ?_) (fun hc h => ?_)
                      · refine w_seq fun K85 hK85 => ?_
                        refine w_reg gC ?_
                        try simp only [W, Nat.reduceAdd]
                        refine seq_n hK85 ?_
                        refine w_ret ?_
                        refine blk_r hK80 ?_
                        refine seq_r hK79 ?_
                        try obtain rfl := Option.some.inj h
                        obtain rfl := hd74 _ rfl
                        have h : (some (LR.done (LR.done false)) : Option (LR Unit (LR Unit (Bool)))) = some (LR.done (LR.done false)) := rfl
                        refine lp_r hK73 ?_
                        refine blk_r hK72 ?_
                        try obtain rfl := Option.some.inj h
                        obtain rfl := Option.some.inj g76
                        have h : (some (LR.done false) : Option (LR Unit (Bool))) = some (LR.done false) := rfl
                        refine cut_r hK71 ?_
                        refine seq_r hK38 ?_
                        try obtain rfl := Option.some.inj h
                        obtain rfl := Option.some.inj g36
                        have h : (some false : Option (Bool)) = some false := rfl
                        refine cut_r hK37 ?_
                        refine seq_r hK28 ?_
                        refine fin_r1 hK0 rfl ?_
                        try obtain rfl := Option.some.inj h
                        exact hP _ (hS.sel 1 [] (by decide))
                      · refine w_skip ?_
                        refine blk_n0 hK80 ?_
                        refine seq_n hK79 ?_
                        refine w_reg gC ?_
                        try simp only [W, EE, Nat.reduceAdd]
                        exact lp_n hK73 h ⟨rfl, hS⟩
                    · refine w_exit ?_
                      refine seq_x hK78 ?_
                      try obtain rfl := Option.some.inj h
                      obtain rfl := hd74 _ rfl
                      have h : (some (LR.next ()) : Option (LR Unit (LR Unit (Bool)))) = some (LR.next ()) := rfl
                      refine lp_x hK73 ?_
                      refine blk_e hK72 ?_
                      exact cut_n hK71 ⟨(Option.some.inj h).symm, rfl, (hS.sel 1 [] (by decide))⟩
                  · obtain ⟨rfl, rfl, hS⟩ := hq
                    replace h := g76
                    try dsimp only at h
                    refine seq_n hK38 ?_
                    refine w_kill ?_
                    exact cut_n hK37 ⟨(Option.some.inj h).symm, rfl, hS⟩
            · refine w_skip ?_
              refine seq_n hK38 ?_
              refine w_kill ?_
              exact cut_n hK37 ⟨(Option.some.inj h).symm, rfl, (hS.sel 1 [] (by decide))⟩
          · obtain ⟨rfl, rfl, hS⟩ := hq
            replace h := g36
            try dsimp only at h
            refine seq_n hK28 ?_
            refine w_seq fun K94 hK94 => ?_
            refine w_reg gC ?_
            try simp only [W, Nat.reduceAdd]
            refine w_call h fun b95 hb95 h => ?_
            obtain ⟨b96, b97⟩ := b95
            try dsimp only at h
            refine spec_DrawPassThrough_w hb95 hS fun v98 qv98 H hS => ?_
            try simp only [W]
            refine seq_n hK94 ?_
            refine w_seq fun K100 hK100 => ?_
            refine w_reg gC ?_
            try simp only [W, Nat.reduceAdd, Nat.reduceBEq, List.contains_cons, Nat.reduceBEq, Bool.or_self]
            refine w_callO (rsh := [[.sl [.sc]], [.sl [.sc]], [.sc]]) (ys := [.fz (b96.map (AV.int .i64)), .int .i64 b97]) h rfl (pv_c (sn_ow hS 0 rfl qv98 (fun _ => rfl)) (pv_c rfl pv_n)) fun b101 hb101 h => ⟨.tup [.own 1 (b101.1.map (AV.int .i64)), .own 1 (b101.2.1.map (AV.int .i64)), .bool b101.2.2], impl_PassThrough_w hb101 (Own.nil _) fun v105 qv105 v106 qv106 H hS => TV_ok rfl (TV_o 0 hS rfl qv105 (fun _ _ => by simp [takeE, takeT, plainA]) fun H hS => TV_o 0 hS rfl qv106 (fun _ _ => by simp [takeE, takeT, plainA]) fun H hS => TV_p rfl (TV_n rfl)), (nf_t (nf_c (noFz_o _ (fun _ => rfl) _) (nf_c (noFz_o _ (fun _ => rfl) _) (nf_c rfl nf_n)))), ?_⟩
            refine thaw_tup ?_
            refine TH_o hS (fun _ _ => rfl) (fun _ => rfl) fun v108 H qv108 hS => ?_
            refine TH_o hS (fun _ _ => rfl) (fun _ => rfl) fun v110 H qv110 hS => ?_
            refine TH_p (fun _ => rfl) ?_
            refine TH_n ?_
            try simp only [List.headD_cons]
            obtain ⟨b102, b103, b104⟩ := b101
            try dsimp only at h
            try simp only [W]
            refine seq_n hK100 ?_
            refine w_seq fun K111 hK111 => ?_
            refine w_reg gC ?_
            try simp only [W, Nat.reduceAdd, Nat.reduceBEq, List.contains_cons, Nat.reduceBEq, Bool.or_self]
            refine w_callO (rsh := [[.sl [.sc]], [.sl [.sc]], [.sc]]) (ys := [.fz (b96.map (AV.int .i64)), .int .i64 b97]) h rfl (pv_c (sn_ow hS 2 rfl qv98 (fun _ => rfl)) (pv_c rfl pv_n)) fun b112 hb112 h => ⟨.tup [.own 1 (b112.1.map (AV.int .i64)), .own 1 (b112.2.1.map (AV.int .i64)), .bool b112.2.2], spec_PassThrough_w hb112 (Own.nil _) fun v116 qv116 v117 qv117 H hS => TV_ok rfl (TV_o 0 hS rfl qv116 (fun _ _ => by simp [takeE, takeT, plainA]) fun H hS => TV_o 0 hS rfl qv117 (fun _ _ => by simp [takeE, takeT, plainA]) fun H hS => TV_p rfl (TV_n rfl)), (nf_t (nf_c (noFz_o _ (fun _ => rfl) _) (nf_c (noFz_o _ (fun _ => rfl) _) (nf_c rfl nf_n)))), ?_⟩
            refine thaw_tup ?_
            refine TH_o hS (fun _ _ => rfl) (fun _ => rfl) fun v119 H qv119 hS => ?_
            refine TH_o hS (fun _ _ => rfl) (fun _ => rfl) fun v121 H qv121 hS => ?_
            refine TH_p (fun _ => rfl) ?_
            refine TH_n ?_
            try simp only [List.headD_cons]
            obtain ⟨b113, b114, b115⟩ := b112
            try dsimp only at h
            try simp only [W]
            refine seq_n hK111 ?_
            refine w_seq fun K122 hK122 => ?_
            refine w_reg gC ?_
            try simp only [W, Nat.reduceAdd]
            refine w_call h fun b123 hb123 h => ?_
            obtain ⟨b124, b125⟩ := b123
            try dsimp only at h
            refine spec_DrawWorstDelay_w hb123 hS fun v126 qv126 v128 qv128 H hS => ?_
            try simp only [W]
            refine seq_n hK122 ?_
            refine w_seq fun K130 hK130 => ?_
            refine w_reg gC ?_
            try simp only [W, Nat.reduceAdd]
            refine w_callS (rsh := [[.sc], [.sc]]) (ys := [.fz (b124.map (AV.int .i64)), .fz (b125.map (AV.int .i64))]) h rfl (pv_c (sn_ow hS 0 rfl qv126 (fun _ => rfl)) (pv_c (sn_ow hS 1 rfl qv128 (fun _ => rfl)) pv_n)) fun b131 hb131 h => ⟨.tup [.int .i64 b131.1, .bool b131.2], impl_WorstDelay_w hb131 (Own.nil _) fun H hS => TV_ok rfl (TV_p rfl (TV_p rfl (TV_n rfl))), ⟨rfl, rfl, fun _ => rfl⟩, ?_⟩
            obtain ⟨b132, b133⟩ := b131
            try dsimp only at h
            try simp only [W]
            refine seq_n hK130 ?_
            refine w_seq fun K134 hK134 => ?_
            refine w_reg gC ?_
            try simp only [W, Nat.reduceAdd]
            refine w_callS (rsh := [[.sc], [.sc]]) (ys := [.fz (b124.map (AV.int .i64)), .fz (b125.map (AV.int .i64))]) h rfl (pv_c (sn_ow hS 0 rfl qv126 (fun _ => rfl)) (pv_c (sn_ow hS 1 rfl qv128 (fun _ => rfl)) pv_n)) fun b135 hb135 h => ⟨.tup [.int .i64 b135.1, .bool b135.2], spec_WorstDelay_w hb135 (Own.nil _) fun H hS => TV_ok rfl (TV_p rfl (TV_p rfl (TV_n rfl))), ⟨rfl, rfl, fun _ => rfl⟩, ?_⟩
            obtain ⟨b136, b137⟩ := b135
            try dsimp only at h
            try simp only [W]
            refine seq_n hK134 ?_
            refine w_seq fun K138 hK138 => ?_
            refine w_reg gC ?_
            try simp only [W, EE, Nat.reduceAdd]
            rw [b_beql _ _ _ _ (h := rfl) rfl, resV_s]
            try simp only [W]
            refine w_grdT h (fun hc h => ?_) (fun hc h => ?_)
            · try simp only [W, hc]
              refine w_callS (rsh := [[.sc]]) (ys := [.fz (b102.map (AV.int .i64)), .fz (b113.map (AV.int .i64))]) h rfl (pv_c (sn_ow hS 5 rfl qv108 (fun _ => rfl)) (pv_c (sn_ow hS 3 rfl qv119 (fun _ => rfl)) pv_n)) fun b139 hb139 h => ⟨.bool b139, laws_sameInts_w hb139 (Own.nil _) fun H hS => TV_ok rfl (TV_p rfl (TV_n rfl)), ⟨rfl, rfl, fun _ => rfl⟩, ?_⟩
              try simp only [W, reduceIte]
              refine w_grdT h (fun hc h => ?_) (fun hc h => ?_)
              · try simp only [W, hc]
                refine w_callS (rsh := [[.sc]]) (ys := [.fz (b103.map (AV.int .i64)), .fz (b114.map (AV.int .i64))]) h rfl (pv_c (sn_ow hS 4 rfl qv110 (fun _ => rfl)) (pv_c (sn_ow hS 2 rfl qv121 (fun _ => rfl)) pv_n)) fun b140 hb140 h => ⟨.bool b140, laws_sameInts_w hb140 (Own.nil _) fun H hS => TV_ok rfl (TV_p rfl (TV_n rfl)), ⟨rfl, rfl, fun _ => rfl⟩, ?_⟩
                try simp only [W, reduceIte]
                refine w_grdT h (fun hc h => ?_) (fun hc h => ?_)
                · try simp only [W, EE, hc]
                  rw [b_beql _ _ _ _ (h := rfl) rfl, resV_s]
                  try simp only [W, reduceIte]
                  refine w_grdT h (fun hc h => ?_) (fun hc h => ?_)
                  · try simp only [W, EE, reduceIte, hc]
                    refine seq_n hK138 ?_
                    refine w_ret ?_
                    refine fin_r1 hK0 rfl ?_
                    try obtain rfl := Option.some.inj h
                    exact hP _ (hS.sel 7 [] (by decide))
                  · try simp only [W, hc]
                    refine seq_n hK138 ?_
                    refine w_ret ?_
                    refine fin_r1 hK0 rfl ?_
                    try obtain rfl := Option.some.inj h
                    exact hP _ (hS.sel 7 [] (by decide))
                · try simp only [W, hc]
                  refine seq_n hK138 ?_
                  refine w_ret ?_
                  refine fin_r1 hK0 rfl ?_
                  try obtain rfl := Option.some.inj h
                  exact hP _ (hS.sel 7 [] (by decide))
              · try simp only [W, hc]
                refine seq_n hK138 ?_
                refine w_ret ?_
                refine fin_r1 hK0 rfl ?_
                try obtain rfl := Option.some.inj h
                exact hP _ (hS.sel 7 [] (by decide))
            · try simp only [W, hc]
              refine seq_n hK138 ?_
              refine w_ret ?_
              refine fin_r1 hK0 rfl ?_
              try obtain rfl := Option.some.inj h
              exact hP _ (hS.sel 7 [] (by decide))
end Go.VxW
