import Derived.Test.YtdgiianbihfkoaaVyGF
import Derived.Test.YtdgiianbihfkoaaProg
import Derived.Test.YtdgiianbihfkoaaVaE
import Derived.KernelRfl
open Go Go.VS
set_option maxRecDepth 8000
set_option maxHeartbeats 4000000
namespace Go.VxW
def e_Job (x : Job) : AV := .agg [.int .i64 x.Start, .int .i64 x.Need, .int .i64 x.End]
def e_L1Cur (x : L1Cur) : AV := .agg [.fz (x.Code.map (AV.int .u8)), .int .i64 x.At, .int .u64 x.Seed]
def E : TEnv := fun t => match t with
  | 3 => some { sz := 1, agg := false, zero := [AV.int IntKind.i64 0], bytes := 8, und := UD.it IntKind.i64, eqok := true }
  | 4 => some { sz := 1, agg := false, zero := [AV.bool false], bytes := 1, und := UD.bl, eqok := true }
  | 5 => some { sz := 1, agg := false, zero := [AV.int IntKind.u8 0], bytes := 1, und := UD.it IntKind.u8, eqok := true }
  | 22 => some { sz := 1, agg := false, zero := [AV.nil], bytes := 24, und := UD.sl 5, eqok := true }
  | 24 => some { sz := 1, agg := false, zero := [AV.nil], bytes := 24, und := UD.sl 3, eqok := true }
  | 81 => some { sz := 1, agg := false, zero := [AV.nil], bytes := 24, und := UD.sl 90, eqok := true }
  | 90 => some { sz := 3, agg := true, zero := [AV.int IntKind.i64 0, AV.int IntKind.i64 0, AV.int IntKind.i64 0], bytes := 24, und := UD.st [(0, 3), (1, 3), (2, 3)], eqok := true }
  | 150 => some { sz := 1, agg := false, zero := [AV.nilp], bytes := 8, und := UD.pt, eqok := true }
  | 151 => some { sz := 1, agg := false, zero := [AV.int IntKind.u64 0], bytes := 8, und := UD.it IntKind.u64, eqok := true }
  | 153 => some { sz := 3, agg := true, zero := [AV.nil, AV.int IntKind.i64 0, AV.int IntKind.u64 0], bytes := 40, und := UD.st [(0, 22), (1, 3), (2, 151)], eqok := true }
  | 156 => some { sz := 1, agg := false, zero := [AV.undef], bytes := 8, und := UD.ot, eqok := true }
  | 187 => some { sz := 1, agg := false, zero := [AV.undef], bytes := 8, und := UD.ot, eqok := true }
  | _ => none
def pol : FuncId → FPol := fun f => match f with
  | 9 => { rsh := [[.sc]], regs := [(4, [], [2]), (5, [], [2]), (6, [], [1]), (7, [], [1]), (14, [], [2])], frz := [(10, [], some [1, 5, 7, 8, 11, 12, 15, 16, 107]), (15, [], some [1, 153])], cnds := [(108, [1])] }
  | 22 => { rsh := [[.sc]], loops := [(0, { keep := [0, 1, 12, 13] })], blocks := [(0, [])] }
  | 65 => { rsh := [[.sc], [.sc]] }
  | 73 => { rsh := [[.sl [.sc, .sc, .sc]], [.sl [.sc]]] }
  | 74 => { rsh := [[.sl [.sc]], [.sc]], frz := [(1, [], some [0, 1, 15])] }
  | 75 => { rsh := [[.sl [.sc]], [.sc]], frz := [(1, [], some [0, 1, 14])] }
  | 76 => { rsh := [[.sl [.sc]], [.sc]] }
  | 77 => { rsh := [[.sl [.sc]], [.sc]] }
  | 78 => { rsh := [[.sc], [.sc]] }
  | 79 => { rsh := [[.sc]] }
  | 80 => { rsh := [[.sc], [.sc]] }
  | 81 => { rsh := [[.sl [.sc, .sc, .sc]], [.sl [.sc]]], loops := [(0, { keep := [4, 5, 6, 8] })], blocks := [(0, [4, 5, 6])], regs := [(3, [], [1])], frz := [(5, [], some [4, 5, 6, 8, 30]), (12, [], some [4, 5, 6, 62])], cnds := [(62, [5, 6])] }
  | 82 => { rsh := [[.sc], [.sc]] }
  | 141 => { rsh := [[.sc]], cnds := [(11, [1, 5])] }
  | 142 => { rsh := [[.sc]] }
  | 143 => { rsh := [[.sc]] }
  | 145 => { rsh := [[.sc]] }
  | 147 => { rsh := [[.sc]] }
  | 150 => { rsh := [[.sc]], loops := [(0, { keep := [1, 2, 9, 10, 11] })], blocks := [(0, [])] }
  | 153 => { rsh := [[.sc]] }
  | 172 => { rsh := [[.sc]] }
  | 192 => { rsh := [[.sc]] }
  | 194 => { rsh := [[.sc]], loops := [(0, { keep := [0, 5, 6, 7] })], blocks := [(0, [0])] }
  | 196 => { rsh := [[.sc]], regs := [(1, [], [3])] }
  | 197 => { rsh := [[.sl [.sc, .sc, .sc]]], loops := [(0, { keep := [0, 3, 4] })], blocks := [(0, [3])], cnds := [(8, [0, 3, 4])] }
  | 198 => { rsh := [[.sc, .sc, .sc]], regs := [(4, [7, 9, 13], [])], ords := [(4, [0, 1, 2, 3, 4, 5, 8, 6, 7, 9, 10, 11, 12, 13])], fz := [(2, [(2, [([7], [.sl [.sc]])]), (5, [([10], [.sl [.sc]])]), (8, [([13], [.sl [.sc]])])])], cnds := [(39, [2, 3])] }
  | 200 => { rsh := [[.sc]] }
  | 201 => { rsh := [[.sc]], regs := [(1, [], [3])] }
  | 202 => { rsh := [[.sc]] }
  | 203 => { rsh := [[.sc]], loops := [(0, { keep := [0, 5, 11, 12, 13] })], blocks := [(1, [0, 5, 11, 12, 13]), (0, [])], frz := [(7, [], some [0, 5, 11, 12, 13, 44])] }
  | 204 => { rsh := [[.sl [.sc]]], loops := [(0, { keep := [1, 5, 12, 13, 14] }), (2, { keep := [1, 5, 6, 7, 8, 12, 13, 14, 22, 23, 24] })], blocks := [(1, [1, 5, 12, 13, 14]), (3, [1, 5, 6, 7, 8, 12, 13, 14, 22, 23, 24]), (2, [1, 5, 6, 7, 8, 12, 13, 14]), (0, [5])], cnds := [(30, [1, 5, 6, 7, 8, 12, 13, 14, 22, 23, 24]), (37, [1, 5, 12, 13, 14])] }
  | 205 => { rsh := [[.sc]], loops := [(0, { keep := [0, 5, 22, 23, 24] })], blocks := [(1, [0, 5, 22, 23, 24]), (0, [])], frz := [(1, [], some [0, 1, 18]), (9, [], some [0, 5, 22, 23, 24, 55])] }
  | 206 => { rsh := [[.sl [.sc]]], loops := [(0, { keep := [1, 5, 10, 11, 12] }), (2, { keep := [1, 5, 6, 7, 8, 9, 10, 11, 12] })], blocks := [(1, [1, 5, 10, 11, 12]), (2, [1, 5, 6, 7, 8, 10, 11, 12]), (0, [5])], cnds := [(35, [1, 5, 10, 11, 12])] }
  | 207 => { rsh := [[.sl [.sc]]], loops := [(0, { keep := [0, 3, 4, 13] }), (2, { keep := [0, 3, 4, 5, 6, 13, 16, 17, 18] })], blocks := [(3, [0, 3, 4, 5, 6, 13, 16, 17, 18]), (2, [0, 3, 4, 6, 13]), (0, [3])], frz := [(9, [], some [0, 3, 4, 5, 6, 7, 13, 16, 17, 18, 49])], cnds := [(49, [0, 3, 4, 5, 6, 13, 16, 17, 18]), (53, [0, 3, 4, 6, 13])] }
  | 208 => { rsh := [[.sl [.sc]]], loops := [(0, { keep := [0, 3, 4, 5] }), (2, { keep := [0, 3, 4, 5, 6, 16, 17, 18] })], blocks := [(3, [0, 3, 4, 5, 6, 16, 17, 18]), (2, [0, 3, 4, 5, 6]), (0, [4])], frz := [(10, [], some [0, 3, 4, 5, 6, 7, 16, 17, 18, 49])], cnds := [(49, [0, 3, 4, 5, 6, 16, 17, 18]), (53, [0, 3, 4, 5, 6])] }
  | 252 => { rsh := [[.sc]], cnds := [(13, [0, 3])] }
  | 255 => { rsh := [[.sc]], loops := [(0, { keep := [0, 1, 7, 8] })], blocks := [(0, [])] }
  | 257 => { rsh := [[.sc]] }
  | 258 => { rsh := [[.sc]] }
  | 259 => { rsh := [[.sc]] }
  | 260 => { rsh := [[.sc]] }
  | 273 => { rsh := [[.sc]], loops := [(0, { keep := [0, 1, 7, 8] })], blocks := [(0, [])] }
  | _ => {}
noncomputable def code : FuncId → Option Func := fun f => match f with
  | 9 => some Go.Proofs.Try.f9
  | 22 => some Go.Proofs.Try.f22
  | 65 => some Go.Proofs.Try.f65
  | 73 => some Go.Proofs.Try.f73
  | 74 => some Go.Proofs.Try.f74
  | 75 => some Go.Proofs.Try.f75
  | 76 => some Go.Proofs.Try.f76
  | 77 => some Go.Proofs.Try.f77
  | 78 => some Go.Proofs.Try.f78
  | 79 => some Go.Proofs.Try.f79
  | 80 => some Go.Proofs.Try.f80
  | 81 => some Go.Proofs.Try.f81
  | 82 => some Go.Proofs.Try.f82
  | 141 => some Go.Proofs.Try.f141
  | 142 => some Go.Proofs.Try.f142
  | 143 => some Go.Proofs.Try.f143
  | 145 => some Go.Proofs.Try.f145
  | 147 => some Go.Proofs.Try.f147
  | 150 => some Go.Proofs.Try.f150
  | 153 => some Go.Proofs.Try.f153
  | 172 => some Go.Proofs.Try.f172
  | 192 => some Go.Proofs.Try.f192
  | 194 => some Go.Proofs.Try.f194
  | 196 => some Go.Proofs.Try.f196
  | 197 => some Go.Proofs.Try.f197
  | 198 => some Go.Proofs.Try.f198
  | 200 => some Go.Proofs.Try.f200
  | 201 => some Go.Proofs.Try.f201
  | 202 => some Go.Proofs.Try.f202
  | 203 => some Go.Proofs.Try.f203
  | 204 => some Go.Proofs.Try.f204
  | 205 => some Go.Proofs.Try.f205
  | 206 => some Go.Proofs.Try.f206
  | 207 => some Go.Proofs.Try.f207
  | 208 => some Go.Proofs.Try.f208
  | 252 => some Go.Proofs.Try.f252
  | 255 => some Go.Proofs.Try.f255
  | 257 => some Go.Proofs.Try.f257
  | 258 => some Go.Proofs.Try.f258
  | 259 => some Go.Proofs.Try.f259
  | 260 => some Go.Proofs.Try.f260
  | 273 => some Go.Proofs.Try.f273
  | _ => none
noncomputable def C : Ctx := ⟨E, pol, code, fun _ _ _ _ => False⟩
theorem gC : Good C := ⟨fun _ _ _ _ _ _ h => h, fun _ _ _ _ h => h.elim⟩
theorem cE : C.E = E := rfl
theorem E3 : E 3 = some { sz := 1, agg := false, zero := [AV.int IntKind.i64 0], bytes := 8, und := UD.it IntKind.i64, eqok := true } := rfl
theorem E4 : E 4 = some { sz := 1, agg := false, zero := [AV.bool false], bytes := 1, und := UD.bl, eqok := true } := rfl
theorem E5 : E 5 = some { sz := 1, agg := false, zero := [AV.int IntKind.u8 0], bytes := 1, und := UD.it IntKind.u8, eqok := true } := rfl
theorem E22 : E 22 = some { sz := 1, agg := false, zero := [AV.nil], bytes := 24, und := UD.sl 5, eqok := true } := rfl
theorem E24 : E 24 = some { sz := 1, agg := false, zero := [AV.nil], bytes := 24, und := UD.sl 3, eqok := true } := rfl
theorem E81 : E 81 = some { sz := 1, agg := false, zero := [AV.nil], bytes := 24, und := UD.sl 90, eqok := true } := rfl
theorem E90 : E 90 = some { sz := 3, agg := true, zero := [AV.int IntKind.i64 0, AV.int IntKind.i64 0, AV.int IntKind.i64 0], bytes := 24, und := UD.st [(0, 3), (1, 3), (2, 3)], eqok := true } := rfl
theorem E150 : E 150 = some { sz := 1, agg := false, zero := [AV.nilp], bytes := 8, und := UD.pt, eqok := true } := rfl
theorem E151 : E 151 = some { sz := 1, agg := false, zero := [AV.int IntKind.u64 0], bytes := 8, und := UD.it IntKind.u64, eqok := true } := rfl
theorem E153 : E 153 = some { sz := 3, agg := true, zero := [AV.nil, AV.int IntKind.i64 0, AV.int IntKind.u64 0], bytes := 40, und := UD.st [(0, 22), (1, 3), (2, 151)], eqok := true } := rfl
theorem E156 : E 156 = some { sz := 1, agg := false, zero := [AV.undef], bytes := 8, und := UD.ot, eqok := true } := rfl
theorem E187 : E 187 = some { sz := 1, agg := false, zero := [AV.undef], bytes := 8, und := UD.ot, eqok := true } := rfl
theorem EE : type_of% (And.intro @cE <| And.intro @E3 <| And.intro @E4 <| And.intro @E5 <| And.intro @E22 <| And.intro @E24 <| And.intro @E81 <| And.intro @E90 <| And.intro @E150 <| And.intro @E151 <| And.intro @E153 <| And.intro @E156 @E187) := And.intro @cE <| And.intro @E3 <| And.intro @E4 <| And.intro @E5 <| And.intro @E22 <| And.intro @E24 <| And.intro @E81 <| And.intro @E90 <| And.intro @E150 <| And.intro @E151 <| And.intro @E153 <| And.intro @E156 @E187
theorem e_Job_d (x : Job) : e_Job x = .agg [.int .i64 x.Start, .int .i64 x.Need, .int .i64 x.End] := rfl
theorem e_L1Cur_d (x : L1Cur) : e_L1Cur x = .agg [.fz (x.Code.map (AV.int .u8)), .int .i64 x.At, .int .u64 x.Seed] := rfl
theorem EN : type_of% (And.intro @e_Job_d <| And.intro @e_L1Cur_d @killB_n) := And.intro @e_Job_d <| And.intro @e_L1Cur_d @killB_n
theorem spec_l1Cur_next_w {a0 : L1Cur} {i0 : Nat} {w0 : Nat} {r : (Int × L1Cur)} (h : spec_l1Cur_next a0 = some r) {F : List It} {H : Heap} (hS : Own H (⟨.ptr i0 w0 0 0, 3, [.agg [.fz (a0.Code.map (AV.int .u8)), .int .i64 a0.At, .int .u64 a0.Seed]]⟩ :: F)) {P : AV → Heap → Prop} (hP : ∀ H', Own H' (⟨.ptr i0 w0 0 0, 3, [.agg [.fz (r.2.Code.map (AV.int .u8)), .int .i64 r.2.At, .int .u64 r.2.Seed]]⟩ :: F) → P (.int .i64 r.1) H') : ACall C 252 [.ptr i0 w0 0 0] H P := by
  refine acall_of gC (res := [.tmp 2]) (n := 62) rfl rfl rfl rfl fun K0 hK0 => ?_
  simp only [W, Nat.reduceSub, Nat.reduceAdd, List.replicate]
  unfold spec_l1Cur_next at h
  refine w_seq fun K1 hK1 => ?_
  refine w_reg gC ?_
  try simp only [W, Nat.reduceAdd]
  refine seq_n hK1 ?_
  refine w_seq fun K2 hK2 => ?_
  refine w_reg gC ?_
  try simp only [W, Nat.reduceAdd]
  refine seq_n hK2 ?_
  refine w_seq fun K3 hK3 => ?_
  refine w_seq fun K4 hK4 => ?_
  refine w_draw0 gC (by kernel_rfl) ?_
  try simp only [W, EE, Nat.reduceAdd, Nat.reduceBEq, hS.var 0 rfl]
  refine seq_n hK4 ?_
  obtain ⟨y6, h, g7⟩ := Option.bind_eq_some_iff.1 h
  refine w_join gC (fun s H => ∃ x5 : Int, y6 = (x5) ∧ s = [.ptr i0 w0 0 0, u, u, .int .i64 x5, u, u, u, u, u, u, u, u, u, u, u, u, u, u, u, u, u, u, u, u, u, u, u, u, u, u, u, u, u, u, u, u, u, u, u, u, u, u, u, u, u, u, u, u, u, u, u, u, u, u, u, u, u, u, u, u, u, u] ∧ Own H (⟨.ptr i0 w0 0 0, 3, [.agg [.fz (a0.Code.map (AV.int .u8)), .int .i64 a0.At, .int .u64 a0.Seed]]⟩ :: F)) (fun K8 hK8 => ?_) (fun s H hq => ?_)
  · refine w_seq fun K9 hK9 => ?_
    refine w_if ?_
    simp only [W]
    refine w_cnd h (fun hc h => ?_) (fun hc h => ?_)
    · refine w_draw0 gC (by kernel_rfl) ?_
      try simp only [W, EE, Nat.reduceAdd, Nat.reduceBEq, hS.var 0 rfl]
      refine w_fz rfl rfl rfl (fun _ => rfl) h fun b10 hb10 h => ?_
      try simp only [W, EE]
      refine seq_n hK9 ?_
      refine w_kill ?_
      exact cut_n hK8 ⟨_, (Option.some.inj h).symm, rfl, hS⟩
    · refine w_skip ?_
      refine seq_n hK9 ?_
      refine w_kill ?_
      exact cut_n hK8 ⟨_, (Option.some.inj h).symm, rfl, hS⟩
  · obtain ⟨x5, ey, rfl, hS⟩ := hq; obtain rfl := ey.symm
    replace h := g7
    try dsimp only at h
    refine seq_n hK3 ?_
    refine w_seq fun K11 hK11 => ?_
    refine w_reg gC ?_
    try simp only [W, EE, Nat.reduceAdd, Nat.reduceBEq, hS.var 0 rfl]
    refine w_stv (a := .int .i64 (IntKind.i64.wrap (a0.At + 1))) (y' := .agg [.fz (a0.Code.map (AV.int .u8)), .int .i64 (IntKind.i64.wrap (a0.At + 1)), .int .u64 a0.Seed]) 0 hS rfl rfl rfl rfl rfl rfl rfl rfl fun H hS => ?_
    try simp only [W]
    refine seq_n hK11 ?_
    refine w_seq fun K12 hK12 => ?_
    refine w_reg gC ?_
    try simp only [W, EE, Nat.reduceAdd, Nat.reduceBEq, hS.var 0 rfl]
    refine w_stv (a := .int .u64 (IntKind.u64.wrap ((IntKind.u64.wrap ((IntKind.u64.wrap (a0.Seed * 6364136223846793005)) + (IntKind.u64.wrap x5))) + 1442695040888963407))) (y' := .agg [.fz (a0.Code.map (AV.int .u8)), .int .i64 (IntKind.i64.wrap (a0.At + 1)), .int .u64 (IntKind.u64.wrap ((IntKind.u64.wrap ((IntKind.u64.wrap (a0.Seed * 6364136223846793005)) + (IntKind.u64.wrap x5))) + 1442695040888963407))]) 0 hS rfl rfl rfl rfl rfl rfl rfl rfl fun H hS => ?_
    try simp only [W]
    refine seq_n hK12 ?_
    refine w_seq fun K13 hK13 => ?_
    refine w_seq fun K14 hK14 => ?_
    refine w_draw0 gC (by kernel_rfl) ?_
    try simp only [W, EE, Nat.reduceAdd, Nat.reduceBEq, hS.var 0 rfl]
    refine seq_n hK14 ?_
    refine w_if ?_
    simp only [W]
    refine w_cnd h (fun hc h => ?_) (fun hc h => ?_)
    · refine w_seq fun K15 hK15 => ?_
      refine w_reg gC ?_
      try simp only [W, Nat.reduceAdd]
      refine seq_n hK15 ?_
      refine w_ret ?_
      refine seq_r hK13 ?_
      refine fin_r1 hK0 rfl ?_
      try obtain rfl := Option.some.inj h
      exact hP _ hS
    · refine w_skip ?_
      refine seq_n hK13 ?_
      refine w_seq fun K16 hK16 => ?_
      refine w_reg gC ?_
      try simp only [W, EE, Nat.reduceAdd, Nat.reduceBEq, hS.var 0 rfl]
      rw [sr_lit _ _ _ rfl, Option.map_some, resV_s]
      try simp only [W, EE]
      refine seq_n hK16 ?_
      refine w_ret ?_
      refine fin_r1 hK0 rfl ?_
      try obtain rfl := Option.some.inj h
      exact hP _ hS
theorem spec_l1Cur_pick_w {a0 : L1Cur} {a1 : Int} {i0 : Nat} {w0 : Nat} {r : (Int × L1Cur)} (h : spec_l1Cur_pick a0 a1 = some r) {F : List It} {H : Heap} (hS : Own H (⟨.ptr i0 w0 0 0, 3, [.agg [.fz (a0.Code.map (AV.int .u8)), .int .i64 a0.At, .int .u64 a0.Seed]]⟩ :: F)) {P : AV → Heap → Prop} (hP : ∀ H', Own H' (⟨.ptr i0 w0 0 0, 3, [.agg [.fz (r.2.Code.map (AV.int .u8)), .int .i64 r.2.At, .int .u64 r.2.Seed]]⟩ :: F) → P (.int .i64 r.1) H') : ACall C 141 [.ptr i0 w0 0 0, .int .i64 a1] H P := by
  refine acall_of gC (res := [.tmp 4]) (n := 20) rfl rfl rfl rfl fun K0 hK0 => ?_
  simp only [W, Nat.reduceSub, Nat.reduceAdd, List.replicate]
  unfold spec_l1Cur_pick at h
  refine w_seq fun K1 hK1 => ?_
  refine w_reg gC ?_
  try simp only [W, Nat.reduceAdd]
  refine seq_n hK1 ?_
  refine w_seq fun K2 hK2 => ?_
  refine w_seq fun K3 hK3 => ?_
  refine w_reg gC ?_
  try simp only [W, EE, Nat.reduceAdd]
  refine seq_n hK3 ?_
  refine w_if ?_
  simp only [W]
  refine w_cnd h (fun hc h => ?_) (fun hc h => ?_)
  · refine w_seq fun K4 hK4 => ?_
    refine w_reg gC ?_
    try simp only [W, Nat.reduceAdd]
    refine seq_n hK4 ?_
    refine w_ret ?_
    refine seq_r hK2 ?_
    refine fin_r1 hK0 rfl ?_
    try obtain rfl := Option.some.inj h
    exact hP _ hS
  · refine w_skip ?_
    refine seq_n hK2 ?_
    refine w_seq fun K5 hK5 => ?_
    refine w_reg gC ?_
    try simp only [W, Nat.reduceAdd]
    refine w_call h fun b6 hb6 h => ?_
    obtain ⟨b7, b8⟩ := b6
    try dsimp only at h
    refine spec_l1Cur_next_w hb6 hS fun H hS => ?_
    try simp only [W]
    refine seq_n hK5 ?_
    refine w_seq fun K9 hK9 => ?_
    refine w_seq fun K10 hK10 => ?_
    refine w_reg gC ?_
    try simp only [W, EE, Nat.reduceAdd]
    refine seq_n hK10 ?_
    obtain ⟨y15, h, g16⟩ := Option.bind_eq_some_iff.1 h
    refine w_join gC (fun s H => ∃ x11 : Int, ∃ x12 : List Int, ∃ x13 : Int, ∃ x14 : Int, y15 = (x11, x12, x13, x14) ∧ s = [u, .int .i64 a1, u, u, u, .int .i64 x11, u, u, u, u, u, u, u, u, u, u, u, u, u, u] ∧ Own H (⟨.ptr i0 w0 0 0, 3, [.agg [.fz (x12.map (AV.int .u8)), .int .i64 x13, .int .u64 x14]]⟩ :: F)) (fun K17 hK17 => ?_) (fun s H hq => ?_)
    · refine w_seq fun K18 hK18 => ?_
      refine w_if ?_
      simp only [W]
      refine w_cnd h (fun hc h => ?_) (fun hc h => ?_)
      · refine w_reg gC ?_
        try simp only [W, EE, Nat.reduceAdd]
        refine w_call h fun b19 hb19 h => ?_
        obtain ⟨b20, b21⟩ := b19
        try dsimp only at h
        refine spec_l1Cur_next_w hb19 hS fun H hS => ?_
        try simp only [W, EE]
        refine seq_n hK18 ?_
        refine w_kill ?_
        exact cut_n hK17 ⟨_, _, _, _, (Option.some.inj h).symm, rfl, hS⟩
      · refine w_skip ?_
        refine seq_n hK18 ?_
        refine w_kill ?_
        exact cut_n hK17 ⟨_, _, _, _, (Option.some.inj h).symm, rfl, hS⟩
    · obtain ⟨x11, x12, x13, x14, rfl, rfl, hS⟩ := hq
      replace h := g16
      try dsimp only at h
      refine seq_n hK9 ?_
      refine w_seq fun K22 hK22 => ?_
      refine w_reg gC ?_
      try simp only [W, EE, Nat.reduceAdd]
      refine w_num _ h fun x23 hx23 h => ?_
      try simp only [W]
      refine seq_n hK22 ?_
      refine w_ret ?_
      refine fin_r1 hK0 rfl ?_
      try obtain rfl := Option.some.inj h
      exact hP _ hS
theorem spec_l1Cur_one_w {a0 : L1Cur} {a1 : Int} {i0 : Nat} {w0 : Nat} {r : (Bool × L1Cur)} (h : spec_l1Cur_one a0 a1 = some r) {F : List It} {H : Heap} (hS : Own H (⟨.ptr i0 w0 0 0, 3, [.agg [.fz (a0.Code.map (AV.int .u8)), .int .i64 a0.At, .int .u64 a0.Seed]]⟩ :: F)) {P : AV → Heap → Prop} (hP : ∀ H', Own H' (⟨.ptr i0 w0 0 0, 3, [.agg [.fz (r.2.Code.map (AV.int .u8)), .int .i64 r.2.At, .int .u64 r.2.Seed]]⟩ :: F) → P (.bool r.1) H') : ACall C 142 [.ptr i0 w0 0 0, .int .i64 a1] H P := by
  refine acall_of gC (res := [.tmp 4]) (n := 9) rfl rfl rfl rfl fun K0 hK0 => ?_
  simp only [W, Nat.reduceSub, Nat.reduceAdd, List.replicate]
  unfold spec_l1Cur_one at h
  refine w_seq fun K1 hK1 => ?_
  refine w_reg gC ?_
  try simp only [W, Nat.reduceAdd]
  refine seq_n hK1 ?_
  refine w_seq fun K2 hK2 => ?_
  refine w_reg gC ?_
  try simp only [W, Nat.reduceAdd]
  refine w_call h fun b3 hb3 h => ?_
  obtain ⟨b4, b5⟩ := b3
  try dsimp only at h
  refine spec_l1Cur_pick_w hb3 hS fun H hS => ?_
  try simp only [W, EE]
  refine seq_n hK2 ?_
  refine w_ret ?_
  refine fin_r1 hK0 rfl ?_
  try obtain rfl := Option.some.inj h
  exact hP _ hS
theorem spec_l1Cur_among_w {a0 : L1Cur} {a1 : List Int} {i0 : Nat} {w0 : Nat} {r : (Int × L1Cur)} (h : spec_l1Cur_among a0 a1 = some r) {F : List It} {H : Heap} (hS : Own H (⟨.ptr i0 w0 0 0, 3, [.agg [.fz (a0.Code.map (AV.int .u8)), .int .i64 a0.At, .int .u64 a0.Seed]]⟩ :: F)) {P : AV → Heap → Prop} (hP : ∀ H', Own H' (⟨.ptr i0 w0 0 0, 3, [.agg [.fz (r.2.Code.map (AV.int .u8)), .int .i64 r.2.At, .int .u64 r.2.Seed]]⟩ :: F) → P (.int .i64 r.1) H') : ACall C 143 [.ptr i0 w0 0 0, .fz (a1.map (AV.int .i64))] H P := by
  refine acall_of gC (res := [.tmp 4]) (n := 12) rfl rfl rfl rfl fun K0 hK0 => ?_
  simp only [W, Nat.reduceSub, Nat.reduceAdd, List.replicate]
  unfold spec_l1Cur_among at h
  refine w_seq fun K1 hK1 => ?_
  refine w_reg gC ?_
  try simp only [W, Nat.reduceAdd]
  refine seq_n hK1 ?_
  refine w_seq fun K2 hK2 => ?_
  refine w_reg gC ?_
  try simp only [W, EE, Nat.reduceAdd]
  refine w_call h fun b3 hb3 h => ?_
  obtain ⟨b4, b5⟩ := b3
  try dsimp only at h
  refine spec_l1Cur_pick_w hb3 hS fun H hS => ?_
  try simp only [W, EE]
  refine w_fz rfl rfl rfl (fun _ => rfl) h fun b6 hb6 h => ?_
  try simp only [W, EE]
  refine seq_n hK2 ?_
  refine w_ret ?_
  refine fin_r1 hK0 rfl ?_
  try obtain rfl := Option.some.inj h
  exact hP _ hS
theorem spec_l1Cur_job_w {a0 : L1Cur} {i0 : Nat} {w0 : Nat} {r : (Job × L1Cur)} (h : spec_l1Cur_job a0 = some r) {F : List It} {H : Heap} (hS : Own H (⟨.ptr i0 w0 0 0, 3, [.agg [.fz (a0.Code.map (AV.int .u8)), .int .i64 a0.At, .int .u64 a0.Seed]]⟩ :: F)) {P : AV → Heap → Prop} (hP : ∀ H', Own H' (⟨.ptr i0 w0 0 0, 3, [.agg [.fz (r.2.Code.map (AV.int .u8)), .int .i64 r.2.At, .int .u64 r.2.Seed]]⟩ :: F) → P (.agg [.int .i64 r.1.Start, .int .i64 r.1.Need, .int .i64 r.1.End]) H') : ACall C 198 [.ptr i0 w0 0 0] H P := by
  refine acall_of gC (res := [.cell 2 90]) (n := 45) rfl rfl rfl rfl fun K0 hK0 => ?_
  simp only [W, Nat.reduceSub, Nat.reduceAdd, List.replicate]
  unfold spec_l1Cur_job at h
  refine w_seq fun K1 hK1 => ?_
  refine w_reg gC ?_
  try simp only [W, Nat.reduceAdd]
  refine w_alloc hS rfl rfl fun ip2 wp2 H hS => ?_
  try simp only [W]
  refine seq_n hK1 ?_
  refine w_seq fun K4 hK4 => ?_
  refine w_seq fun K5 hK5 => ?_
  refine w_reg gC ?_
  try simp only [W, Nat.reduceAdd]
  refine w_call h fun b6 hb6 h => ?_
  obtain ⟨b7, b8⟩ := b6
  try dsimp only at h
  refine spec_l1Cur_one_w hb6 (hS.sel 2 [1, 0] (by decide)) fun H hS => ?_
  try simp only [W]
  refine seq_n hK5 ?_
  refine w_if ?_
  simp only [W]
  refine w_cnd h (fun hc h => ?_) (fun hc h => ?_)
  · refine w_seq fun K9 hK9 => ?_
    refine w_regF (fz := [(2, [([7], [.sl [.sc]])]), (5, [([10], [.sl [.sc]])]), (8, [([13], [.sl [.sc]])])]) gC ?_
    try simp only [W, Nat.reduceAdd, Nat.reduceBEq]
    refine w_lit (el := ([-1, 0, 23, 24] : List Int).map (AV.int .i64)) hS rfl rfl rfl rfl rfl rfl rfl fun v10 H qv10 hS => ?_
    try simp only [W, Nat.reduceAdd]
    refine FZ_own 0 hS rfl qv10 rfl (fun _ _ => by simp [takeE, takeT, plainA]) (fun _ => rfl) fun H hsame hS => ?_
    try simp only [W]
    refine w_call h fun b12 hb12 h => ?_
    obtain ⟨b13, b14⟩ := b12
    try dsimp only at h
    refine spec_l1Cur_among_w hb12 hS fun H hS => ?_
    try simp only [W, Nat.reduceAdd, Nat.reduceBEq]
    refine w_lit (el := ([0, 1, 6, 7] : List Int).map (AV.int .i64)) hS rfl rfl rfl rfl rfl rfl rfl fun v15 H qv15 hS => ?_
    try simp only [W, Nat.reduceAdd, Nat.reduceBEq]
    refine FZ_own 0 hS rfl qv15 rfl (fun _ _ => by simp [takeE, takeT, plainA]) (fun _ => rfl) fun H hsame hS => ?_
    try simp only [W]
    refine w_call h fun b17 hb17 h => ?_
    obtain ⟨b18, b19⟩ := b17
    try dsimp only at h
    refine spec_l1Cur_among_w hb17 hS fun H hS => ?_
    try simp only [W, Nat.reduceAdd, Nat.reduceBEq]
    refine w_lit (el := ([0, 24, 25] : List Int).map (AV.int .i64)) hS rfl rfl rfl rfl rfl rfl rfl fun v20 H qv20 hS => ?_
    try simp only [W, Nat.reduceAdd, Nat.reduceBEq]
    refine FZ_own 0 hS rfl qv20 rfl (fun _ _ => by simp [takeE, takeT, plainA]) (fun _ => rfl) fun H hsame hS => ?_
    try simp only [W]
    refine w_call h fun b22 hb22 h => ?_
    obtain ⟨b23, b24⟩ := b22
    try dsimp only at h
    refine spec_l1Cur_among_w hb22 hS fun H hS => ?_
    try simp only [W, EE, Nat.reduceAdd, Nat.reduceBEq]
    refine w_bld rfl rfl rfl rfl rfl ?_
    try simp only [W, Nat.reduceAdd, Nat.reduceBEq]
    refine w_stv (a := .agg [.int .i64 b13, .int .i64 b18, .int .i64 b23]) (y' := .agg [.int .i64 b13, .int .i64 b18, .int .i64 b23]) 1 hS rfl rfl rfl rfl rfl rfl rfl rfl fun H hS => ?_
    try simp only [W, Nat.reduceAdd]
    refine seq_n hK9 ?_
    refine w_ret ?_
    refine seq_r hK4 ?_
    refine fin_r hK0 (res_c rfl rfl (hS.var 1 rfl) rfl rfl) ?_
    try obtain rfl := Option.some.inj h
    exact hP _ (hS.sel 2 [0] (by decide))
  · refine w_skip ?_
    refine seq_n hK4 ?_
    refine w_seq fun K25 hK25 => ?_
    refine w_reg gC ?_
    try simp only [W, Nat.reduceAdd]
    refine w_call h fun b26 hb26 h => ?_
    obtain ⟨b27, b28⟩ := b26
    try dsimp only at h
    refine spec_l1Cur_pick_w hb26 hS fun H hS => ?_
    try simp only [W]
    refine w_call h fun b29 hb29 h => ?_
    obtain ⟨b30, b31⟩ := b29
    try dsimp only at h
    refine spec_l1Cur_pick_w hb29 hS fun H hS => ?_
    try simp only [W, EE]
    refine w_bld rfl rfl rfl rfl rfl ?_
    try simp only [W]
    refine w_alloc hS rfl rfl fun ip32 wp32 H hS => ?_
    try simp only [W]
    refine w_stv (a := .agg [.int .i64 b27, .int .i64 (IntKind.i64.wrap (1 + b30)), .int .i64 0]) (y' := .agg [.int .i64 b27, .int .i64 (IntKind.i64.wrap (1 + b30)), .int .i64 0]) 0 hS rfl rfl rfl rfl rfl rfl rfl rfl fun H hS => ?_
    try simp only [W]
    refine seq_n hK25 ?_
    refine w_seq fun K34 hK34 => ?_
    refine w_drawL gC [(7, [0, 1, 2, 3, 4, 6]), (9, [0, 1, 2, 3, 4, 8]), (13, [])] (by kernel_rfl) rfl (by kernel_rfl) ?_
    try simp only [W, EE, reduceIte, Nat.reduceAdd, Nat.reduceBEq, hS.var 0 rfl, tabAt, qAt, Nat.reduceEqDiff, permL_d, pO_d, pO_o, pO_g, ren_c, Nat.reduceEqDiff]
    refine w_call h fun b35 hb35 h => ?_
    obtain ⟨b36, b37⟩ := b35
    try dsimp only at h
    refine spec_l1Cur_pick_w hb35 (hS.sel 3 [1, 0, 2] (by decide)) fun H hS => ?_
    refine goK_late ?_
    refine lateG_s (by first | rfl | (simp [evalOp, W, EE, AV.cells, pO_o, hS.var 1 rfl]; done)) ?_
    refine lateG_s (by first | rfl | (simp [evalOp, W, EE, rdAt, mkT, subL, AV.cells, pO_o, hS.var 1 rfl]; done)) ?_
    refine lateG_s (by first | rfl | (simp [evalOp, W, EE, AV.cells, pO_o, hS.var 1 rfl]; done)) ?_
    refine lateG_s (by first | rfl | (simp [evalOp, W, EE, rdAt, mkT, subL, AV.cells, pO_o, hS.var 1 rfl]; done)) ?_
    refine lateG_s (by first | rfl | (simp [evalOp, W, EE, EN, rdAt, mkT, subL, AV.cells, pO_o, pO_d, pO_g, hS.var 0 rfl, hS.var 1 rfl, hS.var 2 rfl]; done)) ?_
    refine lateG_s (by first | rfl | (simp [evalOp, W, EE, EN, rdAt, mkT, subL, AV.cells, pO_o, pO_d, pO_g, hS.var 0 rfl, hS.var 1 rfl, hS.var 2 rfl]; done)) ?_
    refine lateG_n ?_
    try simp only [W, EE]
    refine w_call h fun b38 hb38 h => ?_
    obtain ⟨b39, b40⟩ := b38
    try dsimp only at h
    refine spec_l1Cur_pick_w hb38 hS fun H hS => ?_
    refine goK_late ?_
    refine lateG_s (by first | rfl | (simp [evalOp, W, EE, AV.cells, pO_o, hS.var 1 rfl]; done)) ?_
    refine lateG_s (by first | rfl | (simp [evalOp, W, EE, rdAt, mkT, subL, AV.cells, pO_o, hS.var 1 rfl]; done)) ?_
    refine lateG_s (by first | rfl | (simp [evalOp, W, EE, AV.cells, pO_o, hS.var 1 rfl]; done)) ?_
    refine lateG_s (by first | rfl | (simp [evalOp, W, EE, rdAt, mkT, subL, AV.cells, pO_o, hS.var 1 rfl]; done)) ?_
    refine lateG_s (by first | rfl | (simp [evalOp, W, EE, EN, rdAt, mkT, subL, AV.cells, pO_o, pO_d, pO_g, hS.var 0 rfl, hS.var 1 rfl, hS.var 2 rfl]; done)) ?_
    refine lateG_s (by first | rfl | (simp [evalOp, W, EE, EN, rdAt, mkT, subL, AV.cells, pO_o, pO_d, pO_g, hS.var 0 rfl, hS.var 1 rfl, hS.var 2 rfl]; done)) ?_
    refine lateG_n ?_
    try simp only [W, EE]
    rw [dv_lit _ _ _ rfl, Option.map_some, resV_s]
    try simp only [W, EE, Nat.reduceAdd, Nat.reduceBEq, hS.var 1 rfl]
    refine w_stv (a := .int .i64 (IntKind.i64.wrap ((IntKind.i64.wrap ((IntKind.i64.wrap (b27 + (IntKind.i64.wrap (1 + b30)))) + b36)) - (IntKind.i64.wrap (Int.tdiv b39 8))))) (y' := .agg [.int .i64 b27, .int .i64 (IntKind.i64.wrap (1 + b30)), .int .i64 (IntKind.i64.wrap ((IntKind.i64.wrap ((IntKind.i64.wrap (b27 + (IntKind.i64.wrap (1 + b30)))) + b36)) - (IntKind.i64.wrap (Int.tdiv b39 8))))]) 1 hS rfl rfl rfl rfl rfl rfl rfl rfl fun H hS => ?_
    try simp only [W]
    refine seq_n hK34 ?_
    refine w_seq fun K41 hK41 => ?_
    refine w_seq fun K42 hK42 => ?_
    refine w_reg gC ?_
    try simp only [W, EE, Nat.reduceAdd, Nat.reduceBEq, hS.var 1 rfl]
    refine seq_n hK42 ?_
    obtain ⟨y44, h, g45⟩ := Option.bind_eq_some_iff.1 h
    refine w_join gC (fun s H => ∃ x43 : Int, y44 = (x43) ∧ s = [u, u, .ptr ip2 wp2 0 0, .ptr ip32 wp32 0 0, u, u, u, u, u, u, u, u, u, u, u, u, u, u, u, u, u, u, u, u, u, u, u, u, u, u, u, u, u, u, u, u, u, u, u, u, u, u, u, u, u] ∧ Own H (⟨.ptr i0 w0 0 0, 3, [.agg [.fz (b40.Code.map (AV.int .u8)), .int .i64 b40.At, .int .u64 b40.Seed]]⟩ :: ⟨.ptr ip2 wp2 0 0, 3, [.agg [.int .i64 0, .int .i64 0, .int .i64 0]]⟩ :: ⟨.ptr ip32 wp32 0 0, 3, [.agg [.int .i64 b27, .int .i64 (IntKind.i64.wrap (1 + b30)), .int .i64 x43]]⟩ :: F)) (fun K46 hK46 => ?_) (fun s H hq => ?_)
    · refine w_seq fun K47 hK47 => ?_
      refine w_if ?_
      simp only [W]
      refine w_cnd h (fun hc h => ?_) (fun hc h => ?_)
      · refine w_reg gC ?_
        try simp only [W, EE, Nat.reduceAdd, Nat.reduceBEq, hS.var 1 rfl]
        refine w_stv (a := .int .i64 (IntKind.i64.wrap (b27 + 1))) (y' := .agg [.int .i64 b27, .int .i64 (IntKind.i64.wrap (1 + b30)), .int .i64 (IntKind.i64.wrap (b27 + 1))]) 1 hS rfl rfl rfl rfl rfl rfl rfl rfl fun H hS => ?_
        try simp only [W]
        refine seq_n hK47 ?_
        refine w_kill ?_
        exact cut_n hK46 ⟨_, (Option.some.inj h).symm, rfl, (hS.sel 3 [0, 2, 1] (by decide))⟩
      · refine w_skip ?_
        refine seq_n hK47 ?_
        refine w_kill ?_
        exact cut_n hK46 ⟨_, (Option.some.inj h).symm, rfl, (hS.sel 3 [0, 2, 1] (by decide))⟩
    · obtain ⟨x43, ey, rfl, hS⟩ := hq; obtain rfl := ey.symm
      replace h := g45
      try dsimp only at h
      refine seq_n hK41 ?_
      refine w_seq fun K48 hK48 => ?_
      refine w_reg gC ?_
      try simp only [W, EE, reduceIte, Nat.reduceAdd, Nat.reduceLeDiff, hS.var 2 rfl]
      refine w_stv (a := .agg [.int .i64 b27, .int .i64 (IntKind.i64.wrap (1 + b30)), .int .i64 x43]) (y' := .agg [.int .i64 b27, .int .i64 (IntKind.i64.wrap (1 + b30)), .int .i64 x43]) 1 hS rfl rfl rfl rfl rfl rfl rfl rfl fun H hS => ?_
      try simp only [W]
      refine seq_n hK48 ?_
      refine w_ret ?_
      refine fin_r hK0 (res_c rfl rfl (hS.var 1 rfl) rfl rfl) ?_
      try obtain rfl := Option.some.inj h
      exact hP _ (hS.sel 3 [0] (by decide))
theorem spec_l1Cur_jobs_w {a0 : L1Cur} {i0 : Nat} {w0 : Nat} {r : (List Job × L1Cur)} (h : spec_l1Cur_jobs a0 = some r) {F : List It} {H : Heap} (hS : Own H (⟨.ptr i0 w0 0 0, 3, [.agg [.fz (a0.Code.map (AV.int .u8)), .int .i64 a0.At, .int .u64 a0.Seed]]⟩ :: F)) {P : AV → Heap → Prop} (hP : ∀ v59 : AV, isSl v59 → ∀ H', Own H' (⟨v59, 3, r.1.map e_Job⟩ :: ⟨.ptr i0 w0 0 0, 3, [.agg [.fz (r.2.Code.map (AV.int .u8)), .int .i64 r.2.At, .int .u64 r.2.Seed]]⟩ :: F) → P (v59) H') : ACall C 197 [.ptr i0 w0 0 0] H P := by
  refine acall_of gC (res := [.tmp 2]) (n := 22) rfl rfl rfl rfl fun K0 hK0 => ?_
  simp only [W, Nat.reduceSub, Nat.reduceAdd, List.replicate]
  unfold spec_l1Cur_jobs at h
  refine w_seq fun K1 hK1 => ?_
  refine w_reg gC ?_
  try simp only [W, Nat.reduceAdd]
  refine seq_n hK1 ?_
  refine w_seq fun K2 hK2 => ?_
  refine w_reg gC ?_
  try simp only [W, Nat.reduceAdd]
  refine seq_n hK2 ?_
  refine w_seq fun K3 hK3 => ?_
  refine w_reg gC ?_
  try simp only [W, Nat.reduceAdd]
  refine w_call h fun b4 hb4 h => ?_
  obtain ⟨b5, b6⟩ := b4
  try dsimp only at h
  refine spec_l1Cur_pick_w hb4 hS fun H hS => ?_
  try simp only [W]
  refine seq_n hK3 ?_
  refine w_seq fun K7 hK7 => ?_
  refine w_seq fun K8 hK8 => ?_
  refine w_reg gC ?_
  try simp only [W, Nat.reduceAdd]
  refine w_call h fun b9 hb9 h => ?_
  obtain ⟨b10, b11⟩ := b9
  try dsimp only at h
  refine spec_l1Cur_one_w hb9 hS fun H hS => ?_
  try simp only [W]
  refine seq_n hK8 ?_
  obtain ⟨y16, h, g17⟩ := Option.bind_eq_some_iff.1 h
  refine w_join gC (fun s H => ∃ x12 : Int, ∃ x13 : List Int, ∃ x14 : Int, ∃ x15 : Int, y16 = (x12, x13, x14, x15) ∧ s = [.ptr i0 w0 0 0, u, u, .nil, .int .i64 x12, u, u, u, u, u, u, u, u, u, u, u, u, u, u, u, u, u] ∧ Own H (⟨.ptr i0 w0 0 0, 3, [.agg [.fz (x13.map (AV.int .u8)), .int .i64 x14, .int .u64 x15]]⟩ :: F)) (fun K18 hK18 => ?_) (fun s H hq => ?_)
  · refine w_seq fun K19 hK19 => ?_
    refine w_if ?_
    simp only [W]
    refine w_cnd h (fun hc h => ?_) (fun hc h => ?_)
    · refine w_reg gC ?_
      try simp only [W, Nat.reduceAdd]
      refine w_call h fun b20 hb20 h => ?_
      obtain ⟨b21, b22⟩ := b20
      try dsimp only at h
      refine spec_l1Cur_pick_w hb20 hS fun H hS => ?_
      try simp only [W, EE]
      refine seq_n hK19 ?_
      refine w_kill ?_
      exact cut_n hK18 ⟨_, _, _, _, (Option.some.inj h).symm, rfl, hS⟩
    · refine w_skip ?_
      refine seq_n hK19 ?_
      refine w_kill ?_
      exact cut_n hK18 ⟨_, _, _, _, (Option.some.inj h).symm, rfl, hS⟩
  · obtain ⟨x12, x13, x14, x15, rfl, rfl, hS⟩ := hq
    replace h := g17
    try dsimp only at h
    refine seq_n hK7 ?_
    refine w_seq fun K23 hK23 => ?_
    obtain ⟨y36, hw37, g43⟩ := Option.bind_eq_some_iff.1 h
    refine w_join gC (fun s H => ∃ x31 : List Job, ∃ x33 : List Int, ∃ x34 : Int, ∃ x35 : Int, y36 = (x31, x33, x34, x35) ∧ ∃ v32 : AV, isSl v32 ∧ s = [u, u, u, v32, u, u, u, u, u, u, u, u, u, u, u, u, u, u, u, u, u, u] ∧ Own H (⟨v32, 3, x31.map e_Job⟩ :: ⟨.ptr i0 w0 0 0, 3, [.agg [.fz (x33.map (AV.int .u8)), .int .i64 x34, .int .u64 x35]]⟩ :: F)) (fun K38 hK38 => ?_) (fun s H hq => ?_)
    · refine w_blk fun K39 hK39 => ?_
      refine w_loop gC hw37 (fun x s H => match x with | (x24, x27, x28, x29, x30) => ∃ v25 : AV, isSl v25 ∧ s = [.ptr i0 w0 0 0, u, u, v25, .int .i64 x27, u, u, u, u, u, u, u, u, u, u, u, u, u, u, u, u, u] ∧ Own H (⟨v25, 3, x24.map e_Job⟩ :: ⟨.ptr i0 w0 0 0, 3, [.agg [.fz (x28.map (AV.int .u8)), .int .i64 x29, .int .u64 x30]]⟩ :: F)) ⟨_, isSl_nil, rfl, (hS.nil_ 3)⟩ (fun x y42 s H h hd41 hi K40 hK40 => ?_)
      obtain ⟨x24, x27, x28, x29, x30⟩ := x
      try dsimp only at hi
      obtain ⟨v25, qv25, rfl, hS⟩ := hi
      simp only [spec_l1Cur_jobs_l0] at h
      refine w_seq fun K44 hK44 => ?_
      refine w_seq fun K45 hK45 => ?_
      refine w_reg gC ?_
      try simp only [W, EE, Nat.reduceAdd]
      refine seq_n hK45 ?_
      refine w_if ?_
      simp only [W]
      refine w_cnd h (fun hc h => ?_) (fun hc h => ?_)
      · refine w_skip ?_
        refine seq_n hK44 ?_
        refine w_seq fun K46 hK46 => ?_
        refine w_blk fun K47 hK47 => ?_
        refine w_reg gC ?_
        try simp only [W, Nat.reduceAdd]
        refine w_call h fun b48 hb48 h => ?_
        obtain ⟨b49, b50⟩ := b48
        try dsimp only at h
        refine spec_l1Cur_job_w hb48 (hS.sel 2 [1, 0] (by decide)) fun H hS => ?_
        try simp only [W]
        refine w_lit (el := ([b49] : List Job).map e_Job) hS rfl rfl rfl rfl rfl rfl rfl fun v51 H qv51 hS => ?_
        try simp only [W, EE]
        refine w_appV (l := x24) (c := e_Job) 2 hS rfl qv25 rfl rfl rfl (hS.elems 0 rfl qv51) (fun _ => rfl) rfl h fun v54 H x53 qv54 hm h hS => ?_
        try simp only [W]
        refine blk_n0 hK47 ?_
        refine seq_n hK46 ?_
        refine w_reg gC ?_
        try simp only [W, EE, Nat.reduceAdd]
        exact lp_n hK40 h ⟨_, qv54, rfl, (hS.sel 3 [2, 1] (by decide))⟩
      · refine w_exit ?_
        refine seq_x hK44 ?_
        try obtain rfl := Option.some.inj h
        obtain rfl := hd41 _ rfl
        have h : (some (x24, x28, x29, x30) : Option ((List Job) × (List Int) × Int × Int)) = some (x24, x28, x29, x30) := rfl
        refine lp_x hK40 ?_
        refine blk_e hK39 ?_
        exact cut_n hK38 ⟨_, _, _, _, (Option.some.inj h).symm, _, qv25, rfl, hS⟩
    · obtain ⟨x31, x33, x34, x35, rfl, v32, qv32, rfl, hS⟩ := hq
      replace h := g43
      try dsimp only at h
      refine seq_n hK23 ?_
      refine w_seq fun K58 hK58 => ?_
      refine w_reg gC ?_
      try simp only [W, Nat.reduceAdd]
      refine seq_n hK58 ?_
      refine w_ret ?_
      refine fin_r1 hK0 rfl ?_
      try obtain rfl := Option.some.inj h
      exact hP _ qv32 _ hS
theorem spec_l1In_w {a0 : Int} {a1 : Int} {a2 : Int} {r : (Bool)} (h : spec_l1In a0 a1 a2 = some r) {F : List It} {H : Heap} (hS : Own H (F)) {P : AV → Heap → Prop} (hP : ∀ H', Own H' (F) → P (.bool r) H') : ACall C 153 [.int .i64 a0, .int .i64 a1, .int .i64 a2] H P := by
  refine acall_of gC (res := [.tmp 6]) (n := 15) rfl rfl rfl rfl fun K0 hK0 => ?_
  simp only [W, Nat.reduceSub, Nat.reduceAdd, List.replicate]
  unfold spec_l1In at h
  refine w_seq fun K1 hK1 => ?_
  refine w_reg gC ?_
  try simp only [W, Nat.reduceAdd]
  refine seq_n hK1 ?_
  refine w_seq fun K2 hK2 => ?_
  refine w_reg gC ?_
  try simp only [W, EE, Nat.reduceAdd]
  refine w_grdT h (fun hc h => ?_) (fun hc h => ?_)
  · try simp only [W, EE, reduceIte, hc]
    refine seq_n hK2 ?_
    refine w_ret ?_
    refine fin_r1 hK0 rfl ?_
    try obtain rfl := Option.some.inj h
    exact hP _ hS
  · try simp only [W, hc]
    refine seq_n hK2 ?_
    refine w_ret ?_
    refine fin_r1 hK0 rfl ?_
    try obtain rfl := Option.some.inj h
    exact hP _ hS
theorem spec_l4Job_w {a0 : Job} {r : (Bool)} (h : spec_l4Job a0 = some r) {F : List It} {H : Heap} (hS : Own H (F)) {P : AV → Heap → Prop} (hP : ∀ H', Own H' (F) → P (.bool r) H') : ACall C 200 [.agg [.int .i64 a0.Start, .int .i64 a0.Need, .int .i64 a0.End]] H P := by
  refine acall_of gC (res := [.tmp 2]) (n := 19) rfl rfl rfl rfl fun K0 hK0 => ?_
  simp only [W, Nat.reduceSub, Nat.reduceAdd, List.replicate]
  unfold spec_l4Job at h
  refine w_seq fun K1 hK1 => ?_
  refine w_reg gC ?_
  try simp only [W, Nat.reduceAdd]
  refine w_box hS rfl rfl rfl rfl fun ip2 wp2 H hS => ?_
  try simp only [W]
  refine seq_n hK1 ?_
  refine w_seq fun K4 hK4 => ?_
  refine w_reg gC ?_
  try simp only [W, EE, Nat.reduceAdd, Nat.reduceBEq, hS.var 0 rfl]
  refine w_call h fun b5 hb5 h => ?_
  refine spec_l1In_w hb5 hS fun H hS => ?_
  try simp only [W]
  refine w_grdT h (fun hc h => ?_) (fun hc h => ?_)
  · try simp only [W, EE, Nat.reduceAdd, Nat.reduceBEq, hS.var 0 rfl, hc]
    refine w_call h fun b6 hb6 h => ?_
    refine spec_l1In_w hb6 hS fun H hS => ?_
    try simp only [W, reduceIte]
    refine w_grdT h (fun hc h => ?_) (fun hc h => ?_)
    · try simp only [W, EE, Nat.reduceAdd, Nat.reduceBEq, hS.var 0 rfl, hc]
      refine w_call h fun b7 hb7 h => ?_
      refine spec_l1In_w hb7 hS fun H hS => ?_
      try simp only [W, reduceIte]
      refine seq_n hK4 ?_
      refine w_ret ?_
      refine fin_r1 hK0 rfl ?_
      try obtain rfl := Option.some.inj h
      exact hP _ (hS.sel 1 [] (by decide))
    · try simp only [W, hc]
      refine seq_n hK4 ?_
      refine w_ret ?_
      refine fin_r1 hK0 rfl ?_
      try obtain rfl := Option.some.inj h
      exact hP _ (hS.sel 1 [] (by decide))
  · try simp only [W, hc]
    refine seq_n hK4 ?_
    refine w_ret ?_
    refine fin_r1 hK0 rfl ?_
    try obtain rfl := Option.some.inj h
    exact hP _ (hS.sel 1 [] (by decide))
theorem spec_GoodJobs_w {a0 : List Job} {r : (Bool)} (h : spec_GoodJobs a0 = some r) {F : List It} {H : Heap} (hS : Own H (F)) {P : AV → Heap → Prop} (hP : ∀ H', Own H' (F) → P (.bool r) H') : ACall C 194 [.fz (a0.map e_Job)] H P := by
  refine acall_of gC (res := [.tmp 2]) (n := 18) rfl rfl rfl rfl fun K0 hK0 => ?_
  simp only [W, Nat.reduceSub, Nat.reduceAdd, List.replicate]
  unfold spec_GoodJobs at h
  refine w_seq fun K1 hK1 => ?_
  refine w_reg gC ?_
  try simp only [W, Nat.reduceAdd]
  refine seq_n hK1 ?_
  refine w_seq fun K2 hK2 => ?_
  refine w_seq fun K3 hK3 => ?_
  refine w_reg gC ?_
  try simp only [W, EE, Nat.reduceAdd]
  refine seq_n hK3 ?_
  obtain ⟨y5, hw6, g12⟩ := Option.bind_eq_some_iff.1 h
  refine w_join gC (fun s H => y5 = LR.next () ∧ s = [.fz (a0.map e_Job), u, u, u, u, u, u, u, u, u, u, u, u, u, u, u, u, u] ∧ Own H (F)) (fun K7 hK7 => ?_) (fun s H hq => ?_)
  · refine w_blk fun K8 hK8 => ?_
    refine w_loop gC hw6 (fun x s H => s = [.fz (a0.map e_Job), u, u, u, u, .fz (a0.map e_Job), .int .i64 (a0.length : Int), .int .i64 x, u, u, u, u, u, u, u, u, u, u] ∧ Own H (F)) ⟨rfl, hS⟩ (fun x4 y11 s H h hd10 hi K9 hK9 => ?_)
    skip
    try dsimp only at hi
    obtain ⟨rfl, hS⟩ := hi
    simp only [spec_GoodJobs_l0] at h
    refine w_seq fun K13 hK13 => ?_
    refine w_reg gC ?_
    try simp only [W, EE, Nat.reduceAdd]
    refine seq_n hK13 ?_
    refine w_seq fun K14 hK14 => ?_
    refine w_if ?_
    simp only [W]
    refine w_cnd h (fun hc h => ?_) (fun hc h => ?_)
    · refine w_skip ?_
      refine seq_n hK14 ?_
      refine w_seq fun K15 hK15 => ?_
      refine w_blk fun K16 hK16 => ?_
      refine w_seq fun K17 hK17 => ?_
      refine w_reg gC ?_
      try simp only [W, EE, Nat.reduceAdd]
      refine w_fz rfl rfl rfl (fun _ => rfl) h fun b18 hb18 h => ?_
      try simp only [W, EE, EN, reduceIte, Nat.reduceAdd, Nat.reduceLeDiff]
      refine w_alloc hS rfl rfl fun ip19 wp19 H hS => ?_
      try simp only [W]
      refine w_stv (a := .agg [.int .i64 b18.Start, .int .i64 b18.Need, .int .i64 b18.End]) (y' := .agg [.int .i64 b18.Start, .int .i64 b18.Need, .int .i64 b18.End]) 0 hS rfl rfl rfl rfl rfl rfl rfl rfl fun H hS => ?_
      try simp only [W]
      refine seq_n hK17 ?_
      refine w_seq fun K21 hK21 => ?_
      refine w_reg gC ?_
      try simp only [W, EE, reduceIte, Nat.reduceAdd, Nat.reduceLeDiff, hS.var 0 rfl]
      refine w_call h fun b22 hb22 h => ?_
      refine spec_l4Job_w hb22 hS fun H hS => ?_
      try simp only [W]
      refine seq_n hK21 ?_
      refine w_if ?_
      simp only [W]
      refine w_cnd h (fun hc h => ?_) (fun hc h => ?_)
      · refine w_seq fun K23 hK23 => ?_
        refine w_reg gC ?_
        try simp only [W, Nat.reduceAdd]
        refine seq_n hK23 ?_
        refine w_ret ?_
        refine blk_r hK16 ?_
        refine seq_r hK15 ?_
        try obtain rfl := Option.some.inj h
        obtain rfl := hd10 _ rfl
        have h : (some (LR.done false) : Option (LR Unit (Bool))) = some (LR.done false) := rfl
        refine lp_r hK9 ?_
        refine blk_r hK8 ?_
        try obtain rfl := Option.some.inj h
        obtain rfl := Option.some.inj g12
        have h : (some false : Option (Bool)) = some false := rfl
        refine cut_r hK7 ?_
        refine seq_r hK2 ?_
        refine fin_r1 hK0 rfl ?_
        try obtain rfl := Option.some.inj h
        exact hP _ (hS.sel 1 [] (by decide))
      · refine w_skip ?_
        refine blk_n0 hK16 ?_
        refine seq_n hK15 ?_
        refine w_reg gC ?_
        try simp only [W, EE, Nat.reduceAdd]
        exact lp_n hK9 h ⟨rfl, (hS.sel 1 [] (by decide))⟩
    · refine w_exit ?_
      refine seq_x hK14 ?_
      try obtain rfl := Option.some.inj h
      obtain rfl := hd10 _ rfl
      have h : (some (LR.next ()) : Option (LR Unit (Bool))) = some (LR.next ()) := rfl
      refine lp_x hK9 ?_
      refine blk_e hK8 ?_
      exact cut_n hK7 ⟨(Option.some.inj h).symm, rfl, hS⟩
  · obtain ⟨rfl, rfl, hS⟩ := hq
    replace h := g12
    try dsimp only at h
    refine seq_n hK2 ?_
    refine w_seq fun K30 hK30 => ?_
    refine w_reg gC ?_
    try simp only [W, EE, Nat.reduceAdd]
    refine seq_n hK30 ?_
    refine w_ret ?_
    refine fin_r1 hK0 rfl ?_
    try obtain rfl := Option.some.inj h
    exact hP _ hS
theorem spec_l4Earliest_w {a0 : List Job} {r : (List Int)} (h : spec_l4Earliest a0 = some r) {F : List It} {H : Heap} (hS : Own H (F)) {P : AV → Heap → Prop} (hP : ∀ v89 : AV, isSl v89 → ∀ H', Own H' (⟨v89, 1, r.map (AV.int .i64)⟩ :: F) → P (v89) H') : ACall C 208 [.fz (a0.map e_Job)] H P := by
  refine acall_of gC (res := [.tmp 2]) (n := 65) rfl rfl rfl rfl fun K0 hK0 => ?_
  simp only [W, Nat.reduceSub, Nat.reduceAdd, List.replicate]
  unfold spec_l4Earliest at h
  refine w_seq fun K1 hK1 => ?_
  refine w_reg gC ?_
  try simp only [W, Nat.reduceAdd]
  refine seq_n hK1 ?_
  refine w_seq fun K2 hK2 => ?_
  refine w_reg gC ?_
  try simp only [W, EE, Nat.reduceAdd]
  refine w_make (c := (AV.int .i64)) hS rfl rfl rfl rfl rfl rfl h fun v3 H x5 qv3 hm h hS => ?_
  try simp only [W]
  refine seq_n hK2 ?_
  refine w_seq fun K6 hK6 => ?_
  refine w_reg gC ?_
  try simp only [W, Nat.reduceAdd]
  refine seq_n hK6 ?_
  refine w_seq fun K7 hK7 => ?_
  refine w_seq fun K8 hK8 => ?_
  refine w_reg gC ?_
  try simp only [W, Nat.reduceAdd]
  refine seq_n hK8 ?_
  obtain ⟨y16, hw17, g23⟩ := Option.bind_eq_some_iff.1 h
  refine w_join gC (fun s H => ∃ x14 : List Int, y16 = (x14) ∧ ∃ v15 : AV, isSl v15 ∧ s = [u, u, u, u, v15, u, u, u, u, u, u, u, u, u, u, u, u, u, u, u, u, u, u, u, u, u, u, u, u, u, u, u, u, u, u, u, u, u, u, u, u, u, u, u, u, u, u, u, u, u, u, u, u, u, u, u, u, u, u, u, u, u, u, u, u] ∧ Own H (⟨v15, 1, x14.map (AV.int .i64)⟩ :: F)) (fun K18 hK18 => ?_) (fun s H hq => ?_)
  · refine w_blk fun K19 hK19 => ?_
    refine w_loop gC hw17 (fun x s H => match x with | (x9, x10, x13) => ∃ v11 : AV, isSl v11 ∧ s = [.fz (a0.map e_Job), u, u, v3, v11, .int .i64 x13, u, u, u, u, u, u, u, u, u, u, u, u, u, u, u, u, u, u, u, u, u, u, u, u, u, u, u, u, u, u, u, u, u, u, u, u, u, u, u, u, u, u, u, u, u, u, u, u, u, u, u, u, u, u, u, u, u, u, u] ∧ Own H (⟨v3, 1, x9.map (AV.int .i64)⟩ :: ⟨v11, 1, x10.map (AV.int .i64)⟩ :: F)) ⟨_, isSl_nil, rfl, ((hS.nil_ 1).sel 2 [1, 0] (by decide))⟩ (fun x y22 s H h hd21 hi K20 hK20 => ?_)
    obtain ⟨x9, x10, x13⟩ := x
    try dsimp only at hi
    obtain ⟨v11, qv11, rfl, hS⟩ := hi
    simp only [spec_l4Earliest_l1] at h
    refine w_seq fun K24 hK24 => ?_
    refine w_seq fun K25 hK25 => ?_
    refine w_reg gC ?_
    try simp only [W, EE, Nat.reduceAdd]
    refine seq_n hK25 ?_
    refine w_if ?_
    simp only [W]
    refine w_cnd h (fun hc h => ?_) (fun hc h => ?_)
    · refine w_skip ?_
      refine seq_n hK24 ?_
      refine w_seq fun K26 hK26 => ?_
      refine w_blk fun K27 hK27 => ?_
      refine w_seq fun K28 hK28 => ?_
      refine w_reg gC ?_
      try simp only [W, Nat.reduceAdd]
      refine seq_n hK28 ?_
      refine w_seq fun K29 hK29 => ?_
      refine w_seq fun K30 hK30 => ?_
      refine w_reg gC ?_
      try simp only [W, EE, Nat.reduceAdd]
      refine seq_n hK30 ?_
      obtain ⟨y34, hw35, g41⟩ := Option.bind_eq_some_iff.1 h
      refine w_join gC (fun s H => ∃ x33 : Int, y34 = (x33) ∧ s = [.fz (a0.map e_Job), u, u, v3, v11, .int .i64 x13, .int .i64 x33, u, u, u, u, u, u, u, u, u, u, u, u, u, u, u, u, u, u, u, u, u, u, u, u, u, u, u, u, u, u, u, u, u, u, u, u, u, u, u, u, u, u, u, u, u, u, u, u, u, u, u, u, u, u, u, u, u, u] ∧ Own H (⟨v3, 1, x9.map (AV.int .i64)⟩ :: ⟨v11, 1, x10.map (AV.int .i64)⟩ :: F)) (fun K36 hK36 => ?_) (fun s H hq => ?_)
      · refine w_blk fun K37 hK37 => ?_
        refine w_loop gC hw35 (fun x s H => match x with | (x31, x32) => s = [.fz (a0.map e_Job), u, u, v3, v11, .int .i64 x13, .int .i64 x31, u, u, u, u, u, u, u, u, u, .fz (a0.map e_Job), .int .i64 (a0.length : Int), .int .i64 x32, u, u, u, u, u, u, u, u, u, u, u, u, u, u, u, u, u, u, u, u, u, u, u, u, u, u, u, u, u, u, u, u, u, u, u, u, u, u, u, u, u, u, u, u, u, u] ∧ Own H (⟨v3, 1, x9.map (AV.int .i64)⟩ :: ⟨v11, 1, x10.map (AV.int .i64)⟩ :: F)) ⟨rfl, hS⟩ (fun x y40 s H h hd39 hi K38 hK38 => ?_)
        obtain ⟨x31, x32⟩ := x
        try dsimp only at hi
        obtain ⟨rfl, hS⟩ := hi
        simp only [spec_l4Earliest_l0] at h
        refine w_seq fun K42 hK42 => ?_
        refine w_reg gC ?_
        try simp only [W, EE, Nat.reduceAdd]
        refine seq_n hK42 ?_
        refine w_seq fun K43 hK43 => ?_
        refine w_if ?_
        simp only [W]
        refine w_cnd h (fun hc h => ?_) (fun hc h => ?_)
        · refine w_skip ?_
          refine seq_n hK43 ?_
          refine w_seq fun K44 hK44 => ?_
          obtain ⟨y47, h, g48⟩ := Option.bind_eq_some_iff.1 h
          refine w_join gC (fun s H => ∃ x46 : Int, y47 = (x46) ∧ s = [.fz (a0.map e_Job), u, u, v3, v11, .int .i64 x13, .int .i64 x46, u, u, u, u, u, u, u, u, u, .fz (a0.map e_Job), .int .i64 (a0.length : Int), .int .i64 x32, u, u, u, u, u, u, u, u, u, u, u, u, u, u, u, u, u, u, u, u, u, u, u, u, u, u, u, u, u, u, u, u, u, u, u, u, u, u, u, u, u, u, u, u, u, u] ∧ Own H (⟨v3, 1, x9.map (AV.int .i64)⟩ :: ⟨v11, 1, x10.map (AV.int .i64)⟩ :: F)) (fun K49 hK49 => ?_) (fun s H hq => ?_)
          · refine w_blk fun K45 hK45 => ?_
            refine w_seq fun K50 hK50 => ?_
            refine w_reg gC ?_
            try simp only [W, EE, Nat.reduceAdd]
            refine w_fz rfl rfl rfl (fun _ => rfl) h fun b51 hb51 h => ?_
            try simp only [W, EE, EN, reduceIte, Nat.reduceAdd, Nat.reduceLeDiff]
            refine w_alloc hS rfl rfl fun ip52 wp52 H hS => ?_
            try simp only [W]
            refine w_stv (a := .agg [.int .i64 b51.Start, .int .i64 b51.Need, .int .i64 b51.End]) (y' := .agg [.int .i64 b51.Start, .int .i64 b51.Need, .int .i64 b51.End]) 0 hS rfl rfl rfl rfl rfl rfl rfl rfl fun H hS => ?_
            try simp only [W]
            refine seq_n hK50 ?_
            refine w_seq fun K54 hK54 => ?_
            obtain ⟨y56, h, g57⟩ := Option.bind_eq_some_iff.1 h
            refine w_join gC (fun s H => ∃ x55 : Bool, y56 = (x55) ∧ s = [.fz (a0.map e_Job), u, u, v3, v11, .int .i64 x13, .int .i64 x31, .int .i64 x32, u, u, u, u, u, u, u, u, .fz (a0.map e_Job), .int .i64 (a0.length : Int), .int .i64 x32, u, u, u, u, u, u, u, u, u, u, u, u, u, u, u, u, u, u, u, u, u, u, u, u, u, u, u, u, u, u, .bool x55, u, u, u, u, u, u, u, u, u, u, u, u, u, u, u] ∧ Own H (⟨v3, 1, x9.map (AV.int .i64)⟩ :: ⟨v11, 1, x10.map (AV.int .i64)⟩ :: F)) (fun K58 hK58 => ?_) (fun s H hq => ?_)
            · refine w_seq fun K59 hK59 => ?_
              refine w_draw0 gC (by kernel_rfl) ?_
              try simp only [W, EE, Nat.reduceAdd, Nat.reduceBEq, hS.var 0 rfl]
              refine w_grdT h (fun hc h => ?_) (fun hc h => ?_)
              · try simp only [W, EE, hc]
                refine w_ow 1 hS rfl rfl rfl rfl rfl h (fun b60 in61 wn61 on61 hb60 h en61 => ?_) qv3.ne
                obtain ⟨kn61, hbn61, hen61⟩ := hS.elem 1 rfl en61 hb60
                try simp only [W, EE, reduceIte, Nat.reduceAdd, Nat.reduceBEq, hS.var 0 rfl, hbn61, hen61]
                refine w_grdT h (fun hc h => ?_) (fun hc h => ?_)
                · try simp only [W, EE, hc]
                  refine w_grdT h (fun hc h => ?_) (fun hc h => ?_)
                  · try simp only [W, reduceIte, hc]
                    refine seq_n hK59 ?_
                    refine w_kill ?_
                    exact cut_n hK58 ⟨_, (Option.some.inj h).symm, rfl, (hS.sel 3 [1, 2] (by decide))⟩
                  · try simp only [W, EE, Nat.reduceAdd, Nat.reduceBEq, hS.var 0 rfl, hc]
                    refine w_fz rfl rfl rfl (fun _ => rfl) h fun b62 hb62 h => ?_
                    try simp only [W, EE, EN, reduceIte, Nat.reduceAdd, Nat.reduceBEq, Bool.false_eq_true]
                    refine seq_n hK59 ?_
                    refine w_kill ?_
                    exact cut_n hK58 ⟨_, (Option.some.inj h).symm, rfl, (hS.sel 3 [1, 2] (by decide))⟩
                · try simp only [W, hc]
                  refine seq_n hK59 ?_
                  refine w_kill ?_
                  exact cut_n hK58 ⟨_, (Option.some.inj h).symm, rfl, (hS.sel 3 [1, 2] (by decide))⟩
              · try simp only [W, hc]
                refine seq_n hK59 ?_
                refine w_kill ?_
                exact cut_n hK58 ⟨_, (Option.some.inj h).symm, rfl, (hS.sel 3 [1, 2] (by decide))⟩
            · obtain ⟨x55, ey, rfl, hS⟩ := hq; obtain rfl := ey.symm
              replace h := g57
              try dsimp only at h
              refine seq_n hK54 ?_
              obtain ⟨y64, h, g65⟩ := Option.bind_eq_some_iff.1 h
              refine w_join gC (fun s H => ∃ x63 : Int, y64 = (x63) ∧ s = [.fz (a0.map e_Job), u, u, v3, v11, .int .i64 x13, .int .i64 x63, u, u, u, u, u, u, u, u, u, .fz (a0.map e_Job), .int .i64 (a0.length : Int), .int .i64 x32, u, u, u, u, u, u, u, u, u, u, u, u, u, u, u, u, u, u, u, u, u, u, u, u, u, u, u, u, u, u, u, u, u, u, u, u, u, u, u, u, u, u, u, u, u, u] ∧ Own H (⟨v3, 1, x9.map (AV.int .i64)⟩ :: ⟨v11, 1, x10.map (AV.int .i64)⟩ :: F)) (fun K66 hK66 => ?_) (fun s H hq => ?_)
              · refine w_seq fun K67 hK67 => ?_
                refine w_if ?_
                simp only [W]
                refine w_cnd h (fun hc h => ?_) (fun hc h => ?_)
                · refine w_reg gC ?_
                  try simp only [W, Nat.reduceAdd]
                  refine seq_n hK67 ?_
                  refine w_kill ?_
                  exact cut_n hK66 ⟨_, (Option.some.inj h).symm, rfl, hS⟩
                · refine w_skip ?_
                  refine seq_n hK67 ?_
                  refine w_kill ?_
                  exact cut_n hK66 ⟨_, (Option.some.inj h).symm, rfl, hS⟩
              · obtain ⟨x63, ey, rfl, hS⟩ := hq; obtain rfl := ey.symm
                replace h := g65
                try dsimp only at h
                refine blk_n hK45 ?_
                exact cut_n hK49 ⟨_, (Option.some.inj h).symm, rfl, hS⟩
          · obtain ⟨x46, ey, rfl, hS⟩ := hq; obtain rfl := ey.symm
            replace h := g48
            try dsimp only at h
            refine seq_n hK44 ?_
            refine w_reg gC ?_
            try simp only [W, EE, Nat.reduceAdd]
            exact lp_n hK38 h ⟨rfl, hS⟩
        · refine w_exit ?_
          refine seq_x hK43 ?_
          try obtain rfl := Option.some.inj h
          obtain rfl := hd39 _ rfl
          have h : (some (x31) : Option (Int)) = some (x31) := rfl
          refine lp_x hK38 ?_
          refine blk_e hK37 ?_
          exact cut_n hK36 ⟨_, (Option.some.inj h).symm, rfl, hS⟩
      · obtain ⟨x33, ey, rfl, hS⟩ := hq; obtain rfl := ey.symm
        replace h := g41
        try dsimp only at h
        refine seq_n hK29 ?_
        refine w_seq fun K70 hK70 => ?_
        refine w_seq fun K71 hK71 => ?_
        refine w_reg gC ?_
        try simp only [W, EE, Nat.reduceAdd]
        refine seq_n hK71 ?_
        obtain ⟨y73, h, g74⟩ := Option.bind_eq_some_iff.1 h
        refine w_join gC (fun s H => ∃ x72 : List Int, y73 = (x72) ∧ s = [.fz (a0.map e_Job), u, u, v3, v11, .int .i64 x13, .int .i64 x33, u, u, u, u, u, u, u, u, u, u, u, u, u, u, u, u, u, u, u, u, u, u, u, u, u, u, u, u, u, u, u, u, u, u, u, u, u, u, u, u, u, u, u, u, u, u, u, u, u, u, u, u, u, u, u, u, u, u] ∧ Own H (⟨v3, 1, x72.map (AV.int .i64)⟩ :: ⟨v11, 1, x10.map (AV.int .i64)⟩ :: F)) (fun K75 hK75 => ?_) (fun s H hq => ?_)
        · refine w_seq fun K76 hK76 => ?_
          refine w_if ?_
          simp only [W]
          refine w_cnd h (fun hc h => ?_) (fun hc h => ?_)
          · refine w_reg gC ?_
            try simp only [W, EE, Nat.reduceAdd]
            refine w_ow 0 hS rfl rfl rfl rfl rfl h (fun b77 in78 wn78 on78 hb77 h en78 => ?_) qv3.ne
            obtain ⟨kn78, hbn78, hen78⟩ := hS.elem 0 rfl en78 hb77
            try simp only [W, EE, hbn78, hen78]
            refine w_ow 0 hS rfl rfl rfl rfl rfl h (fun b79 in80 wn80 on80 hb79 h en80 => ?_) qv3.ne
            obtain ⟨kn80, hbn80, hen80⟩ := hS.elem 0 rfl en80 hb79
            try simp only [W]
            refine w_ste (a := .int .i64 (IntKind.i64.wrap (b77 + 1))) (y' := (IntKind.i64.wrap (b77 + 1))) 0 hS rfl en80 hb79 rfl rfl rfl rfl rfl rfl rfl fun H hS => ?_
            try simp only [W]
            refine seq_n hK76 ?_
            refine w_kill ?_
            exact cut_n hK75 ⟨_, (Option.some.inj h).symm, rfl, hS⟩
          · refine w_skip ?_
            refine seq_n hK76 ?_
            refine w_kill ?_
            exact cut_n hK75 ⟨_, (Option.some.inj h).symm, rfl, hS⟩
        · obtain ⟨x72, ey, rfl, hS⟩ := hq; obtain rfl := ey.symm
          replace h := g74
          try dsimp only at h
          refine seq_n hK70 ?_
          refine w_reg gC ?_
          try simp only [W, Nat.reduceAdd]
          refine w_lit (el := ([x33] : List Int).map (AV.int .i64)) hS rfl rfl rfl rfl rfl rfl rfl fun v81 H qv81 hS => ?_
          try simp only [W, EE]
          refine w_appV (l := x10) (c := (AV.int .i64)) 2 hS rfl qv11 rfl rfl rfl (hS.elems 0 rfl qv81) (fun _ => rfl) rfl h fun v84 H x83 qv84 hm h hS => ?_
          try simp only [W]
          refine blk_n0 hK27 ?_
          refine seq_n hK26 ?_
          refine w_reg gC ?_
          try simp only [W, EE, Nat.reduceAdd]
          exact lp_n hK20 h ⟨_, qv84, rfl, (hS.sel 3 [1, 2] (by decide))⟩
    · refine w_exit ?_
      refine seq_x hK24 ?_
      try obtain rfl := Option.some.inj h
      obtain rfl := hd21 _ rfl
      have h : (some (x10) : Option ((List Int))) = some (x10) := rfl
      refine lp_x hK20 ?_
      refine blk_e hK19 ?_
      exact cut_n hK18 ⟨_, (Option.some.inj h).symm, _, qv11, rfl, (hS.sel 2 [1] (by decide))⟩
  · obtain ⟨x14, ey, v15, qv15, rfl, hS⟩ := hq; obtain rfl := ey.symm
    replace h := g23
    try dsimp only at h
    refine seq_n hK7 ?_
    refine w_seq fun K88 hK88 => ?_
    refine w_reg gC ?_
    try simp only [W, Nat.reduceAdd]
    refine seq_n hK88 ?_
    refine w_ret ?_
    refine fin_r1 hK0 rfl ?_
    try obtain rfl := Option.some.inj h
    exact hP _ qv15 _ hS
theorem spec_EarliestFirst_w {a0 : List Job} {r : (List Int × Bool)} (h : spec_EarliestFirst a0 = some r) {F : List It} {H : Heap} (hS : Own H (F)) {P : AV → Heap → Prop} (hP : ∀ v10 : AV, isSl v10 → ∀ H', Own H' (⟨v10, 1, r.1.map (AV.int .i64)⟩ :: F) → P (.tup [v10, .bool r.2]) H') : ACall C 77 [.fz (a0.map e_Job)] H P := by
  refine acall_of gC (res := [.tmp 2, .tmp 3]) (n := 9) rfl rfl rfl rfl fun K0 hK0 => ?_
  simp only [W, Nat.reduceSub, Nat.reduceAdd, List.replicate]
  unfold spec_EarliestFirst at h
  refine w_seq fun K1 hK1 => ?_
  refine w_reg gC ?_
  try simp only [W, Nat.reduceAdd]
  refine seq_n hK1 ?_
  refine w_seq fun K2 hK2 => ?_
  refine w_seq fun K3 hK3 => ?_
  refine w_reg gC ?_
  try simp only [W, Nat.reduceAdd]
  refine w_call h fun b4 hb4 h => ?_
  refine spec_GoodJobs_w hb4 hS fun H hS => ?_
  try simp only [W]
  refine seq_n hK3 ?_
  refine w_if ?_
  simp only [W]
  refine w_cnd h (fun hc h => ?_) (fun hc h => ?_)
  · refine w_seq fun K5 hK5 => ?_
    refine w_reg gC ?_
    try simp only [W, Nat.reduceAdd]
    refine seq_n hK5 ?_
    refine w_ret ?_
    refine seq_r hK2 ?_
    refine fin_r2 hK0 rfl rfl ?_
    try obtain rfl := Option.some.inj h
    exact hP _ isSl_nil _ (hS.nil_ 1)
  · refine w_skip ?_
    refine seq_n hK2 ?_
    refine w_seq fun K6 hK6 => ?_
    refine w_reg gC ?_
    try simp only [W, Nat.reduceAdd]
    refine w_call h fun b7 hb7 h => ?_
    refine spec_l4Earliest_w hb7 hS fun v8 qv8 H hS => ?_
    try simp only [W]
    refine seq_n hK6 ?_
    refine w_ret ?_
    refine fin_r2 hK0 rfl rfl ?_
    try obtain rfl := Option.some.inj h
    exact hP _ qv8 _ hS
theorem spec_DrawIsSchedule_w {a0 : List Int} {r : (List Job × List Int)} (h : spec_DrawIsSchedule a0 = some r) {F : List It} {H : Heap} (hS : Own H (F)) {P : AV → Heap → Prop} (hP : ∀ v96 : AV, isSl v96 → ∀ v98 : AV, isSl v98 → ∀ H', Own H' (⟨v96, 3, r.1.map e_Job⟩ :: ⟨v98, 1, r.2.map (AV.int .i64)⟩ :: F) → P (.tup [v96, v98]) H') : ACall C 81 [.fz (a0.map (AV.int .u8))] H P := by
  refine acall_of gC (res := [.tmp 2, .tmp 3]) (n := 74) rfl rfl rfl rfl fun K0 hK0 => ?_
  simp only [W, Nat.reduceSub, Nat.reduceAdd, List.replicate]
  unfold spec_DrawIsSchedule at h
  refine w_seq fun K1 hK1 => ?_
  refine w_reg gC ?_
  try simp only [W, Nat.reduceAdd]
  refine seq_n hK1 ?_
  refine w_seq fun K2 hK2 => ?_
  refine w_reg gC ?_
  try simp only [W, EE, Nat.reduceAdd]
  refine w_bld rfl rfl rfl rfl rfl ?_
  try simp only [W]
  refine w_box hS rfl rfl rfl rfl fun ip3 wp3 H hS => ?_
  try simp only [W]
  refine seq_n hK2 ?_
  refine w_seq fun K5 hK5 => ?_
  refine w_reg gC ?_
  try simp only [W, Nat.reduceAdd]
  refine w_call h fun b6 hb6 h => ?_
  obtain ⟨b7, b8⟩ := b6
  try dsimp only at h
  refine spec_l1Cur_jobs_w hb6 hS fun v9 qv9 H hS => ?_
  try simp only [W]
  refine seq_n hK5 ?_
  refine w_seq fun K11 hK11 => ?_
  refine w_reg gC ?_
  try simp only [W, Nat.reduceAdd, Nat.reduceBEq, List.contains_cons, Nat.reduceBEq, Bool.or_self]
  refine w_callO (rsh := [[.sl [.sc]], [.sc]]) (ys := [.fz (b7.map e_Job)]) h rfl (pv_c (sn_ow hS 0 rfl qv9 (fun _ => rfl)) pv_n) fun b12 hb12 h => ⟨.tup [.own 1 (b12.1.map (AV.int .i64)), .bool b12.2], spec_EarliestFirst_w hb12 (Own.nil _) fun v15 qv15 H hS => TV_ok rfl (TV_o 0 hS rfl qv15 (fun _ _ => by simp [takeE, takeT, plainA]) fun H hS => TV_p rfl (TV_n rfl)), (nf_t (nf_c (noFz_o _ (fun _ => rfl) _) (nf_c rfl nf_n))), ?_⟩
  refine thaw_tup ?_
  refine TH_o hS (fun _ _ => rfl) (fun _ => rfl) fun v17 H qv17 hS => ?_
  refine TH_p (fun _ => rfl) ?_
  refine TH_n ?_
  try simp only [List.headD_cons]
  obtain ⟨b13, b14⟩ := b12
  try dsimp only at h
  try simp only [W]
  refine seq_n hK11 ?_
  refine w_seq fun K18 hK18 => ?_
  refine w_seq fun K19 hK19 => ?_
  refine w_reg gC ?_
  try simp only [W, Nat.reduceAdd]
  refine w_call h fun b20 hb20 h => ?_
  obtain ⟨b21, b22⟩ := b20
  try dsimp only at h
  refine spec_l1Cur_pick_w hb20 (hS.sel 3 [2, 0, 1] (by decide)) fun H hS => ?_
  try simp only [W]
  refine seq_n hK19 ?_
  obtain ⟨y32, hw33, g39⟩ := Option.bind_eq_some_iff.1 h
  refine w_join gC (fun s H => ∃ x28 : List Int, ∃ x29 : List Int, ∃ x30 : Int, ∃ x31 : Int, y32 = (x28, x29, x30, x31) ∧ s = [u, u, u, u, .ptr ip3 wp3 0 0, v9, v17, u, u, u, u, u, u, u, u, u, u, u, u, u, u, u, u, u, u, u, u, u, u, u, u, u, u, u, u, u, u, u, u, u, u, u, u, u, u, u, u, u, u, u, u, u, u, u, u, u, u, u, u, u, u, u, u, u, u, u, u, u, u, u, u, u, u, u] ∧ Own H (⟨v9, 3, b7.map e_Job⟩ :: ⟨v17, 1, x28.map (AV.int .i64)⟩ :: ⟨.ptr ip3 wp3 0 0, 3, [.agg [.fz (x29.map (AV.int .u8)), .int .i64 x30, .int .u64 x31]]⟩ :: F)) (fun K34 hK34 => ?_) (fun s H hq => ?_)
  · refine w_blk fun K35 hK35 => ?_
    refine w_loop gC hw33 (fun x s H => match x with | (x23, x24, x25, x26, x27) => s = [u, u, u, u, .ptr ip3 wp3 0 0, v9, v17, u, .int .i64 x24, u, u, u, u, u, u, u, u, u, u, u, u, u, u, u, u, u, u, u, u, u, u, u, u, u, u, u, u, u, u, u, u, u, u, u, u, u, u, u, u, u, u, u, u, u, u, u, u, u, u, u, u, u, u, u, u, u, u, u, u, u, u, u, u, u] ∧ Own H (⟨v9, 3, b7.map e_Job⟩ :: ⟨v17, 1, x23.map (AV.int .i64)⟩ :: ⟨.ptr ip3 wp3 0 0, 3, [.agg [.fz (x25.map (AV.int .u8)), .int .i64 x26, .int .u64 x27]]⟩ :: F)) ⟨rfl, (hS.sel 3 [2, 1, 0] (by decide))⟩ (fun x y38 s H h hd37 hi K36 hK36 => ?_)
    obtain ⟨x23, x24, x25, x26, x27⟩ := x
    try dsimp only at hi
    obtain ⟨rfl, hS⟩ := hi
    simp only [spec_DrawIsSchedule_l0] at h
    refine w_seq fun K40 hK40 => ?_
    refine w_seq fun K41 hK41 => ?_
    obtain ⟨y43, h, g44⟩ := Option.bind_eq_some_iff.1 h
    refine w_join gC (fun s H => ∃ x42 : Bool, y43 = (x42) ∧ s = [u, u, u, u, .ptr ip3 wp3 0 0, v9, v17, u, .int .i64 x24, u, u, u, u, u, u, u, u, u, u, u, u, u, u, u, u, u, u, u, u, u, .bool x42, u, u, u, u, u, u, u, u, u, u, u, u, u, u, u, u, u, u, u, u, u, u, u, u, u, u, u, u, u, u, u, u, u, u, u, u, u, u, u, u, u, u, u] ∧ Own H (⟨v9, 3, b7.map e_Job⟩ :: ⟨v17, 1, x23.map (AV.int .i64)⟩ :: ⟨.ptr ip3 wp3 0 0, 3, [.agg [.fz (x25.map (AV.int .u8)), .int .i64 x26, .int .u64 x27]]⟩ :: F)) (fun K45 hK45 => ?_) (fun s H hq => ?_)
    · refine w_seq fun K46 hK46 => ?_
      refine w_reg gC ?_
      try simp only [W, EE, Nat.reduceAdd]
      refine w_grdT h (fun hc h => ?_) (fun hc h => ?_)
      · try simp only [W, EE, hc]
        refine w_len 1 hS rfl qv17 rfl ?_
        try simp only [W, EE, reduceIte]
        refine seq_n hK46 ?_
        refine w_kill ?_
        exact cut_n hK45 ⟨_, (Option.some.inj h).symm, rfl, hS⟩
      · try simp only [W, hc]
        refine seq_n hK46 ?_
        refine w_kill ?_
        exact cut_n hK45 ⟨_, (Option.some.inj h).symm, rfl, hS⟩
    · obtain ⟨x42, ey, rfl, hS⟩ := hq; obtain rfl := ey.symm
      replace h := g44
      try dsimp only at h
      refine seq_n hK41 ?_
      refine w_if ?_
      simp only [W]
      refine w_cnd h (fun hc h => ?_) (fun hc h => ?_)
      · refine w_skip ?_
        refine seq_n hK40 ?_
        refine w_seq fun K47 hK47 => ?_
        refine w_blk fun K48 hK48 => ?_
        refine w_seq fun K49 hK49 => ?_
        refine w_reg gC ?_
        try simp only [W, EE, Nat.reduceAdd]
        refine w_len 1 hS rfl qv17 rfl ?_
        try simp only [W]
        refine w_call h fun b50 hb50 h => ?_
        obtain ⟨b51, b52⟩ := b50
        try dsimp only at h
        refine spec_l1Cur_pick_w hb50 (hS.sel 3 [2, 0, 1] (by decide)) fun H hS => ?_
        try simp only [W]
        refine seq_n hK49 ?_
        refine w_seq fun K53 hK53 => ?_
        refine w_reg gC ?_
        try simp only [W, EE, Nat.reduceAdd]
        refine w_len 2 hS rfl qv17 rfl ?_
        try simp only [W]
        refine w_call h fun b54 hb54 h => ?_
        obtain ⟨b55, b56⟩ := b54
        try dsimp only at h
        refine spec_l1Cur_pick_w hb54 hS fun H hS => ?_
        try simp only [W]
        refine seq_n hK53 ?_
        refine w_seq fun K57 hK57 => ?_
        refine w_reg gC ?_
        try simp only [W, EE, Nat.reduceAdd]
        refine w_ow 2 hS rfl rfl rfl rfl rfl h (fun b58 in59 wn59 on59 hb58 h en59 => ?_) qv17.ne
        obtain ⟨kn59, hbn59, hen59⟩ := hS.elem 2 rfl en59 hb58
        try simp only [W, EE, hbn59, hen59]
        refine seq_n hK57 ?_
        refine w_seq fun K60 hK60 => ?_
        refine w_reg gC ?_
        try simp only [W, EE, Nat.reduceAdd]
        refine w_ow 2 hS rfl rfl rfl rfl rfl h (fun b61 in62 wn62 on62 hb61 h en62 => ?_) qv17.ne
        obtain ⟨kn62, hbn62, hen62⟩ := hS.elem 2 rfl en62 hb61
        try simp only [W, EE, hbn62, hen62]
        refine w_ow 2 hS rfl rfl rfl rfl rfl h (fun b63 in64 wn64 on64 hb63 h en64 => ?_) qv17.ne
        obtain ⟨kn64, hbn64, hen64⟩ := hS.elem 2 rfl en64 hb63
        try simp only [W]
        refine w_ste (a := .int .i64 b61) (y' := b61) 2 hS rfl en64 hb63 rfl rfl rfl rfl rfl rfl rfl fun H hS => ?_
        try simp only [W]
        refine seq_n hK60 ?_
        refine w_reg gC ?_
        try simp only [W, EE, Nat.reduceAdd]
        refine w_ow 2 hS rfl rfl rfl rfl rfl h (fun b65 in66 wn66 on66 hb65 h en66 => ?_) qv17.ne
        obtain ⟨kn66, hbn66, hen66⟩ := hS.elem 2 rfl en66 hb65
        try simp only [W]
        refine w_ste (a := .int .i64 b58) (y' := b58) 2 hS rfl en66 hb65 rfl rfl rfl rfl rfl rfl rfl fun H hS => ?_
        try simp only [W]
        refine blk_n0 hK48 ?_
        refine seq_n hK47 ?_
        refine w_reg gC ?_
        try simp only [W, EE, Nat.reduceAdd]
        exact lp_n hK36 h ⟨rfl, (hS.sel 3 [1, 2, 0] (by decide))⟩
      · refine w_exit ?_
        refine seq_x hK40 ?_
        try obtain rfl := Option.some.inj h
        obtain rfl := hd37 _ rfl
        have h : (some (x23, x25, x26, x27) : Option ((List Int) × (List Int) × Int × Int)) = some (x23, x25, x26, x27) := rfl
        refine lp_x hK36 ?_
        refine blk_e hK35 ?_
        exact cut_n hK34 ⟨_, _, _, _, (Option.some.inj h).symm, rfl, hS⟩
  · obtain ⟨x28, x29, x30, x31, rfl, rfl, hS⟩ := hq
    replace h := g39
    try dsimp only at h
    refine seq_n hK18 ?_
    refine w_seq fun K69 hK69 => ?_
    refine w_seq fun K70 hK70 => ?_
    obtain ⟨y75, h, g76⟩ := Option.bind_eq_some_iff.1 h
    refine w_join gC (fun s H => ∃ x71 : Bool, ∃ x72 : List Int, ∃ x73 : Int, ∃ x74 : Int, y75 = (x71, x72, x73, x74) ∧ s = [u, u, u, u, .ptr ip3 wp3 0 0, v9, v17, u, u, u, u, u, u, u, u, u, u, u, u, u, u, u, u, u, u, u, u, u, u, u, u, u, u, u, u, u, u, u, u, u, u, u, u, u, u, u, u, u, u, u, u, u, u, u, u, u, u, u, u, u, u, u, .bool x71, u, u, u, u, u, u, u, u, u, u, u] ∧ Own H (⟨v9, 3, b7.map e_Job⟩ :: ⟨v17, 1, x28.map (AV.int .i64)⟩ :: ⟨.ptr ip3 wp3 0 0, 3, [.agg [.fz (x72.map (AV.int .u8)), .int .i64 x73, .int .u64 x74]]⟩ :: F)) (fun K77 hK77 => ?_) (fun s H hq => ?_)
    · refine w_seq fun K78 hK78 => ?_
      refine w_reg gC ?_
      try simp only [W, EE, Nat.reduceAdd]
      refine w_len 1 hS rfl qv17 rfl ?_
      try simp only [W, EE]
      refine w_grdT h (fun hc h => ?_) (fun hc h => ?_)
      · try simp only [W, hc]
        refine w_call h fun b79 hb79 h => ?_
        obtain ⟨b80, b81⟩ := b79
        try dsimp only at h
        refine spec_l1Cur_one_w hb79 (hS.sel 3 [2, 0, 1] (by decide)) fun H hS => ?_
        try simp only [W, reduceIte]
        refine seq_n hK78 ?_
        refine w_kill ?_
        exact cut_n hK77 ⟨_, _, _, _, (Option.some.inj h).symm, rfl, (hS.sel 3 [1, 2, 0] (by decide))⟩
      · try simp only [W, hc]
        refine seq_n hK78 ?_
        refine w_kill ?_
        exact cut_n hK77 ⟨_, _, _, _, (Option.some.inj h).symm, rfl, hS⟩
    · obtain ⟨x71, x72, x73, x74, rfl, rfl, hS⟩ := hq
      replace h := g76
      try dsimp only at h
      refine seq_n hK70 ?_
      obtain ⟨y83, h, g84⟩ := Option.bind_eq_some_iff.1 h
      refine w_join gC (fun s H => ∃ x82 : List Int, y83 = (x82) ∧ s = [u, u, u, u, u, v9, v17, u, u, u, u, u, u, u, u, u, u, u, u, u, u, u, u, u, u, u, u, u, u, u, u, u, u, u, u, u, u, u, u, u, u, u, u, u, u, u, u, u, u, u, u, u, u, u, u, u, u, u, u, u, u, u, u, u, u, u, u, u, u, u, u, u, u, u] ∧ Own H (⟨v9, 3, b7.map e_Job⟩ :: ⟨v17, 1, x82.map (AV.int .i64)⟩ :: F)) (fun K85 hK85 => ?_) (fun s H hq => ?_)
      · refine w_seq fun K86 hK86 => ?_
        refine w_if ?_
        simp only [W]
        refine w_cnd h (fun hc h => ?_) (fun hc h => ?_)
        · refine w_reg gC ?_
          try simp only [W, EE, Nat.reduceAdd]
          refine w_len 1 hS rfl qv17 rfl ?_
          try simp only [W]
          refine w_call h fun b87 hb87 h => ?_
          obtain ⟨b88, b89⟩ := b87
          try dsimp only at h
          refine spec_l1Cur_pick_w hb87 (hS.sel 3 [2, 0, 1] (by decide)) fun H hS => ?_
          try simp only [W]
          refine w_call h fun b90 hb90 h => ?_
          obtain ⟨b91, b92⟩ := b90
          try dsimp only at h
          refine spec_l1Cur_pick_w hb90 hS fun H hS => ?_
          try simp only [W, EE]
          refine w_ow 2 hS rfl rfl rfl rfl rfl h (fun b93 in94 wn94 on94 hb93 h en94 => ?_) qv17.ne
          obtain ⟨kn94, hbn94, hen94⟩ := hS.elem 2 rfl en94 hb93
          try simp only [W]
          refine w_ste (a := .int .i64 (IntKind.i64.wrap (b91 - 2))) (y' := (IntKind.i64.wrap (b91 - 2))) 2 hS rfl en94 hb93 rfl rfl rfl rfl rfl rfl rfl fun H hS => ?_
          try simp only [W]
          refine seq_n hK86 ?_
          refine w_kill ?_
          exact cut_n hK85 ⟨_, (Option.some.inj h).symm, rfl, (hS.sel 3 [1, 2] (by decide))⟩
        · refine w_skip ?_
          refine seq_n hK86 ?_
          refine w_kill ?_
          exact cut_n hK85 ⟨_, (Option.some.inj h).symm, rfl, (hS.sel 3 [0, 1] (by decide))⟩
      · obtain ⟨x82, ey, rfl, hS⟩ := hq; obtain rfl := ey.symm
        replace h := g84
        try dsimp only at h
        refine seq_n hK69 ?_
        refine w_seq fun K95 hK95 => ?_
        refine w_reg gC ?_
        try simp only [W, Nat.reduceAdd]
        refine seq_n hK95 ?_
        refine w_ret ?_
        refine fin_r2 hK0 rfl rfl ?_
        try obtain rfl := Option.some.inj h
        exact hP _ qv9 _ qv17 _ hS
theorem spec_DrawLateIn_w {a0 : List Int} {r : (List Job × List Int)} (h : spec_DrawLateIn a0 = some r) {F : List It} {H : Heap} (hS : Own H (F)) {P : AV → Heap → Prop} (hP : ∀ v10 : AV, isSl v10 → ∀ v12 : AV, isSl v12 → ∀ H', Own H' (⟨v10, 3, r.1.map e_Job⟩ :: ⟨v12, 1, r.2.map (AV.int .i64)⟩ :: F) → P (.tup [v10, v12]) H') : ACall C 73 [.fz (a0.map (AV.int .u8))] H P := by
  refine acall_of gC (res := [.tmp 2, .tmp 3]) (n := 8) rfl rfl rfl rfl fun K0 hK0 => ?_
  simp only [W, Nat.reduceSub, Nat.reduceAdd, List.replicate]
  unfold spec_DrawLateIn at h
  refine w_seq fun K1 hK1 => ?_
  refine w_reg gC ?_
  try simp only [W, Nat.reduceAdd]
  refine seq_n hK1 ?_
  refine w_seq fun K2 hK2 => ?_
  refine w_reg gC ?_
  try simp only [W, Nat.reduceAdd]
  refine w_call h fun b3 hb3 h => ?_
  obtain ⟨b4, b5⟩ := b3
  try dsimp only at h
  refine spec_DrawIsSchedule_w hb3 hS fun v6 qv6 v8 qv8 H hS => ?_
  try simp only [W]
  refine seq_n hK2 ?_
  refine w_ret ?_
  refine fin_r2 hK0 rfl rfl ?_
  try obtain rfl := Option.some.inj h
  exact hP _ qv6 _ qv8 _ hS
theorem slices_IndexFunc_impl_Job_w {a0 : List Job} {g1 : Job → Option Bool} {f1 : FuncId} {c1 : List AV} {r : (Int)} (h : slices_IndexFunc_impl_Job a0 g1 = some r) {F : List It} {H : Heap} (hg1 : ∀ {x0 : Job} {r : Bool}, g1 x0 = some r → ∀ (L : List It) (n : Nat), L.drop n = F → ∀ (H : Heap), Own H L → ∀ (P : AV → Heap → Prop), (∀ H', Own H' L → P (.bool r) H') → ACall C f1 ([.agg [.int .i64 x0.Start, .int .i64 x0.Need, .int .i64 x0.End]] ++ c1) H P) (hS : Own H (F)) {P : AV → Heap → Prop} (hP : ∀ H', Own H' (F) → P (.int .i64 r) H') : ACall C 273 [.fz (a0.map e_Job), .fn f1 c1] H P := by
  refine acall_of gC (res := [.tmp 4]) (n := 19) rfl rfl rfl rfl fun K0 hK0 => ?_
  simp only [W, Nat.reduceSub, Nat.reduceAdd, List.replicate]
  unfold slices_IndexFunc_impl_Job at h
  refine w_seq fun K1 hK1 => ?_
  refine w_reg gC ?_
  try simp only [W, Nat.reduceAdd]
  refine seq_n hK1 ?_
  refine w_seq fun K2 hK2 => ?_
  refine w_seq fun K3 hK3 => ?_
  refine w_reg gC ?_
  try simp only [W, EE, Nat.reduceAdd]
  refine seq_n hK3 ?_
  obtain ⟨y5, hw6, g12⟩ := Option.bind_eq_some_iff.1 h
  refine w_join gC (fun s H => y5 = LR.next () ∧ s = [u, u, u, u, u, u, u, u, u, u, u, u, u, u, u, u, u, u, u] ∧ Own H (F)) (fun K7 hK7 => ?_) (fun s H hq => ?_)
  · refine w_blk fun K8 hK8 => ?_
    refine w_loop gC hw6 (fun x s H => s = [.fz (a0.map e_Job), .fn f1 c1, u, u, u, u, u, .int .i64 (a0.length : Int), .int .i64 x, u, u, u, u, u, u, u, u, u, u] ∧ Own H (F)) ⟨rfl, hS⟩ (fun x4 y11 s H h hd10 hi K9 hK9 => ?_)
    skip
    try dsimp only at hi
    obtain ⟨rfl, hS⟩ := hi
    simp only [slices_IndexFunc_impl_Job_l0] at h
    refine w_seq fun K13 hK13 => ?_
    refine w_reg gC ?_
    try simp only [W, EE, Nat.reduceAdd]
    refine seq_n hK13 ?_
    refine w_seq fun K14 hK14 => ?_
    refine w_if ?_
    simp only [W]
    refine w_cnd h (fun hc h => ?_) (fun hc h => ?_)
    · refine w_skip ?_
      refine seq_n hK14 ?_
      refine w_seq fun K15 hK15 => ?_
      refine w_blk fun K16 hK16 => ?_
      refine w_seq fun K17 hK17 => ?_
      refine w_reg gC ?_
      try simp only [W, Nat.reduceAdd]
      refine seq_n hK17 ?_
      refine w_seq fun K18 hK18 => ?_
      refine w_reg gC ?_
      try simp only [W, EE, Nat.reduceAdd]
      refine w_fz rfl rfl rfl (fun _ => rfl) h fun b19 hb19 h => ?_
      try simp only [W, EE, EN, reduceIte, Nat.reduceAdd, Nat.reduceLeDiff]
      refine w_call h fun b20 hb20 h => ?_
      refine hg1 hb20 _ 0 rfl _ hS _ fun H hS => ?_
      try simp only [W]
      refine seq_n hK18 ?_
      refine w_if ?_
      simp only [W]
      refine w_cnd h (fun hc h => ?_) (fun hc h => ?_)
      · refine w_seq fun K21 hK21 => ?_
        refine w_reg gC ?_
        try simp only [W, Nat.reduceAdd]
        refine seq_n hK21 ?_
        refine w_ret ?_
        refine blk_r hK16 ?_
        refine seq_r hK15 ?_
        try obtain rfl := Option.some.inj h
        obtain rfl := hd10 _ rfl
        have h : (some (LR.done x4) : Option (LR Unit (Int))) = some (LR.done x4) := rfl
        refine lp_r hK9 ?_
        refine blk_r hK8 ?_
        try obtain rfl := Option.some.inj h
        obtain rfl := Option.some.inj g12
        have h : (some x4 : Option (Int)) = some x4 := rfl
        refine cut_r hK7 ?_
        refine seq_r hK2 ?_
        refine fin_r1 hK0 rfl ?_
        try obtain rfl := Option.some.inj h
        exact hP _ hS
      · refine w_skip ?_
        refine blk_n0 hK16 ?_
        refine seq_n hK15 ?_
        refine w_reg gC ?_
        try simp only [W, EE, Nat.reduceAdd]
        exact lp_n hK9 h ⟨rfl, hS⟩
    · refine w_exit ?_
      refine seq_x hK14 ?_
      try obtain rfl := Option.some.inj h
      obtain rfl := hd10 _ rfl
      have h : (some (LR.next ()) : Option (LR Unit (Int))) = some (LR.next ()) := rfl
      refine lp_x hK9 ?_
      refine blk_e hK8 ?_
      exact cut_n hK7 ⟨(Option.some.inj h).symm, rfl, hS⟩
  · obtain ⟨rfl, rfl, hS⟩ := hq
    replace h := g12
    try dsimp only at h
    refine seq_n hK2 ?_
    refine w_seq fun K28 hK28 => ?_
    refine w_reg gC ?_
    try simp only [W, Nat.reduceAdd]
    refine seq_n hK28 ?_
    refine w_ret ?_
    refine fin_r1 hK0 rfl ?_
    try obtain rfl := Option.some.inj h
    exact hP _ hS
theorem slices_ContainsFunc_impl_Job_w {a0 : List Job} {g1 : Job → Option Bool} {f1 : FuncId} {c1 : List AV} {r : (Bool)} (h : slices_ContainsFunc_impl_Job a0 g1 = some r) {F : List It} {H : Heap} (hg1 : ∀ {x0 : Job} {r : Bool}, g1 x0 = some r → ∀ (L : List It) (n : Nat), L.drop n = F → ∀ (H : Heap), Own H L → ∀ (P : AV → Heap → Prop), (∀ H', Own H' L → P (.bool r) H') → ACall C f1 ([.agg [.int .i64 x0.Start, .int .i64 x0.Need, .int .i64 x0.End]] ++ c1) H P) (hS : Own H (F)) {P : AV → Heap → Prop} (hP : ∀ H', Own H' (F) → P (.bool r) H') : ACall C 257 [.fz (a0.map e_Job), .fn f1 c1] H P := by
  refine acall_of gC (res := [.tmp 4]) (n := 9) rfl rfl rfl rfl fun K0 hK0 => ?_
  simp only [W, Nat.reduceSub, Nat.reduceAdd, List.replicate]
  unfold slices_ContainsFunc_impl_Job at h
  refine w_seq fun K1 hK1 => ?_
  refine w_reg gC ?_
  try simp only [W, Nat.reduceAdd]
  refine seq_n hK1 ?_
  refine w_seq fun K2 hK2 => ?_
  refine w_reg gC ?_
  try simp only [W, Nat.reduceAdd]
  refine w_call h fun b3 hb3 h => ?_
  refine slices_IndexFunc_impl_Job_w hb3 hg1 hS fun H hS => ?_
  try simp only [W, EE]
  refine seq_n hK2 ?_
  refine w_ret ?_
  refine fin_r1 hK0 rfl ?_
  try obtain rfl := Option.some.inj h
  exact hP _ hS
theorem impl_in_w {a0 : Int} {a1 : Int} {a2 : Int} {r : (Bool)} (h : impl_in a0 a1 a2 = some r) {F : List It} {H : Heap} (hS : Own H (F)) {P : AV → Heap → Prop} (hP : ∀ H', Own H' (F) → P (.bool r) H') : ACall C 147 [.int .i64 a0, .int .i64 a1, .int .i64 a2] H P := by
  refine acall_of gC (res := [.tmp 6]) (n := 15) rfl rfl rfl rfl fun K0 hK0 => ?_
  simp only [W, Nat.reduceSub, Nat.reduceAdd, List.replicate]
  unfold impl_in at h
  refine w_seq fun K1 hK1 => ?_
  refine w_reg gC ?_
  try simp only [W, Nat.reduceAdd]
  refine seq_n hK1 ?_
  refine w_seq fun K2 hK2 => ?_
  refine w_reg gC ?_
  try simp only [W, EE, Nat.reduceAdd]
  refine w_grdT h (fun hc h => ?_) (fun hc h => ?_)
  · try simp only [W, EE, reduceIte, hc]
    refine seq_n hK2 ?_
    refine w_ret ?_
    refine fin_r1 hK0 rfl ?_
    try obtain rfl := Option.some.inj h
    exact hP _ hS
  · try simp only [W, hc]
    refine seq_n hK2 ?_
    refine w_ret ?_
    refine fin_r1 hK0 rfl ?_
    try obtain rfl := Option.some.inj h
    exact hP _ hS
theorem impl_isJob_w {a0 : Job} {r : (Bool)} (h : impl_isJob a0 = some r) {F : List It} {H : Heap} (hS : Own H (F)) {P : AV → Heap → Prop} (hP : ∀ H', Own H' (F) → P (.bool r) H') : ACall C 259 [.agg [.int .i64 a0.Start, .int .i64 a0.Need, .int .i64 a0.End]] H P := by
  refine acall_of gC (res := [.tmp 2]) (n := 19) rfl rfl rfl rfl fun K0 hK0 => ?_
  simp only [W, Nat.reduceSub, Nat.reduceAdd, List.replicate]
  unfold impl_isJob at h
  refine w_seq fun K1 hK1 => ?_
  refine w_reg gC ?_
  try simp only [W, Nat.reduceAdd]
  refine w_box hS rfl rfl rfl rfl fun ip2 wp2 H hS => ?_
  try simp only [W]
  refine seq_n hK1 ?_
  refine w_seq fun K4 hK4 => ?_
  refine w_reg gC ?_
  try simp only [W, EE, Nat.reduceAdd, Nat.reduceBEq, hS.var 0 rfl]
  refine w_call h fun b5 hb5 h => ?_
  refine impl_in_w hb5 hS fun H hS => ?_
  try simp only [W]
  refine w_grdT h (fun hc h => ?_) (fun hc h => ?_)
  · try simp only [W, EE, Nat.reduceAdd, Nat.reduceBEq, hS.var 0 rfl, hc]
    refine w_call h fun b6 hb6 h => ?_
    refine impl_in_w hb6 hS fun H hS => ?_
    try simp only [W, reduceIte]
    refine w_grdT h (fun hc h => ?_) (fun hc h => ?_)
    · try simp only [W, EE, Nat.reduceAdd, Nat.reduceBEq, hS.var 0 rfl, hc]
      refine w_call h fun b7 hb7 h => ?_
      refine impl_in_w hb7 hS fun H hS => ?_
      try simp only [W, reduceIte]
      refine seq_n hK4 ?_
      refine w_ret ?_
      refine fin_r1 hK0 rfl ?_
      try obtain rfl := Option.some.inj h
      exact hP _ (hS.sel 1 [] (by decide))
    · try simp only [W, hc]
      refine seq_n hK4 ?_
      refine w_ret ?_
      refine fin_r1 hK0 rfl ?_
      try obtain rfl := Option.some.inj h
      exact hP _ (hS.sel 1 [] (by decide))
  · try simp only [W, hc]
    refine seq_n hK4 ?_
    refine w_ret ?_
    refine fin_r1 hK0 rfl ?_
    try obtain rfl := Option.some.inj h
    exact hP _ (hS.sel 1 [] (by decide))
theorem impl_areJobs_1_w {a0 : Job} {r : (Bool)} (h : impl_areJobs_1 a0 = some r) {F : List It} {H : Heap} (hS : Own H (F)) {P : AV → Heap → Prop} (hP : ∀ H', Own H' (F) → P (.bool r) H') : ACall C 258 [.agg [.int .i64 a0.Start, .int .i64 a0.Need, .int .i64 a0.End]] H P := by
  refine acall_of gC (res := [.tmp 2]) (n := 6) rfl rfl rfl rfl fun K0 hK0 => ?_
  simp only [W, Nat.reduceSub, Nat.reduceAdd, List.replicate]
  unfold impl_areJobs_1 at h
  refine w_seq fun K1 hK1 => ?_
  refine w_reg gC ?_
  try simp only [W, Nat.reduceAdd]
  refine w_box hS rfl rfl rfl rfl fun ip2 wp2 H hS => ?_
  try simp only [W]
  refine seq_n hK1 ?_
  refine w_seq fun K4 hK4 => ?_
  refine w_reg gC ?_
  try simp only [W, EE, reduceIte, Nat.reduceAdd, Nat.reduceLeDiff, hS.var 0 rfl]
  refine w_call h fun b5 hb5 h => ?_
  refine impl_isJob_w hb5 hS fun H hS => ?_
  try simp only [W]
  refine seq_n hK4 ?_
  refine w_ret ?_
  refine fin_r1 hK0 rfl ?_
  try obtain rfl := Option.some.inj h
  exact hP _ (hS.sel 1 [] (by decide))
theorem impl_areJobs_w {a0 : List Job} {r : (Bool)} (h : impl_areJobs a0 = some r) {F : List It} {H : Heap} (hS : Own H (F)) {P : AV → Heap → Prop} (hP : ∀ H', Own H' (F) → P (.bool r) H') : ACall C 192 [.fz (a0.map e_Job)] H P := by
  refine acall_of gC (res := [.tmp 2]) (n := 11) rfl rfl rfl rfl fun K0 hK0 => ?_
  simp only [W, Nat.reduceSub, Nat.reduceAdd, List.replicate]
  unfold impl_areJobs at h
  refine w_seq fun K1 hK1 => ?_
  refine w_reg gC ?_
  try simp only [W, Nat.reduceAdd]
  refine seq_n hK1 ?_
  refine w_seq fun K2 hK2 => ?_
  refine w_reg gC ?_
  try simp only [W, EE, Nat.reduceAdd]
  refine w_grdT h (fun hc h => ?_) (fun hc h => ?_)
  · try simp only [W, hc]
    refine w_call h fun b3 hb3 h => ?_
    refine slices_ContainsFunc_impl_Job_w hb3 (fun h _ n hL _ hS _ hP => impl_areJobs_1_w h hS hP) hS fun H hS => ?_
    try simp only [W, reduceIte]
    refine seq_n hK2 ?_
    refine w_ret ?_
    refine fin_r1 hK0 rfl ?_
    try obtain rfl := Option.some.inj h
    exact hP _ hS
  · try simp only [W, hc]
    refine seq_n hK2 ?_
    refine w_ret ?_
    refine fin_r1 hK0 rfl ?_
    try obtain rfl := Option.some.inj h
    exact hP _ hS
theorem slices_IndexFunc_int_w {a0 : List Int} {g1 : Int → Option Bool} {f1 : FuncId} {c1 : List AV} {r : (Int)} (h : slices_IndexFunc_int a0 g1 = some r) {F : List It} {H : Heap} (hg1 : ∀ {x0 : Int} {r : Bool}, g1 x0 = some r → ∀ (L : List It) (n : Nat), L.drop n = F → ∀ (H : Heap), Own H L → ∀ (P : AV → Heap → Prop), (∀ H', Own H' L → P (.bool r) H') → ACall C f1 ([.int .i64 x0] ++ c1) H P) (hS : Own H (F)) {P : AV → Heap → Prop} (hP : ∀ H', Own H' (F) → P (.int .i64 r) H') : ACall C 255 [.fz (a0.map (AV.int .i64)), .fn f1 c1] H P := by
  refine acall_of gC (res := [.tmp 4]) (n := 19) rfl rfl rfl rfl fun K0 hK0 => ?_
  simp only [W, Nat.reduceSub, Nat.reduceAdd, List.replicate]
  unfold slices_IndexFunc_int at h
  refine w_seq fun K1 hK1 => ?_
  refine w_reg gC ?_
  try simp only [W, Nat.reduceAdd]
  refine seq_n hK1 ?_
  refine w_seq fun K2 hK2 => ?_
  refine w_seq fun K3 hK3 => ?_
  refine w_reg gC ?_
  try simp only [W, EE, Nat.reduceAdd]
  refine seq_n hK3 ?_
  obtain ⟨y5, hw6, g12⟩ := Option.bind_eq_some_iff.1 h
  refine w_join gC (fun s H => y5 = LR.next () ∧ s = [u, u, u, u, u, u, u, u, u, u, u, u, u, u, u, u, u, u, u] ∧ Own H (F)) (fun K7 hK7 => ?_) (fun s H hq => ?_)
  · refine w_blk fun K8 hK8 => ?_
    refine w_loop gC hw6 (fun x s H => s = [.fz (a0.map (AV.int .i64)), .fn f1 c1, u, u, u, u, u, .int .i64 (a0.length : Int), .int .i64 x, u, u, u, u, u, u, u, u, u, u] ∧ Own H (F)) ⟨rfl, hS⟩ (fun x4 y11 s H h hd10 hi K9 hK9 => ?_)
    skip
    try dsimp only at hi
    obtain ⟨rfl, hS⟩ := hi
    simp only [slices_IndexFunc_int_l0] at h
    refine w_seq fun K13 hK13 => ?_
    refine w_reg gC ?_
    try simp only [W, EE, Nat.reduceAdd]
    refine seq_n hK13 ?_
    refine w_seq fun K14 hK14 => ?_
    refine w_if ?_
    simp only [W]
    refine w_cnd h (fun hc h => ?_) (fun hc h => ?_)
    · refine w_skip ?_
      refine seq_n hK14 ?_
      refine w_seq fun K15 hK15 => ?_
      refine w_blk fun K16 hK16 => ?_
      refine w_seq fun K17 hK17 => ?_
      refine w_reg gC ?_
      try simp only [W, Nat.reduceAdd]
      refine seq_n hK17 ?_
      refine w_seq fun K18 hK18 => ?_
      refine w_reg gC ?_
      try simp only [W, EE, Nat.reduceAdd]
      refine w_fz rfl rfl rfl (fun _ => rfl) h fun b19 hb19 h => ?_
      try simp only [W, EE]
      refine w_call h fun b20 hb20 h => ?_
      refine hg1 hb20 _ 0 rfl _ hS _ fun H hS => ?_
      try simp only [W]
      refine seq_n hK18 ?_
      refine w_if ?_
      simp only [W]
      refine w_cnd h (fun hc h => ?_) (fun hc h => ?_)
      · refine w_seq fun K21 hK21 => ?_
        refine w_reg gC ?_
        try simp only [W, Nat.reduceAdd]
        refine seq_n hK21 ?_
        refine w_ret ?_
        refine blk_r hK16 ?_
        refine seq_r hK15 ?_
        try obtain rfl := Option.some.inj h
        obtain rfl := hd10 _ rfl
        have h : (some (LR.done x4) : Option (LR Unit (Int))) = some (LR.done x4) := rfl
        refine lp_r hK9 ?_
        refine blk_r hK8 ?_
        try obtain rfl := Option.some.inj h
        obtain rfl := Option.some.inj g12
        have h : (some x4 : Option (Int)) = some x4 := rfl
        refine cut_r hK7 ?_
        refine seq_r hK2 ?_
        refine fin_r1 hK0 rfl ?_
        try obtain rfl := Option.some.inj h
        exact hP _ hS
      · refine w_skip ?_
        refine blk_n0 hK16 ?_
        refine seq_n hK15 ?_
        refine w_reg gC ?_
        try simp only [W, EE, Nat.reduceAdd]
        exact lp_n hK9 h ⟨rfl, hS⟩
    · refine w_exit ?_
      refine seq_x hK14 ?_
      try obtain rfl := Option.some.inj h
      obtain rfl := hd10 _ rfl
      have h : (some (LR.next ()) : Option (LR Unit (Int))) = some (LR.next ()) := rfl
      refine lp_x hK9 ?_
      refine blk_e hK8 ?_
      exact cut_n hK7 ⟨(Option.some.inj h).symm, rfl, hS⟩
  · obtain ⟨rfl, rfl, hS⟩ := hq
    replace h := g12
    try dsimp only at h
    refine seq_n hK2 ?_
    refine w_seq fun K28 hK28 => ?_
    refine w_reg gC ?_
    try simp only [W, Nat.reduceAdd]
    refine seq_n hK28 ?_
    refine w_ret ?_
    refine fin_r1 hK0 rfl ?_
    try obtain rfl := Option.some.inj h
    exact hP _ hS
theorem slices_ContainsFunc_int_w {a0 : List Int} {g1 : Int → Option Bool} {f1 : FuncId} {c1 : List AV} {r : (Bool)} (h : slices_ContainsFunc_int a0 g1 = some r) {F : List It} {H : Heap} (hg1 : ∀ {x0 : Int} {r : Bool}, g1 x0 = some r → ∀ (L : List It) (n : Nat), L.drop n = F → ∀ (H : Heap), Own H L → ∀ (P : AV → Heap → Prop), (∀ H', Own H' L → P (.bool r) H') → ACall C f1 ([.int .i64 x0] ++ c1) H P) (hS : Own H (F)) {P : AV → Heap → Prop} (hP : ∀ H', Own H' (F) → P (.bool r) H') : ACall C 145 [.fz (a0.map (AV.int .i64)), .fn f1 c1] H P := by
  refine acall_of gC (res := [.tmp 4]) (n := 9) rfl rfl rfl rfl fun K0 hK0 => ?_
  simp only [W, Nat.reduceSub, Nat.reduceAdd, List.replicate]
  unfold slices_ContainsFunc_int at h
  refine w_seq fun K1 hK1 => ?_
  refine w_reg gC ?_
  try simp only [W, Nat.reduceAdd]
  refine seq_n hK1 ?_
  refine w_seq fun K2 hK2 => ?_
  refine w_reg gC ?_
  try simp only [W, Nat.reduceAdd]
  refine w_call h fun b3 hb3 h => ?_
  refine slices_IndexFunc_int_w hb3 hg1 hS fun H hS => ?_
  try simp only [W, EE]
  refine seq_n hK2 ?_
  refine w_ret ?_
  refine fin_r1 hK0 rfl ?_
  try obtain rfl := Option.some.inj h
  exact hP _ hS
theorem impl_isPlan_1_w {a0 : Int} {a1 : List Job} {i1 : Nat} {w1 : Nat} {r : (Bool)} (h : impl_isPlan_1 a0 a1 = some r) {F : List It} {H : Heap} (hm1 : ⟨.ptr i1 w1 0 0, 1, [.fz (a1.map e_Job)]⟩ ∈ F) (hS : Own H (F)) {P : AV → Heap → Prop} (hP : ∀ H', Own H' (F) → P (.bool r) H') : ACall C 260 [.int .i64 a0, .ptr i1 w1 0 0] H P := by
  refine acall_of gC (res := [.tmp 3]) (n := 10) rfl rfl rfl rfl fun K0 hK0 => ?_
  simp only [W, Nat.reduceSub, Nat.reduceAdd, List.replicate]
  unfold impl_isPlan_1 at h
  refine w_seq fun K1 hK1 => ?_
  refine w_reg gC ?_
  try simp only [W, Nat.reduceAdd]
  refine seq_n hK1 ?_
  refine w_seq fun K2 hK2 => ?_
  refine w_reg gC ?_
  try simp only [W, EE, Nat.reduceAdd, hS.varm hm1]
  refine w_call h fun b3 hb3 h => ?_
  refine impl_in_w hb3 hS fun H hS => ?_
  try simp only [W]
  refine seq_n hK2 ?_
  refine w_ret ?_
  refine fin_r1 hK0 rfl ?_
  try obtain rfl := Option.some.inj h
  exact hP _ hS
theorem impl_isPlan_w {a0 : List Job} {a1 : List Int} {r : (Bool)} (h : impl_isPlan a0 a1 = some r) {F : List It} {H : Heap} (hS : Own H (F)) {P : AV → Heap → Prop} (hP : ∀ H', Own H' (F) → P (.bool r) H') : ACall C 202 [.fz (a0.map e_Job), .fz (a1.map (AV.int .i64))] H P := by
  refine acall_of gC (res := [.tmp 4]) (n := 18) rfl rfl rfl rfl fun K0 hK0 => ?_
  simp only [W, Nat.reduceSub, Nat.reduceAdd, List.replicate]
  unfold impl_isPlan at h
  refine w_seq fun K1 hK1 => ?_
  refine w_reg gC ?_
  try simp only [W, Nat.reduceAdd]
  refine w_box hS rfl rfl rfl rfl fun ip2 wp2 H hS => ?_
  try simp only [W]
  refine seq_n hK1 ?_
  refine w_seq fun K4 hK4 => ?_
  refine w_reg gC ?_
  try simp only [W, EE, Nat.reduceAdd, hS.var 0 rfl]
  refine w_call h fun b5 hb5 h => ?_
  refine impl_areJobs_w hb5 hS fun H hS => ?_
  try simp only [W]
  refine w_grdT h (fun hc h => ?_) (fun hc h => ?_)
  · try simp only [W, EE, reduceIte, hc]
    refine w_grdT h (fun hc h => ?_) (fun hc h => ?_)
    · try simp only [W, hc]
      refine w_call h fun b6 hb6 h => ?_
      refine slices_ContainsFunc_int_w hb6 (fun h _ n hL _ hS _ hP => impl_isPlan_1_w h (memd hL (List.mem_of_getElem? (i := 0) rfl)) hS hP) hS fun H hS => ?_
      try simp only [W, reduceIte]
      refine seq_n hK4 ?_
      refine w_ret ?_
      refine fin_r1 hK0 rfl ?_
      try obtain rfl := Option.some.inj h
      exact hP _ (hS.sel 1 [] (by decide))
    · try simp only [W, hc]
      refine seq_n hK4 ?_
      refine w_ret ?_
      refine fin_r1 hK0 rfl ?_
      try obtain rfl := Option.some.inj h
      exact hP _ (hS.sel 1 [] (by decide))
  · try simp only [W, hc]
    refine seq_n hK4 ?_
    refine w_ret ?_
    refine fin_r1 hK0 rfl ?_
    try obtain rfl := Option.some.inj h
    exact hP _ (hS.sel 1 [] (by decide))
theorem impl_isSchedule_w {a0 : List Job} {a1 : List Int} {r : (Bool)} (h : impl_isSchedule a0 a1 = some r) {F : List It} {H : Heap} (hS : Own H (F)) {P : AV → Heap → Prop} (hP : ∀ H', Own H' (F) → P (.bool r) H') : ACall C 203 [.fz (a0.map e_Job), .fz (a1.map (AV.int .i64))] H P := by
  refine acall_of gC (res := [.tmp 4]) (n := 46) rfl rfl rfl rfl fun K0 hK0 => ?_
  simp only [W, Nat.reduceSub, Nat.reduceAdd, List.replicate]
  unfold impl_isSchedule at h
  refine w_seq fun K1 hK1 => ?_
  refine w_reg gC ?_
  try simp only [W, Nat.reduceAdd]
  refine seq_n hK1 ?_
  refine w_seq fun K2 hK2 => ?_
  refine w_reg gC ?_
  try simp only [W, EE, Nat.reduceAdd]
  refine w_make (c := (AV.int .i64)) hS rfl rfl rfl rfl rfl rfl h fun v3 H x5 qv3 hm h hS => ?_
  try simp only [W]
  refine seq_n hK2 ?_
  refine w_seq fun K6 hK6 => ?_
  refine w_seq fun K7 hK7 => ?_
  refine w_reg gC ?_
  try simp only [W, EE, Nat.reduceAdd]
  refine seq_n hK7 ?_
  obtain ⟨y10, hw11, g17⟩ := Option.bind_eq_some_iff.1 h
  refine w_join gC (fun s H => y10 = LR.next () ∧ s = [u, u, u, u, u, u, u, u, u, u, u, u, u, u, u, u, u, u, u, u, u, u, u, u, u, u, u, u, u, u, u, u, u, u, u, u, u, u, u, u, u, u, u, u, u, u] ∧ Own H (F)) (fun K12 hK12 => ?_) (fun s H hq => ?_)
  · refine w_blk fun K13 hK13 => ?_
    refine w_loop gC hw11 (fun x s H => match x with | (x8, x9) => s = [.fz (a0.map e_Job), u, u, u, u, v3, u, u, u, u, u, .fz (a1.map (AV.int .i64)), .int .i64 (a1.length : Int), .int .i64 x9, u, u, u, u, u, u, u, u, u, u, u, u, u, u, u, u, u, u, u, u, u, u, u, u, u, u, u, u, u, u, u, u] ∧ Own H (⟨v3, 1, x8.map (AV.int .i64)⟩ :: F)) ⟨rfl, hS⟩ (fun x y16 s H h hd15 hi K14 hK14 => ?_)
    obtain ⟨x8, x9⟩ := x
    try dsimp only at hi
    obtain ⟨rfl, hS⟩ := hi
    simp only [impl_isSchedule_l0] at h
    refine w_seq fun K18 hK18 => ?_
    refine w_reg gC ?_
    try simp only [W, EE, Nat.reduceAdd]
    refine seq_n hK18 ?_
    refine w_seq fun K19 hK19 => ?_
    refine w_if ?_
    simp only [W]
    refine w_cnd h (fun hc h => ?_) (fun hc h => ?_)
    · refine w_skip ?_
      refine seq_n hK19 ?_
      refine w_seq fun K20 hK20 => ?_
      obtain ⟨y23, h, g24⟩ := Option.bind_eq_some_iff.1 h
      refine w_join gC (fun s H => ∃ x22 : List Int, y23 = LR.next (x22) ∧ s = [.fz (a0.map e_Job), u, u, u, u, v3, u, u, u, u, u, .fz (a1.map (AV.int .i64)), .int .i64 (a1.length : Int), .int .i64 x9, u, u, u, u, u, u, u, u, u, u, u, u, u, u, u, u, u, u, u, u, u, u, u, u, u, u, u, u, u, u, u, u] ∧ Own H (⟨v3, 1, x22.map (AV.int .i64)⟩ :: F)) (fun K25 hK25 => ?_) (fun s H hq => ?_)
      · refine w_blk fun K21 hK21 => ?_
        refine w_seq fun K26 hK26 => ?_
        refine w_reg gC ?_
        try simp only [W, EE, Nat.reduceAdd]
        refine w_fz rfl rfl rfl (fun _ => rfl) h fun b27 hb27 h => ?_
        try simp only [W, EE]
        refine seq_n hK26 ?_
        refine w_seq fun K28 hK28 => ?_
        refine w_seq fun K29 hK29 => ?_
        refine w_reg gC ?_
        try simp only [W, EE, Nat.reduceAdd]
        refine seq_n hK29 ?_
        refine w_if ?_
        simp only [W]
        refine w_cnd h (fun hc h => ?_) (fun hc h => ?_)
        · refine w_exit ?_
          refine seq_x hK28 ?_
          refine blk_e hK21 ?_
          exact cut_n hK25 ⟨_, (Option.some.inj h).symm, rfl, hS⟩
        · refine w_skip ?_
          refine seq_n hK28 ?_
          refine w_seq fun K30 hK30 => ?_
          refine w_reg gC ?_
          try simp only [W, EE, Nat.reduceAdd]
          refine w_ow 0 hS rfl rfl rfl rfl rfl h (fun b31 in32 wn32 on32 hb31 h en32 => ?_) qv3.ne
          obtain ⟨kn32, hbn32, hen32⟩ := hS.elem 0 rfl en32 hb31
          try simp only [W, EE, hbn32, hen32]
          refine w_ow 0 hS rfl rfl rfl rfl rfl h (fun b33 in34 wn34 on34 hb33 h en34 => ?_) qv3.ne
          obtain ⟨kn34, hbn34, hen34⟩ := hS.elem 0 rfl en34 hb33
          try simp only [W]
          refine w_ste (a := .int .i64 (IntKind.i64.wrap (b31 + 1))) (y' := (IntKind.i64.wrap (b31 + 1))) 0 hS rfl en34 hb33 rfl rfl rfl rfl rfl rfl rfl fun H hS => ?_
          try simp only [W]
          refine seq_n hK30 ?_
          refine w_seq fun K35 hK35 => ?_
          obtain ⟨y37, h, g38⟩ := Option.bind_eq_some_iff.1 h
          refine w_join gC (fun s H => ∃ x36 : Bool, y37 = (x36) ∧ s = [.fz (a0.map e_Job), u, u, u, u, v3, u, u, u, u, u, .fz (a1.map (AV.int .i64)), .int .i64 (a1.length : Int), .int .i64 x9, u, u, u, u, u, u, u, u, u, u, u, u, u, u, u, u, u, u, u, u, u, u, u, u, u, u, u, u, u, u, .bool x36, u] ∧ Own H (⟨v3, 1, (x8.set b27.toNat (IntKind.i64.wrap (b31 + 1))).map (AV.int .i64)⟩ :: F)) (fun K39 hK39 => ?_) (fun s H hq => ?_)
          · refine w_seq fun K40 hK40 => ?_
            refine w_draw0 gC (by kernel_rfl) ?_
            try simp only [W, EE, Nat.reduceAdd]
            refine w_fz rfl rfl rfl (fun _ => rfl) h fun b41 hb41 h => ?_
            try simp only [W, EE, EN, Nat.reduceAdd, Nat.reduceBEq]
            refine w_grdT h (fun hc h => ?_) (fun hc h => ?_)
            · try simp only [W, hc]
              refine seq_n hK40 ?_
              refine w_kill ?_
              exact cut_n hK39 ⟨_, (Option.some.inj h).symm, rfl, hS⟩
            · try simp only [W, EE, hc]
              refine w_ow 0 hS rfl rfl rfl rfl rfl h (fun b42 in43 wn43 on43 hb42 h en43 => ?_) qv3.ne
              obtain ⟨kn43, hbn43, hen43⟩ := hS.elem 0 rfl en43 hb42
              try simp only [W, EE, hbn43, hen43]
              refine w_fz rfl rfl rfl (fun _ => rfl) h fun b44 hb44 h => ?_
              try simp only [W, EE, EN, reduceIte, Nat.reduceAdd, Nat.reduceBEq, Bool.false_eq_true]
              refine seq_n hK40 ?_
              refine w_kill ?_
              exact cut_n hK39 ⟨_, (Option.some.inj h).symm, rfl, hS⟩
          · obtain ⟨x36, ey, rfl, hS⟩ := hq; obtain rfl := ey.symm
            replace h := g38
            try dsimp only at h
            refine seq_n hK35 ?_
            refine w_if ?_
            simp only [W]
            refine w_cnd h (fun hc h => ?_) (fun hc h => ?_)
            · refine w_seq fun K45 hK45 => ?_
              refine w_reg gC ?_
              try simp only [W, Nat.reduceAdd]
              refine seq_n hK45 ?_
              refine w_ret ?_
              refine blk_r hK21 ?_
              try obtain rfl := Option.some.inj h
              obtain rfl := Option.some.inj g24
              have h : (some (LR.done (LR.done false)) : Option (LR ((List Int) × Int) (LR Unit (Bool)))) = some (LR.done (LR.done false)) := rfl
              refine cut_r hK25 ?_
              refine seq_r hK20 ?_
              try obtain rfl := Option.some.inj h
              obtain rfl := hd15 _ rfl
              have h : (some (LR.done false) : Option (LR Unit (Bool))) = some (LR.done false) := rfl
              refine lp_r hK14 ?_
              refine blk_r hK13 ?_
              try obtain rfl := Option.some.inj h
              obtain rfl := Option.some.inj g17
              have h : (some false : Option (Bool)) = some false := rfl
              refine cut_r hK12 ?_
              refine seq_r hK6 ?_
              refine fin_r1 hK0 rfl ?_
              try obtain rfl := Option.some.inj h
              exact hP _ (hS.sel 1 [] (by decide))
            · refine w_skip ?_
              refine blk_n hK21 ?_
              exact cut_n hK25 ⟨_, (Option.some.inj h).symm, rfl, hS⟩
      · obtain ⟨x22, ey, rfl, hS⟩ := hq; obtain rfl := ey.symm
        replace h := g24
        try dsimp only at h
        refine seq_n hK20 ?_
        refine w_reg gC ?_
        try simp only [W, EE, Nat.reduceAdd]
        exact lp_n hK14 h ⟨rfl, hS⟩
    · refine w_exit ?_
      refine seq_x hK19 ?_
      try obtain rfl := Option.some.inj h
      obtain rfl := hd15 _ rfl
      have h : (some (LR.next ()) : Option (LR Unit (Bool))) = some (LR.next ()) := rfl
      refine lp_x hK14 ?_
      refine blk_e hK13 ?_
      exact cut_n hK12 ⟨(Option.some.inj h).symm, rfl, (hS.sel 1 [] (by decide))⟩
  · obtain ⟨rfl, rfl, hS⟩ := hq
    replace h := g17
    try dsimp only at h
    refine seq_n hK6 ?_
    refine w_seq fun K54 hK54 => ?_
    refine w_reg gC ?_
    try simp only [W, Nat.reduceAdd]
    refine seq_n hK54 ?_
    refine w_ret ?_
    refine fin_r1 hK0 rfl ?_
    try obtain rfl := Option.some.inj h
    exact hP _ hS
theorem impl_late_w {a0 : List Job} {a1 : List Int} {r : (List Int)} (h : impl_late a0 a1 = some r) {F : List It} {H : Heap} (hS : Own H (F)) {P : AV → Heap → Prop} (hP : ∀ v81 : AV, isSl v81 → ∀ H', Own H' (⟨v81, 1, r.map (AV.int .i64)⟩ :: F) → P (v81) H') : ACall C 204 [.fz (a0.map e_Job), .fz (a1.map (AV.int .i64))] H P := by
  refine acall_of gC (res := [.tmp 4]) (n := 44) rfl rfl rfl rfl fun K0 hK0 => ?_
  simp only [W, Nat.reduceSub, Nat.reduceAdd, List.replicate]
  unfold impl_late at h
  refine w_seq fun K1 hK1 => ?_
  refine w_reg gC ?_
  try simp only [W, Nat.reduceAdd]
  refine seq_n hK1 ?_
  refine w_seq fun K2 hK2 => ?_
  refine w_reg gC ?_
  try simp only [W, Nat.reduceAdd]
  refine w_lit0 rfl rfl ?_
  try simp only [W]
  refine seq_n hK2 ?_
  refine w_seq fun K3 hK3 => ?_
  refine w_seq fun K4 hK4 => ?_
  refine w_reg gC ?_
  try simp only [W, EE, Nat.reduceAdd]
  refine seq_n hK4 ?_
  obtain ⟨y11, hw12, g18⟩ := Option.bind_eq_some_iff.1 h
  refine w_join gC (fun s H => ∃ x9 : List Int, y11 = (x9) ∧ ∃ v10 : AV, isSl v10 ∧ s = [u, u, u, u, u, v10, u, u, u, u, u, u, u, u, u, u, u, u, u, u, u, u, u, u, u, u, u, u, u, u, u, u, u, u, u, u, u, u, u, u, u, u, u, u] ∧ Own H (⟨v10, 1, x9.map (AV.int .i64)⟩ :: F)) (fun K13 hK13 => ?_) (fun s H hq => ?_)
  · refine w_blk fun K14 hK14 => ?_
    refine w_loop gC hw12 (fun x s H => match x with | (x5, x8) => ∃ v6 : AV, isSl v6 ∧ s = [u, .fz (a1.map (AV.int .i64)), u, u, u, v6, u, u, u, u, u, u, .fz (a0.map e_Job), .int .i64 (a0.length : Int), .int .i64 x8, u, u, u, u, u, u, u, u, u, u, u, u, u, u, u, u, u, u, u, u, u, u, u, u, u, u, u, u, u] ∧ Own H (⟨v6, 1, x5.map (AV.int .i64)⟩ :: F)) ⟨_, isSl_e0, rfl, (hS.e0_ 1)⟩ (fun x y17 s H h hd16 hi K15 hK15 => ?_)
    obtain ⟨x5, x8⟩ := x
    try dsimp only at hi
    obtain ⟨v6, qv6, rfl, hS⟩ := hi
    simp only [impl_late_l1] at h
    refine w_seq fun K19 hK19 => ?_
    refine w_reg gC ?_
    try simp only [W, EE, Nat.reduceAdd]
    refine seq_n hK19 ?_
    refine w_seq fun K20 hK20 => ?_
    refine w_if ?_
    simp only [W]
    refine w_cnd h (fun hc h => ?_) (fun hc h => ?_)
    · refine w_skip ?_
      refine seq_n hK20 ?_
      refine w_seq fun K21 hK21 => ?_
      obtain ⟨y25, h, g26⟩ := Option.bind_eq_some_iff.1 h
      refine w_join gC (fun s H => ∃ x23 : List Int, y25 = (x23) ∧ ∃ v24 : AV, isSl v24 ∧ s = [u, .fz (a1.map (AV.int .i64)), u, u, u, v24, u, u, u, u, u, u, .fz (a0.map e_Job), .int .i64 (a0.length : Int), .int .i64 x8, u, u, u, u, u, u, u, u, u, u, u, u, u, u, u, u, u, u, u, u, u, u, u, u, u, u, u, u, u] ∧ Own H (⟨v24, 1, x23.map (AV.int .i64)⟩ :: F)) (fun K27 hK27 => ?_) (fun s H hq => ?_)
      · refine w_blk fun K22 hK22 => ?_
        refine w_seq fun K28 hK28 => ?_
        refine w_reg gC ?_
        try simp only [W, EE, Nat.reduceAdd]
        refine w_fz rfl rfl rfl (fun _ => rfl) h fun b29 hb29 h => ?_
        try simp only [W, EE, EN, reduceIte, Nat.reduceAdd, Nat.reduceLeDiff]
        refine w_alloc hS rfl rfl fun ip30 wp30 H hS => ?_
        try simp only [W]
        refine w_stv (a := .agg [.int .i64 b29.Start, .int .i64 b29.Need, .int .i64 b29.End]) (y' := .agg [.int .i64 b29.Start, .int .i64 b29.Need, .int .i64 b29.End]) 0 hS rfl rfl rfl rfl rfl rfl rfl rfl fun H hS => ?_
        try simp only [W]
        refine seq_n hK28 ?_
        refine w_seq fun K32 hK32 => ?_
        refine w_reg gC ?_
        try simp only [W, Nat.reduceAdd]
        refine seq_n hK32 ?_
        refine w_seq fun K33 hK33 => ?_
        refine w_seq fun K34 hK34 => ?_
        refine w_reg gC ?_
        try simp only [W, EE, Nat.reduceAdd, Nat.reduceBEq, hS.var 0 rfl]
        refine w_slF rfl rfl rfl (fun _ => rfl) h fun x35 hx35 h => ?_
        try simp only [W, EE]
        refine seq_n hK34 ?_
        obtain ⟨y39, hw40, g46⟩ := Option.bind_eq_some_iff.1 h
        refine w_join gC (fun s H => ∃ x38 : Int, y39 = (x38) ∧ s = [u, .fz (a1.map (AV.int .i64)), u, u, u, v6, .int .i64 x8, .ptr ip30 wp30 0 0, .int .i64 x38, u, u, u, .fz (a0.map e_Job), .int .i64 (a0.length : Int), .int .i64 x8, u, u, u, u, u, u, u, u, u, u, u, u, u, u, u, u, u, u, u, u, u, u, u, u, u, u, u, u, u] ∧ Own H (⟨v6, 1, x5.map (AV.int .i64)⟩ :: ⟨.ptr ip30 wp30 0 0, 3, [.agg [.int .i64 b29.Start, .int .i64 b29.Need, .int .i64 b29.End]]⟩ :: F)) (fun K41 hK41 => ?_) (fun s H hq => ?_)
        · refine w_blk fun K42 hK42 => ?_
          refine w_loop gC hw40 (fun x s H => match x with | (x36, x37) => s = [u, .fz (a1.map (AV.int .i64)), u, u, u, v6, .int .i64 x8, .ptr ip30 wp30 0 0, .int .i64 x36, u, u, u, .fz (a0.map e_Job), .int .i64 (a0.length : Int), .int .i64 x8, u, u, u, u, u, u, u, .fz (x35.map (AV.int .i64)), .int .i64 (x35.length : Int), .int .i64 x37, u, u, u, u, u, u, u, u, u, u, u, u, u, u, u, u, u, u, u] ∧ Own H (⟨v6, 1, x5.map (AV.int .i64)⟩ :: ⟨.ptr ip30 wp30 0 0, 3, [.agg [.int .i64 b29.Start, .int .i64 b29.Need, .int .i64 b29.End]]⟩ :: F)) ⟨rfl, (hS.sel 2 [1, 0] (by decide))⟩ (fun x y45 s H h hd44 hi K43 hK43 => ?_)
          obtain ⟨x36, x37⟩ := x
          try dsimp only at hi
          obtain ⟨rfl, hS⟩ := hi
          simp only [impl_late_l0] at h
          refine w_seq fun K47 hK47 => ?_
          refine w_reg gC ?_
          try simp only [W, EE, Nat.reduceAdd]
          refine seq_n hK47 ?_
          refine w_seq fun K48 hK48 => ?_
          refine w_if ?_
          simp only [W]
          refine w_cnd h (fun hc h => ?_) (fun hc h => ?_)
          · refine w_skip ?_
            refine seq_n hK48 ?_
            refine w_seq fun K49 hK49 => ?_
            obtain ⟨y52, h, g53⟩ := Option.bind_eq_some_iff.1 h
            refine w_join gC (fun s H => ∃ x51 : Int, y52 = (x51) ∧ s = [u, .fz (a1.map (AV.int .i64)), u, u, u, v6, .int .i64 x8, .ptr ip30 wp30 0 0, .int .i64 x51, u, u, u, .fz (a0.map e_Job), .int .i64 (a0.length : Int), .int .i64 x8, u, u, u, u, u, u, u, .fz (x35.map (AV.int .i64)), .int .i64 (x35.length : Int), .int .i64 x37, u, u, u, u, u, u, u, u, u, u, u, u, u, u, u, u, u, u, u] ∧ Own H (⟨v6, 1, x5.map (AV.int .i64)⟩ :: ⟨.ptr ip30 wp30 0 0, 3, [.agg [.int .i64 b29.Start, .int .i64 b29.Need, .int .i64 b29.End]]⟩ :: F)) (fun K54 hK54 => ?_) (fun s H hq => ?_)
            · refine w_blk fun K50 hK50 => ?_
              refine w_seq fun K55 hK55 => ?_
              refine w_reg gC ?_
              try simp only [W, EE, Nat.reduceAdd]
              refine w_fz rfl rfl rfl (fun _ => rfl) h fun b56 hb56 h => ?_
              try simp only [W, EE]
              refine seq_n hK55 ?_
              refine w_seq fun K57 hK57 => ?_
              refine w_reg gC ?_
              try simp only [W, EE, Nat.reduceAdd]
              refine seq_n hK57 ?_
              obtain ⟨y59, h, g60⟩ := Option.bind_eq_some_iff.1 h
              refine w_join gC (fun s H => ∃ x58 : Int, y59 = (x58) ∧ s = [u, .fz (a1.map (AV.int .i64)), u, u, u, v6, .int .i64 x8, .ptr ip30 wp30 0 0, .int .i64 x58, u, u, u, .fz (a0.map e_Job), .int .i64 (a0.length : Int), .int .i64 x8, u, u, u, u, u, u, u, .fz (x35.map (AV.int .i64)), .int .i64 (x35.length : Int), .int .i64 x37, u, u, u, u, u, u, u, u, u, u, u, u, u, u, u, u, u, u, u] ∧ Own H (⟨v6, 1, x5.map (AV.int .i64)⟩ :: ⟨.ptr ip30 wp30 0 0, 3, [.agg [.int .i64 b29.Start, .int .i64 b29.Need, .int .i64 b29.End]]⟩ :: F)) (fun K61 hK61 => ?_) (fun s H hq => ?_)
              · refine w_seq fun K62 hK62 => ?_
                refine w_if ?_
                simp only [W]
                refine w_cnd h (fun hc h => ?_) (fun hc h => ?_)
                · refine w_reg gC ?_
                  try simp only [W, EE, Nat.reduceAdd]
                  refine seq_n hK62 ?_
                  refine w_kill ?_
                  exact cut_n hK61 ⟨_, (Option.some.inj h).symm, rfl, hS⟩
                · refine w_skip ?_
                  refine seq_n hK62 ?_
                  refine w_kill ?_
                  exact cut_n hK61 ⟨_, (Option.some.inj h).symm, rfl, hS⟩
              · obtain ⟨x58, ey, rfl, hS⟩ := hq; obtain rfl := ey.symm
                replace h := g60
                try dsimp only at h
                refine blk_n hK50 ?_
                exact cut_n hK54 ⟨_, (Option.some.inj h).symm, rfl, hS⟩
            · obtain ⟨x51, ey, rfl, hS⟩ := hq; obtain rfl := ey.symm
              replace h := g53
              try dsimp only at h
              refine seq_n hK49 ?_
              refine w_reg gC ?_
              try simp only [W, EE, Nat.reduceAdd]
              exact lp_n hK43 h ⟨rfl, hS⟩
          · refine w_exit ?_
            refine seq_x hK48 ?_
            try obtain rfl := Option.some.inj h
            obtain rfl := hd44 _ rfl
            have h : (some (x36) : Option (Int)) = some (x36) := rfl
            refine lp_x hK43 ?_
            refine blk_e hK42 ?_
            exact cut_n hK41 ⟨_, (Option.some.inj h).symm, rfl, hS⟩
        · obtain ⟨x38, ey, rfl, hS⟩ := hq; obtain rfl := ey.symm
          replace h := g46
          try dsimp only at h
          refine seq_n hK33 ?_
          refine w_seq fun K65 hK65 => ?_
          refine w_reg gC ?_
          try simp only [W, EE, Nat.reduceAdd, Nat.reduceBEq, hS.var 1 rfl]
          refine seq_n hK65 ?_
          obtain ⟨y69, h, g70⟩ := Option.bind_eq_some_iff.1 h
          refine w_join gC (fun s H => ∃ x66 : List Int, y69 = (x66) ∧ ∃ v67 : AV, isSl v67 ∧ s = [u, .fz (a1.map (AV.int .i64)), u, u, u, v67, u, u, u, u, u, u, .fz (a0.map e_Job), .int .i64 (a0.length : Int), .int .i64 x8, u, u, u, u, u, u, u, u, u, u, u, u, u, u, u, u, u, u, u, u, u, u, u, u, u, u, u, u, u] ∧ Own H (⟨v67, 1, x66.map (AV.int .i64)⟩ :: F)) (fun K71 hK71 => ?_) (fun s H hq => ?_)
          · refine w_seq fun K72 hK72 => ?_
            refine w_if ?_
            simp only [W]
            refine w_cnd h (fun hc h => ?_) (fun hc h => ?_)
            · refine w_reg gC ?_
              try simp only [W, Nat.reduceAdd]
              refine w_lit (el := ([x8] : List Int).map (AV.int .i64)) hS rfl rfl rfl rfl rfl rfl rfl fun v73 H qv73 hS => ?_
              try simp only [W, EE]
              refine w_appV (l := x5) (c := (AV.int .i64)) 1 hS rfl qv6 rfl rfl rfl (hS.elems 0 rfl qv73) (fun _ => rfl) rfl h fun v76 H x75 qv76 hm h hS => ?_
              try simp only [W]
              refine seq_n hK72 ?_
              refine w_kill ?_
              exact cut_n hK71 ⟨_, (Option.some.inj h).symm, _, qv76, rfl, (hS.sel 3 [1] (by decide))⟩
            · refine w_skip ?_
              refine seq_n hK72 ?_
              refine w_kill ?_
              exact cut_n hK71 ⟨_, (Option.some.inj h).symm, _, qv6, rfl, (hS.sel 2 [0] (by decide))⟩
          · obtain ⟨x66, ey, v67, qv67, rfl, hS⟩ := hq; obtain rfl := ey.symm
            replace h := g70
            try dsimp only at h
            refine blk_n hK22 ?_
            exact cut_n hK27 ⟨_, (Option.some.inj h).symm, _, qv67, rfl, hS⟩
      · obtain ⟨x23, ey, v24, qv24, rfl, hS⟩ := hq; obtain rfl := ey.symm
        replace h := g26
        try dsimp only at h
        refine seq_n hK21 ?_
        refine w_reg gC ?_
        try simp only [W, EE, Nat.reduceAdd]
        exact lp_n hK15 h ⟨_, qv24, rfl, hS⟩
    · refine w_exit ?_
      refine seq_x hK20 ?_
      try obtain rfl := Option.some.inj h
      obtain rfl := hd16 _ rfl
      have h : (some (x5) : Option ((List Int))) = some (x5) := rfl
      refine lp_x hK15 ?_
      refine blk_e hK14 ?_
      exact cut_n hK13 ⟨_, (Option.some.inj h).symm, _, qv6, rfl, hS⟩
  · obtain ⟨x9, ey, v10, qv10, rfl, hS⟩ := hq; obtain rfl := ey.symm
    replace h := g18
    try dsimp only at h
    refine seq_n hK3 ?_
    refine w_seq fun K80 hK80 => ?_
    refine w_reg gC ?_
    try simp only [W, Nat.reduceAdd]
    refine seq_n hK80 ?_
    refine w_ret ?_
    refine fin_r1 hK0 rfl ?_
    try obtain rfl := Option.some.inj h
    exact hP _ qv10 _ hS
theorem impl_LateIn_w {a0 : List Job} {a1 : List Int} {r : (List Int × Bool)} (h : impl_LateIn a0 a1 = some r) {F : List It} {H : Heap} (hS : Own H (F)) {P : AV → Heap → Prop} (hP : ∀ v16 : AV, isSl v16 → ∀ H', Own H' (⟨v16, 1, r.1.map (AV.int .i64)⟩ :: F) → P (.tup [v16, .bool r.2]) H') : ACall C 74 [.fz (a0.map e_Job), .fz (a1.map (AV.int .i64))] H P := by
  refine acall_of gC (res := [.tmp 4, .tmp 5]) (n := 19) rfl rfl rfl rfl fun K0 hK0 => ?_
  simp only [W, Nat.reduceSub, Nat.reduceAdd, List.replicate]
  unfold impl_LateIn at h
  refine w_seq fun K1 hK1 => ?_
  refine w_reg gC ?_
  try simp only [W, Nat.reduceAdd]
  refine seq_n hK1 ?_
  refine w_seq fun K2 hK2 => ?_
  refine w_seq fun K3 hK3 => ?_
  obtain ⟨y5, h, g6⟩ := Option.bind_eq_some_iff.1 h
  refine w_join gC (fun s H => ∃ x4 : Bool, y5 = (x4) ∧ s = [.fz (a0.map e_Job), .fz (a1.map (AV.int .i64)), u, u, u, u, u, u, u, u, u, u, u, u, u, .bool x4, u, u, u] ∧ Own H (F)) (fun K7 hK7 => ?_) (fun s H hq => ?_)
  · refine w_seq fun K8 hK8 => ?_
    refine w_reg gC ?_
    try simp only [W, Nat.reduceAdd]
    refine w_call h fun b9 hb9 h => ?_
    refine impl_isPlan_w hb9 hS fun H hS => ?_
    try simp only [W]
    refine w_grdT h (fun hc h => ?_) (fun hc h => ?_)
    · try simp only [W, hc]
      refine seq_n hK8 ?_
      refine w_kill ?_
      exact cut_n hK7 ⟨_, (Option.some.inj h).symm, rfl, hS⟩
    · try simp only [W, hc]
      refine w_call h fun b10 hb10 h => ?_
      refine impl_isSchedule_w hb10 hS fun H hS => ?_
      try simp only [W, reduceIte, Bool.false_eq_true]
      refine seq_n hK8 ?_
      refine w_kill ?_
      exact cut_n hK7 ⟨_, (Option.some.inj h).symm, rfl, hS⟩
  · obtain ⟨x4, ey, rfl, hS⟩ := hq; obtain rfl := ey.symm
    replace h := g6
    try dsimp only at h
    refine seq_n hK3 ?_
    refine w_if ?_
    simp only [W]
    refine w_cnd h (fun hc h => ?_) (fun hc h => ?_)
    · refine w_seq fun K11 hK11 => ?_
      refine w_reg gC ?_
      try simp only [W, Nat.reduceAdd]
      refine seq_n hK11 ?_
      refine w_ret ?_
      refine seq_r hK2 ?_
      refine fin_r2 hK0 rfl rfl ?_
      try obtain rfl := Option.some.inj h
      exact hP _ isSl_nil _ (hS.nil_ 1)
    · refine w_skip ?_
      refine seq_n hK2 ?_
      refine w_seq fun K12 hK12 => ?_
      refine w_reg gC ?_
      try simp only [W, Nat.reduceAdd]
      refine w_call h fun b13 hb13 h => ?_
      refine impl_late_w hb13 hS fun v14 qv14 H hS => ?_
      try simp only [W]
      refine seq_n hK12 ?_
      refine w_ret ?_
      refine fin_r2 hK0 rfl rfl ?_
      try obtain rfl := Option.some.inj h
      exact hP _ qv14 _ hS
theorem spec_l1All_w {a0 : List Int} {a1 : Int} {a2 : Int} {r : (Bool)} (h : spec_l1All a0 a1 a2 = some r) {F : List It} {H : Heap} (hS : Own H (F)) {P : AV → Heap → Prop} (hP : ∀ H', Own H' (F) → P (.bool r) H') : ACall C 150 [.fz (a0.map (AV.int .i64)), .int .i64 a1, .int .i64 a2] H P := by
  refine acall_of gC (res := [.tmp 6]) (n := 21) rfl rfl rfl rfl fun K0 hK0 => ?_
  simp only [W, Nat.reduceSub, Nat.reduceAdd, List.replicate]
  unfold spec_l1All at h
  refine w_seq fun K1 hK1 => ?_
  refine w_reg gC ?_
  try simp only [W, Nat.reduceAdd]
  refine seq_n hK1 ?_
  refine w_seq fun K2 hK2 => ?_
  refine w_seq fun K3 hK3 => ?_
  refine w_reg gC ?_
  try simp only [W, EE, Nat.reduceAdd]
  refine seq_n hK3 ?_
  obtain ⟨y5, hw6, g12⟩ := Option.bind_eq_some_iff.1 h
  refine w_join gC (fun s H => y5 = LR.next () ∧ s = [u, u, u, u, u, u, u, u, u, u, u, u, u, u, u, u, u, u, u, u, u] ∧ Own H (F)) (fun K7 hK7 => ?_) (fun s H hq => ?_)
  · refine w_blk fun K8 hK8 => ?_
    refine w_loop gC hw6 (fun x s H => s = [u, .int .i64 a1, .int .i64 a2, u, u, u, u, u, u, .fz (a0.map (AV.int .i64)), .int .i64 (a0.length : Int), .int .i64 x, u, u, u, u, u, u, u, u, u] ∧ Own H (F)) ⟨rfl, hS⟩ (fun x4 y11 s H h hd10 hi K9 hK9 => ?_)
    skip
    try dsimp only at hi
    obtain ⟨rfl, hS⟩ := hi
    simp only [spec_l1All_l0] at h
    refine w_seq fun K13 hK13 => ?_
    refine w_reg gC ?_
    try simp only [W, EE, Nat.reduceAdd]
    refine seq_n hK13 ?_
    refine w_seq fun K14 hK14 => ?_
    refine w_if ?_
    simp only [W]
    refine w_cnd h (fun hc h => ?_) (fun hc h => ?_)
    · refine w_skip ?_
      refine seq_n hK14 ?_
      refine w_seq fun K15 hK15 => ?_
      refine w_blk fun K16 hK16 => ?_
      refine w_seq fun K17 hK17 => ?_
      refine w_reg gC ?_
      try simp only [W, EE, Nat.reduceAdd]
      refine w_fz rfl rfl rfl (fun _ => rfl) h fun b18 hb18 h => ?_
      try simp only [W, EE]
      refine seq_n hK17 ?_
      refine w_seq fun K19 hK19 => ?_
      refine w_reg gC ?_
      try simp only [W, Nat.reduceAdd]
      refine w_call h fun b20 hb20 h => ?_
      refine spec_l1In_w hb20 hS fun H hS => ?_
      try simp only [W]
      refine seq_n hK19 ?_
      refine w_if ?_
      simp only [W]
      refine w_cnd h (fun hc h => ?_) (fun hc h => ?_)
      · refine w_seq fun K21 hK21 => ?_
        refine w_reg gC ?_
        try simp only [W, Nat.reduceAdd]
        refine seq_n hK21 ?_
        refine w_ret ?_
        refine blk_r hK16 ?_
        refine seq_r hK15 ?_
        try obtain rfl := Option.some.inj h
        obtain rfl := hd10 _ rfl
        have h : (some (LR.done false) : Option (LR Unit (Bool))) = some (LR.done false) := rfl
        refine lp_r hK9 ?_
        refine blk_r hK8 ?_
        try obtain rfl := Option.some.inj h
        obtain rfl := Option.some.inj g12
        have h : (some false : Option (Bool)) = some false := rfl
        refine cut_r hK7 ?_
        refine seq_r hK2 ?_
        refine fin_r1 hK0 rfl ?_
        try obtain rfl := Option.some.inj h
        exact hP _ hS
      · refine w_skip ?_
        refine blk_n0 hK16 ?_
        refine seq_n hK15 ?_
        refine w_reg gC ?_
        try simp only [W, EE, Nat.reduceAdd]
        exact lp_n hK9 h ⟨rfl, hS⟩
    · refine w_exit ?_
      refine seq_x hK14 ?_
      try obtain rfl := Option.some.inj h
      obtain rfl := hd10 _ rfl
      have h : (some (LR.next ()) : Option (LR Unit (Bool))) = some (LR.next ()) := rfl
      refine lp_x hK9 ?_
      refine blk_e hK8 ?_
      exact cut_n hK7 ⟨(Option.some.inj h).symm, rfl, hS⟩
  · obtain ⟨rfl, rfl, hS⟩ := hq
    replace h := g12
    try dsimp only at h
    refine seq_n hK2 ?_
    refine w_seq fun K28 hK28 => ?_
    refine w_reg gC ?_
    try simp only [W, Nat.reduceAdd]
    refine seq_n hK28 ?_
    refine w_ret ?_
    refine fin_r1 hK0 rfl ?_
    try obtain rfl := Option.some.inj h
    exact hP _ hS
theorem spec_l4Schedule_w {a0 : List Job} {a1 : List Int} {r : (Bool)} (h : spec_l4Schedule a0 a1 = some r) {F : List It} {H : Heap} (hS : Own H (F)) {P : AV → Heap → Prop} (hP : ∀ H', Own H' (F) → P (.bool r) H') : ACall C 205 [.fz (a0.map e_Job), .fz (a1.map (AV.int .i64))] H P := by
  refine acall_of gC (res := [.tmp 4]) (n := 57) rfl rfl rfl rfl fun K0 hK0 => ?_
  simp only [W, Nat.reduceSub, Nat.reduceAdd, List.replicate]
  unfold spec_l4Schedule at h
  refine w_seq fun K1 hK1 => ?_
  refine w_reg gC ?_
  try simp only [W, Nat.reduceAdd]
  refine seq_n hK1 ?_
  refine w_seq fun K2 hK2 => ?_
  refine w_seq fun K3 hK3 => ?_
  obtain ⟨y5, h, g6⟩ := Option.bind_eq_some_iff.1 h
  refine w_join gC (fun s H => ∃ x4 : Bool, y5 = (x4) ∧ s = [.fz (a0.map e_Job), .fz (a1.map (AV.int .i64)), u, u, u, u, u, u, u, u, u, u, u, u, u, u, u, u, .bool x4, u, u, u, u, u, u, u, u, u, u, u, u, u, u, u, u, u, u, u, u, u, u, u, u, u, u, u, u, u, u, u, u, u, u, u, u, u, u] ∧ Own H (F)) (fun K7 hK7 => ?_) (fun s H hq => ?_)
  · refine w_seq fun K8 hK8 => ?_
    refine w_reg gC ?_
    try simp only [W, EE, Nat.reduceAdd]
    refine w_grdT h (fun hc h => ?_) (fun hc h => ?_)
    · try simp only [W, hc]
      refine seq_n hK8 ?_
      refine w_kill ?_
      exact cut_n hK7 ⟨_, (Option.some.inj h).symm, rfl, hS⟩
    · try simp only [W, EE, hc]
      refine w_call h fun b9 hb9 h => ?_
      refine spec_l1All_w hb9 hS fun H hS => ?_
      try simp only [W, reduceIte, Bool.false_eq_true]
      refine seq_n hK8 ?_
      refine w_kill ?_
      exact cut_n hK7 ⟨_, (Option.some.inj h).symm, rfl, hS⟩
  · obtain ⟨x4, ey, rfl, hS⟩ := hq; obtain rfl := ey.symm
    replace h := g6
    try dsimp only at h
    refine seq_n hK3 ?_
    refine w_if ?_
    simp only [W]
    refine w_cnd h (fun hc h => ?_) (fun hc h => ?_)
    · refine w_seq fun K10 hK10 => ?_
      refine w_reg gC ?_
      try simp only [W, Nat.reduceAdd]
      refine seq_n hK10 ?_
      refine w_ret ?_
      refine seq_r hK2 ?_
      refine fin_r1 hK0 rfl ?_
      try obtain rfl := Option.some.inj h
      exact hP _ hS
    · refine w_skip ?_
      refine seq_n hK2 ?_
      refine w_seq fun K11 hK11 => ?_
      refine w_reg gC ?_
      try simp only [W, EE, Nat.reduceAdd]
      refine w_make (c := (AV.int .i64)) hS rfl rfl rfl rfl rfl rfl h fun v12 H x14 qv12 hm h hS => ?_
      try simp only [W]
      refine seq_n hK11 ?_
      refine w_seq fun K15 hK15 => ?_
      refine w_seq fun K16 hK16 => ?_
      refine w_reg gC ?_
      try simp only [W, EE, Nat.reduceAdd]
      refine seq_n hK16 ?_
      obtain ⟨y19, hw20, g26⟩ := Option.bind_eq_some_iff.1 h
      refine w_join gC (fun s H => y19 = LR.next () ∧ s = [u, u, u, u, u, u, u, u, u, u, u, u, u, u, u, u, u, u, u, u, u, u, u, u, u, u, u, u, u, u, u, u, u, u, u, u, u, u, u, u, u, u, u, u, u, u, u, u, u, u, u, u, u, u, u, u, u] ∧ Own H (F)) (fun K21 hK21 => ?_) (fun s H hq => ?_)
      · refine w_blk fun K22 hK22 => ?_
        refine w_loop gC hw20 (fun x s H => match x with | (x17, x18) => s = [.fz (a0.map e_Job), u, u, u, u, v12, u, u, u, u, u, u, u, u, u, u, u, u, u, u, u, u, .fz (a1.map (AV.int .i64)), .int .i64 (a1.length : Int), .int .i64 x18, u, u, u, u, u, u, u, u, u, u, u, u, u, u, u, u, u, u, u, u, u, u, u, u, u, u, u, u, u, u, u, u] ∧ Own H (⟨v12, 1, x17.map (AV.int .i64)⟩ :: F)) ⟨rfl, hS⟩ (fun x y25 s H h hd24 hi K23 hK23 => ?_)
        obtain ⟨x17, x18⟩ := x
        try dsimp only at hi
        obtain ⟨rfl, hS⟩ := hi
        simp only [spec_l4Schedule_l0] at h
        refine w_seq fun K27 hK27 => ?_
        refine w_reg gC ?_
        try simp only [W, EE, Nat.reduceAdd]
        refine seq_n hK27 ?_
        refine w_seq fun K28 hK28 => ?_
        refine w_if ?_
        simp only [W]
        refine w_cnd h (fun hc h => ?_) (fun hc h => ?_)
        · refine w_skip ?_
          refine seq_n hK28 ?_
          refine w_seq fun K29 hK29 => ?_
          obtain ⟨y32, h, g33⟩ := Option.bind_eq_some_iff.1 h
          refine w_join gC (fun s H => ∃ x31 : List Int, y32 = LR.next (x31) ∧ s = [.fz (a0.map e_Job), u, u, u, u, v12, u, u, u, u, u, u, u, u, u, u, u, u, u, u, u, u, .fz (a1.map (AV.int .i64)), .int .i64 (a1.length : Int), .int .i64 x18, u, u, u, u, u, u, u, u, u, u, u, u, u, u, u, u, u, u, u, u, u, u, u, u, u, u, u, u, u, u, u, u] ∧ Own H (⟨v12, 1, x31.map (AV.int .i64)⟩ :: F)) (fun K34 hK34 => ?_) (fun s H hq => ?_)
          · refine w_blk fun K30 hK30 => ?_
            refine w_seq fun K35 hK35 => ?_
            refine w_reg gC ?_
            try simp only [W, EE, Nat.reduceAdd]
            refine w_fz rfl rfl rfl (fun _ => rfl) h fun b36 hb36 h => ?_
            try simp only [W, EE]
            refine seq_n hK35 ?_
            refine w_seq fun K37 hK37 => ?_
            refine w_seq fun K38 hK38 => ?_
            refine w_reg gC ?_
            try simp only [W, EE, Nat.reduceAdd]
            refine seq_n hK38 ?_
            refine w_if ?_
            simp only [W]
            refine w_cnd h (fun hc h => ?_) (fun hc h => ?_)
            · refine w_exit ?_
              refine seq_x hK37 ?_
              refine blk_e hK30 ?_
              exact cut_n hK34 ⟨_, (Option.some.inj h).symm, rfl, hS⟩
            · refine w_skip ?_
              refine seq_n hK37 ?_
              refine w_seq fun K39 hK39 => ?_
              refine w_reg gC ?_
              try simp only [W, EE, Nat.reduceAdd]
              refine w_ow 0 hS rfl rfl rfl rfl rfl h (fun b40 in41 wn41 on41 hb40 h en41 => ?_) qv12.ne
              obtain ⟨kn41, hbn41, hen41⟩ := hS.elem 0 rfl en41 hb40
              try simp only [W, EE, hbn41, hen41]
              refine w_ow 0 hS rfl rfl rfl rfl rfl h (fun b42 in43 wn43 on43 hb42 h en43 => ?_) qv12.ne
              obtain ⟨kn43, hbn43, hen43⟩ := hS.elem 0 rfl en43 hb42
              try simp only [W]
              refine w_ste (a := .int .i64 (IntKind.i64.wrap (b40 + 1))) (y' := (IntKind.i64.wrap (b40 + 1))) 0 hS rfl en43 hb42 rfl rfl rfl rfl rfl rfl rfl fun H hS => ?_
              try simp only [W]
              refine seq_n hK39 ?_
              refine w_seq fun K44 hK44 => ?_
              obtain ⟨y46, h, g47⟩ := Option.bind_eq_some_iff.1 h
              refine w_join gC (fun s H => ∃ x45 : Bool, y46 = (x45) ∧ s = [.fz (a0.map e_Job), u, u, u, u, v12, u, u, u, u, u, u, u, u, u, u, u, u, u, u, u, u, .fz (a1.map (AV.int .i64)), .int .i64 (a1.length : Int), .int .i64 x18, u, u, u, u, u, u, u, u, u, u, u, u, u, u, u, u, u, u, u, u, u, u, u, u, u, u, u, u, u, u, .bool x45, u] ∧ Own H (⟨v12, 1, (x17.set b36.toNat (IntKind.i64.wrap (b40 + 1))).map (AV.int .i64)⟩ :: F)) (fun K48 hK48 => ?_) (fun s H hq => ?_)
              · refine w_seq fun K49 hK49 => ?_
                refine w_draw0 gC (by kernel_rfl) ?_
                try simp only [W, EE, Nat.reduceAdd]
                refine w_fz rfl rfl rfl (fun _ => rfl) h fun b50 hb50 h => ?_
                try simp only [W, EE, EN, Nat.reduceAdd, Nat.reduceBEq]
                refine w_grdT h (fun hc h => ?_) (fun hc h => ?_)
                · try simp only [W, hc]
                  refine seq_n hK49 ?_
                  refine w_kill ?_
                  exact cut_n hK48 ⟨_, (Option.some.inj h).symm, rfl, hS⟩
                · try simp only [W, EE, hc]
                  refine w_ow 0 hS rfl rfl rfl rfl rfl h (fun b51 in52 wn52 on52 hb51 h en52 => ?_) qv12.ne
                  obtain ⟨kn52, hbn52, hen52⟩ := hS.elem 0 rfl en52 hb51
                  try simp only [W, EE, hbn52, hen52]
                  refine w_fz rfl rfl rfl (fun _ => rfl) h fun b53 hb53 h => ?_
                  try simp only [W, EE, EN, reduceIte, Nat.reduceAdd, Nat.reduceBEq, Bool.false_eq_true]
                  refine seq_n hK49 ?_
                  refine w_kill ?_
                  exact cut_n hK48 ⟨_, (Option.some.inj h).symm, rfl, hS⟩
              · obtain ⟨x45, ey, rfl, hS⟩ := hq; obtain rfl := ey.symm
                replace h := g47
                try dsimp only at h
                refine seq_n hK44 ?_
                refine w_if ?_
                simp only [W]
                refine w_cnd h (fun hc h => ?_) (fun hc h => ?_)
                · refine w_seq fun K54 hK54 => ?_
                  refine w_reg gC ?_
                  try simp only [W, Nat.reduceAdd]
                  refine seq_n hK54 ?_
                  refine w_ret ?_
                  refine blk_r hK30 ?_
                  try obtain rfl := Option.some.inj h
                  obtain rfl := Option.some.inj g33
                  have h : (some (LR.done (LR.done false)) : Option (LR ((List Int) × Int) (LR Unit (Bool)))) = some (LR.done (LR.done false)) := rfl
                  refine cut_r hK34 ?_
                  refine seq_r hK29 ?_
                  try obtain rfl := Option.some.inj h
                  obtain rfl := hd24 _ rfl
                  have h : (some (LR.done false) : Option (LR Unit (Bool))) = some (LR.done false) := rfl
                  refine lp_r hK23 ?_
                  refine blk_r hK22 ?_
                  try obtain rfl := Option.some.inj h
                  obtain rfl := Option.some.inj g26
                  have h : (some false : Option (Bool)) = some false := rfl
                  refine cut_r hK21 ?_
                  refine seq_r hK15 ?_
                  refine fin_r1 hK0 rfl ?_
                  try obtain rfl := Option.some.inj h
                  exact hP _ (hS.sel 1 [] (by decide))
                · refine w_skip ?_
                  refine blk_n hK30 ?_
                  exact cut_n hK34 ⟨_, (Option.some.inj h).symm, rfl, hS⟩
          · obtain ⟨x31, ey, rfl, hS⟩ := hq; obtain rfl := ey.symm
            replace h := g33
            try dsimp only at h
            refine seq_n hK29 ?_
            refine w_reg gC ?_
            try simp only [W, EE, Nat.reduceAdd]
            exact lp_n hK23 h ⟨rfl, hS⟩
        · refine w_exit ?_
          refine seq_x hK28 ?_
          try obtain rfl := Option.some.inj h
          obtain rfl := hd24 _ rfl
          have h : (some (LR.next ()) : Option (LR Unit (Bool))) = some (LR.next ()) := rfl
          refine lp_x hK23 ?_
          refine blk_e hK22 ?_
          exact cut_n hK21 ⟨(Option.some.inj h).symm, rfl, (hS.sel 1 [] (by decide))⟩
      · obtain ⟨rfl, rfl, hS⟩ := hq
        replace h := g26
        try dsimp only at h
        refine seq_n hK15 ?_
        refine w_seq fun K63 hK63 => ?_
        refine w_reg gC ?_
        try simp only [W, Nat.reduceAdd]
        refine seq_n hK63 ?_
        refine w_ret ?_
        refine fin_r1 hK0 rfl ?_
        try obtain rfl := Option.some.inj h
        exact hP _ hS
theorem spec_l1Bit_w {a0 : Bool} {r : (Int)} (h : spec_l1Bit a0 = some r) {F : List It} {H : Heap} (hS : Own H (F)) {P : AV → Heap → Prop} (hP : ∀ H', Own H' (F) → P (.int .i64 r) H') : ACall C 172 [.bool a0] H P := by
  refine acall_of gC (res := [.tmp 2]) (n := 4) rfl rfl rfl rfl fun K0 hK0 => ?_
  simp only [W, Nat.reduceSub, Nat.reduceAdd, List.replicate]
  unfold spec_l1Bit at h
  refine w_seq fun K1 hK1 => ?_
  refine w_reg gC ?_
  try simp only [W, Nat.reduceAdd]
  refine seq_n hK1 ?_
  refine w_seq fun K2 hK2 => ?_
  refine w_seq fun K3 hK3 => ?_
  refine w_reg gC ?_
  try simp only [W, Nat.reduceAdd]
  refine seq_n hK3 ?_
  refine w_if ?_
  simp only [W]
  refine w_cnd h (fun hc h => ?_) (fun hc h => ?_)
  · refine w_seq fun K4 hK4 => ?_
    refine w_reg gC ?_
    try simp only [W, Nat.reduceAdd]
    refine seq_n hK4 ?_
    refine w_ret ?_
    refine seq_r hK2 ?_
    refine fin_r1 hK0 rfl ?_
    try obtain rfl := Option.some.inj h
    exact hP _ hS
  · refine w_skip ?_
    refine seq_n hK2 ?_
    refine w_seq fun K5 hK5 => ?_
    refine w_reg gC ?_
    try simp only [W, Nat.reduceAdd]
    refine seq_n hK5 ?_
    refine w_ret ?_
    refine fin_r1 hK0 rfl ?_
    try obtain rfl := Option.some.inj h
    exact hP _ hS
theorem spec_l4Late_w {a0 : List Job} {a1 : List Int} {r : (List Int)} (h : spec_l4Late a0 a1 = some r) {F : List It} {H : Heap} (hS : Own H (F)) {P : AV → Heap → Prop} (hP : ∀ v70 : AV, isSl v70 → ∀ H', Own H' (⟨v70, 1, r.map (AV.int .i64)⟩ :: F) → P (v70) H') : ACall C 206 [.fz (a0.map e_Job), .fz (a1.map (AV.int .i64))] H P := by
  refine acall_of gC (res := [.tmp 4]) (n := 42) rfl rfl rfl rfl fun K0 hK0 => ?_
  simp only [W, Nat.reduceSub, Nat.reduceAdd, List.replicate]
  unfold spec_l4Late at h
  refine w_seq fun K1 hK1 => ?_
  refine w_reg gC ?_
  try simp only [W, Nat.reduceAdd]
  refine seq_n hK1 ?_
  refine w_seq fun K2 hK2 => ?_
  refine w_reg gC ?_
  try simp only [W, Nat.reduceAdd]
  refine seq_n hK2 ?_
  refine w_seq fun K3 hK3 => ?_
  refine w_seq fun K4 hK4 => ?_
  refine w_reg gC ?_
  try simp only [W, EE, Nat.reduceAdd]
  refine seq_n hK4 ?_
  obtain ⟨y11, hw12, g18⟩ := Option.bind_eq_some_iff.1 h
  refine w_join gC (fun s H => ∃ x9 : List Int, y11 = (x9) ∧ ∃ v10 : AV, isSl v10 ∧ s = [u, u, u, u, u, v10, u, u, u, u, u, u, u, u, u, u, u, u, u, u, u, u, u, u, u, u, u, u, u, u, u, u, u, u, u, u, u, u, u, u, u, u] ∧ Own H (⟨v10, 1, x9.map (AV.int .i64)⟩ :: F)) (fun K13 hK13 => ?_) (fun s H hq => ?_)
  · refine w_blk fun K14 hK14 => ?_
    refine w_loop gC hw12 (fun x s H => match x with | (x5, x8) => ∃ v6 : AV, isSl v6 ∧ s = [u, .fz (a1.map (AV.int .i64)), u, u, u, v6, u, u, u, u, .fz (a0.map e_Job), .int .i64 (a0.length : Int), .int .i64 x8, u, u, u, u, u, u, u, u, u, u, u, u, u, u, u, u, u, u, u, u, u, u, u, u, u, u, u, u, u] ∧ Own H (⟨v6, 1, x5.map (AV.int .i64)⟩ :: F)) ⟨_, isSl_nil, rfl, (hS.nil_ 1)⟩ (fun x y17 s H h hd16 hi K15 hK15 => ?_)
    obtain ⟨x5, x8⟩ := x
    try dsimp only at hi
    obtain ⟨v6, qv6, rfl, hS⟩ := hi
    simp only [spec_l4Late_l1] at h
    refine w_seq fun K19 hK19 => ?_
    refine w_reg gC ?_
    try simp only [W, EE, Nat.reduceAdd]
    refine seq_n hK19 ?_
    refine w_seq fun K20 hK20 => ?_
    refine w_if ?_
    simp only [W]
    refine w_cnd h (fun hc h => ?_) (fun hc h => ?_)
    · refine w_skip ?_
      refine seq_n hK20 ?_
      refine w_seq fun K21 hK21 => ?_
      obtain ⟨y25, h, g26⟩ := Option.bind_eq_some_iff.1 h
      refine w_join gC (fun s H => ∃ x23 : List Int, y25 = (x23) ∧ ∃ v24 : AV, isSl v24 ∧ s = [u, .fz (a1.map (AV.int .i64)), u, u, u, v24, u, u, u, u, .fz (a0.map e_Job), .int .i64 (a0.length : Int), .int .i64 x8, u, u, u, u, u, u, u, u, u, u, u, u, u, u, u, u, u, u, u, u, u, u, u, u, u, u, u, u, u] ∧ Own H (⟨v24, 1, x23.map (AV.int .i64)⟩ :: F)) (fun K27 hK27 => ?_) (fun s H hq => ?_)
      · refine w_blk fun K22 hK22 => ?_
        refine w_seq fun K28 hK28 => ?_
        refine w_reg gC ?_
        try simp only [W, EE, Nat.reduceAdd]
        refine w_fz rfl rfl rfl (fun _ => rfl) h fun b29 hb29 h => ?_
        try simp only [W, EE, EN, reduceIte, Nat.reduceAdd, Nat.reduceLeDiff]
        refine w_alloc hS rfl rfl fun ip30 wp30 H hS => ?_
        try simp only [W]
        refine w_stv (a := .agg [.int .i64 b29.Start, .int .i64 b29.Need, .int .i64 b29.End]) (y' := .agg [.int .i64 b29.Start, .int .i64 b29.Need, .int .i64 b29.End]) 0 hS rfl rfl rfl rfl rfl rfl rfl rfl fun H hS => ?_
        try simp only [W]
        refine seq_n hK28 ?_
        refine w_seq fun K32 hK32 => ?_
        refine w_reg gC ?_
        try simp only [W, Nat.reduceAdd]
        refine seq_n hK32 ?_
        refine w_seq fun K33 hK33 => ?_
        refine w_seq fun K34 hK34 => ?_
        refine w_reg gC ?_
        try simp only [W, Nat.reduceAdd]
        refine seq_n hK34 ?_
        obtain ⟨y38, hw39, g45⟩ := Option.bind_eq_some_iff.1 h
        refine w_join gC (fun s H => ∃ x37 : Int, y38 = (x37) ∧ s = [u, .fz (a1.map (AV.int .i64)), u, u, u, v6, .int .i64 x8, .ptr ip30 wp30 0 0, .int .i64 x37, u, .fz (a0.map e_Job), .int .i64 (a0.length : Int), .int .i64 x8, u, u, u, u, u, u, u, u, u, u, u, u, u, u, u, u, u, u, u, u, u, u, u, u, u, u, u, u, u] ∧ Own H (⟨v6, 1, x5.map (AV.int .i64)⟩ :: ⟨.ptr ip30 wp30 0 0, 3, [.agg [.int .i64 b29.Start, .int .i64 b29.Need, .int .i64 b29.End]]⟩ :: F)) (fun K40 hK40 => ?_) (fun s H hq => ?_)
        · refine w_blk fun K41 hK41 => ?_
          refine w_loop gC hw39 (fun x s H => match x with | (x35, x36) => s = [u, .fz (a1.map (AV.int .i64)), u, u, u, v6, .int .i64 x8, .ptr ip30 wp30 0 0, .int .i64 x35, .int .i64 x36, .fz (a0.map e_Job), .int .i64 (a0.length : Int), .int .i64 x8, u, u, u, u, u, u, u, u, u, u, u, u, u, u, u, u, u, u, u, u, u, u, u, u, u, u, u, u, u] ∧ Own H (⟨v6, 1, x5.map (AV.int .i64)⟩ :: ⟨.ptr ip30 wp30 0 0, 3, [.agg [.int .i64 b29.Start, .int .i64 b29.Need, .int .i64 b29.End]]⟩ :: F)) ⟨rfl, (hS.sel 2 [1, 0] (by decide))⟩ (fun x y44 s H h hd43 hi K42 hK42 => ?_)
          obtain ⟨x35, x36⟩ := x
          try dsimp only at hi
          obtain ⟨rfl, hS⟩ := hi
          simp only [spec_l4Late_l0] at h
          refine w_seq fun K46 hK46 => ?_
          refine w_seq fun K47 hK47 => ?_
          refine w_reg gC ?_
          try simp only [W, EE, Nat.reduceAdd, Nat.reduceBEq, hS.var 1 rfl]
          refine seq_n hK47 ?_
          refine w_if ?_
          simp only [W]
          refine w_cnd h (fun hc h => ?_) (fun hc h => ?_)
          · refine w_skip ?_
            refine seq_n hK46 ?_
            refine w_seq fun K48 hK48 => ?_
            refine w_blk fun K49 hK49 => ?_
            refine w_reg gC ?_
            try simp only [W, EE, Nat.reduceAdd]
            refine w_fz rfl rfl rfl (fun _ => rfl) h fun b50 hb50 h => ?_
            try simp only [W, EE]
            refine w_call h fun b51 hb51 h => ?_
            refine spec_l1Bit_w hb51 hS fun H hS => ?_
            try simp only [W, EE]
            refine blk_n0 hK49 ?_
            refine seq_n hK48 ?_
            refine w_reg gC ?_
            try simp only [W, EE, Nat.reduceAdd]
            exact lp_n hK42 h ⟨rfl, hS⟩
          · refine w_exit ?_
            refine seq_x hK46 ?_
            try obtain rfl := Option.some.inj h
            obtain rfl := hd43 _ rfl
            have h : (some (x35) : Option (Int)) = some (x35) := rfl
            refine lp_x hK42 ?_
            refine blk_e hK41 ?_
            exact cut_n hK40 ⟨_, (Option.some.inj h).symm, rfl, hS⟩
        · obtain ⟨x37, ey, rfl, hS⟩ := hq; obtain rfl := ey.symm
          replace h := g45
          try dsimp only at h
          refine seq_n hK33 ?_
          refine w_seq fun K54 hK54 => ?_
          refine w_reg gC ?_
          try simp only [W, EE, Nat.reduceAdd, Nat.reduceBEq, hS.var 1 rfl]
          refine seq_n hK54 ?_
          obtain ⟨y58, h, g59⟩ := Option.bind_eq_some_iff.1 h
          refine w_join gC (fun s H => ∃ x55 : List Int, y58 = (x55) ∧ ∃ v56 : AV, isSl v56 ∧ s = [u, .fz (a1.map (AV.int .i64)), u, u, u, v56, u, u, u, u, .fz (a0.map e_Job), .int .i64 (a0.length : Int), .int .i64 x8, u, u, u, u, u, u, u, u, u, u, u, u, u, u, u, u, u, u, u, u, u, u, u, u, u, u, u, u, u] ∧ Own H (⟨v56, 1, x55.map (AV.int .i64)⟩ :: F)) (fun K60 hK60 => ?_) (fun s H hq => ?_)
          · refine w_seq fun K61 hK61 => ?_
            refine w_if ?_
            simp only [W]
            refine w_cnd h (fun hc h => ?_) (fun hc h => ?_)
            · refine w_reg gC ?_
              try simp only [W, Nat.reduceAdd]
              refine w_lit (el := ([x8] : List Int).map (AV.int .i64)) hS rfl rfl rfl rfl rfl rfl rfl fun v62 H qv62 hS => ?_
              try simp only [W, EE]
              refine w_appV (l := x5) (c := (AV.int .i64)) 1 hS rfl qv6 rfl rfl rfl (hS.elems 0 rfl qv62) (fun _ => rfl) rfl h fun v65 H x64 qv65 hm h hS => ?_
              try simp only [W]
              refine seq_n hK61 ?_
              refine w_kill ?_
              exact cut_n hK60 ⟨_, (Option.some.inj h).symm, _, qv65, rfl, (hS.sel 3 [1] (by decide))⟩
            · refine w_skip ?_
              refine seq_n hK61 ?_
              refine w_kill ?_
              exact cut_n hK60 ⟨_, (Option.some.inj h).symm, _, qv6, rfl, (hS.sel 2 [0] (by decide))⟩
          · obtain ⟨x55, ey, v56, qv56, rfl, hS⟩ := hq; obtain rfl := ey.symm
            replace h := g59
            try dsimp only at h
            refine blk_n hK22 ?_
            exact cut_n hK27 ⟨_, (Option.some.inj h).symm, _, qv56, rfl, hS⟩
      · obtain ⟨x23, ey, v24, qv24, rfl, hS⟩ := hq; obtain rfl := ey.symm
        replace h := g26
        try dsimp only at h
        refine seq_n hK21 ?_
        refine w_reg gC ?_
        try simp only [W, EE, Nat.reduceAdd]
        exact lp_n hK15 h ⟨_, qv24, rfl, hS⟩
    · refine w_exit ?_
      refine seq_x hK20 ?_
      try obtain rfl := Option.some.inj h
      obtain rfl := hd16 _ rfl
      have h : (some (x5) : Option ((List Int))) = some (x5) := rfl
      refine lp_x hK15 ?_
      refine blk_e hK14 ?_
      exact cut_n hK13 ⟨_, (Option.some.inj h).symm, _, qv6, rfl, hS⟩
  · obtain ⟨x9, ey, v10, qv10, rfl, hS⟩ := hq; obtain rfl := ey.symm
    replace h := g18
    try dsimp only at h
    refine seq_n hK3 ?_
    refine w_seq fun K69 hK69 => ?_
    refine w_reg gC ?_
    try simp only [W, Nat.reduceAdd]
    refine seq_n hK69 ?_
    refine w_ret ?_
    refine fin_r1 hK0 rfl ?_
    try obtain rfl := Option.some.inj h
    exact hP _ qv10 _ hS
theorem spec_LateIn_w {a0 : List Job} {a1 : List Int} {r : (List Int × Bool)} (h : spec_LateIn a0 a1 = some r) {F : List It} {H : Heap} (hS : Own H (F)) {P : AV → Heap → Prop} (hP : ∀ v16 : AV, isSl v16 → ∀ H', Own H' (⟨v16, 1, r.1.map (AV.int .i64)⟩ :: F) → P (.tup [v16, .bool r.2]) H') : ACall C 75 [.fz (a0.map e_Job), .fz (a1.map (AV.int .i64))] H P := by
  refine acall_of gC (res := [.tmp 4, .tmp 5]) (n := 18) rfl rfl rfl rfl fun K0 hK0 => ?_
  simp only [W, Nat.reduceSub, Nat.reduceAdd, List.replicate]
  unfold spec_LateIn at h
  refine w_seq fun K1 hK1 => ?_
  refine w_reg gC ?_
  try simp only [W, Nat.reduceAdd]
  refine seq_n hK1 ?_
  refine w_seq fun K2 hK2 => ?_
  refine w_seq fun K3 hK3 => ?_
  obtain ⟨y5, h, g6⟩ := Option.bind_eq_some_iff.1 h
  refine w_join gC (fun s H => ∃ x4 : Bool, y5 = (x4) ∧ s = [.fz (a0.map e_Job), .fz (a1.map (AV.int .i64)), u, u, u, u, u, u, u, u, u, u, u, u, .bool x4, u, u, u] ∧ Own H (F)) (fun K7 hK7 => ?_) (fun s H hq => ?_)
  · refine w_seq fun K8 hK8 => ?_
    refine w_reg gC ?_
    try simp only [W, Nat.reduceAdd]
    refine w_call h fun b9 hb9 h => ?_
    refine spec_GoodJobs_w hb9 hS fun H hS => ?_
    try simp only [W]
    refine w_grdT h (fun hc h => ?_) (fun hc h => ?_)
    · try simp only [W, hc]
      refine seq_n hK8 ?_
      refine w_kill ?_
      exact cut_n hK7 ⟨_, (Option.some.inj h).symm, rfl, hS⟩
    · try simp only [W, hc]
      refine w_call h fun b10 hb10 h => ?_
      refine spec_l4Schedule_w hb10 hS fun H hS => ?_
      try simp only [W, reduceIte, Bool.false_eq_true]
      refine seq_n hK8 ?_
      refine w_kill ?_
      exact cut_n hK7 ⟨_, (Option.some.inj h).symm, rfl, hS⟩
  · obtain ⟨x4, ey, rfl, hS⟩ := hq; obtain rfl := ey.symm
    replace h := g6
    try dsimp only at h
    refine seq_n hK3 ?_
    refine w_if ?_
    simp only [W]
    refine w_cnd h (fun hc h => ?_) (fun hc h => ?_)
    · refine w_seq fun K11 hK11 => ?_
      refine w_reg gC ?_
      try simp only [W, Nat.reduceAdd]
      refine seq_n hK11 ?_
      refine w_ret ?_
      refine seq_r hK2 ?_
      refine fin_r2 hK0 rfl rfl ?_
      try obtain rfl := Option.some.inj h
      exact hP _ isSl_nil _ (hS.nil_ 1)
    · refine w_skip ?_
      refine seq_n hK2 ?_
      refine w_seq fun K12 hK12 => ?_
      refine w_reg gC ?_
      try simp only [W, Nat.reduceAdd]
      refine w_call h fun b13 hb13 h => ?_
      refine spec_l4Late_w hb13 hS fun v14 qv14 H hS => ?_
      try simp only [W]
      refine seq_n hK12 ?_
      refine w_ret ?_
      refine fin_r2 hK0 rfl rfl ?_
      try obtain rfl := Option.some.inj h
      exact hP _ qv14 _ hS
theorem impl_earliest_w {a0 : List Job} {r : (List Int)} (h : impl_earliest a0 = some r) {F : List It} {H : Heap} (hS : Own H (F)) {P : AV → Heap → Prop} (hP : ∀ v89 : AV, isSl v89 → ∀ H', Own H' (⟨v89, 1, r.map (AV.int .i64)⟩ :: F) → P (v89) H') : ACall C 207 [.fz (a0.map e_Job)] H P := by
  refine acall_of gC (res := [.tmp 2]) (n := 66) rfl rfl rfl rfl fun K0 hK0 => ?_
  simp only [W, Nat.reduceSub, Nat.reduceAdd, List.replicate]
  unfold impl_earliest at h
  refine w_seq fun K1 hK1 => ?_
  refine w_reg gC ?_
  try simp only [W, Nat.reduceAdd]
  refine seq_n hK1 ?_
  refine w_seq fun K2 hK2 => ?_
  refine w_draw0 gC (by kernel_rfl) ?_
  try simp only [W, Nat.reduceAdd]
  refine w_lit0 rfl rfl ?_
  try simp only [W, EE]
  refine w_make (c := (AV.int .i64)) hS rfl rfl rfl rfl rfl rfl h fun v3 H x5 qv3 hm h hS => ?_
  try simp only [W]
  refine seq_n hK2 ?_
  refine w_seq fun K6 hK6 => ?_
  refine w_seq fun K7 hK7 => ?_
  refine w_reg gC ?_
  try simp only [W, Nat.reduceAdd]
  refine seq_n hK7 ?_
  obtain ⟨y15, hw16, g22⟩ := Option.bind_eq_some_iff.1 h
  refine w_join gC (fun s H => ∃ x13 : List Int, y15 = (x13) ∧ ∃ v14 : AV, isSl v14 ∧ s = [u, u, u, v14, u, u, u, u, u, u, u, u, u, u, u, u, u, u, u, u, u, u, u, u, u, u, u, u, u, u, u, u, u, u, u, u, u, u, u, u, u, u, u, u, u, u, u, u, u, u, u, u, u, u, u, u, u, u, u, u, u, u, u, u, u, u] ∧ Own H (⟨v14, 1, x13.map (AV.int .i64)⟩ :: F)) (fun K17 hK17 => ?_) (fun s H hq => ?_)
  · refine w_blk fun K18 hK18 => ?_
    refine w_loop gC hw16 (fun x s H => match x with | (x8, x11, x12) => ∃ v9 : AV, isSl v9 ∧ s = [.fz (a0.map e_Job), u, u, v9, v3, u, u, u, u, u, u, u, u, .int .i64 x12, u, u, u, u, u, u, u, u, u, u, u, u, u, u, u, u, u, u, u, u, u, u, u, u, u, u, u, u, u, u, u, u, u, u, u, u, u, u, u, u, u, u, u, u, u, u, u, u, u, u, u, u] ∧ Own H (⟨v9, 1, x8.map (AV.int .i64)⟩ :: ⟨v3, 1, x11.map (AV.int .i64)⟩ :: F)) ⟨_, isSl_e0, rfl, (hS.e0_ 1)⟩ (fun x y21 s H h hd20 hi K19 hK19 => ?_)
    obtain ⟨x8, x11, x12⟩ := x
    try dsimp only at hi
    obtain ⟨v9, qv9, rfl, hS⟩ := hi
    simp only [impl_earliest_l1] at h
    refine w_seq fun K23 hK23 => ?_
    refine w_reg gC ?_
    try simp only [W, EE, Nat.reduceAdd]
    refine seq_n hK23 ?_
    refine w_seq fun K24 hK24 => ?_
    refine w_if ?_
    simp only [W]
    refine w_cnd h (fun hc h => ?_) (fun hc h => ?_)
    · refine w_skip ?_
      refine seq_n hK24 ?_
      refine w_seq fun K25 hK25 => ?_
      refine w_blk fun K26 hK26 => ?_
      refine w_seq fun K27 hK27 => ?_
      refine w_reg gC ?_
      try simp only [W, Nat.reduceAdd]
      refine seq_n hK27 ?_
      refine w_seq fun K28 hK28 => ?_
      refine w_reg gC ?_
      try simp only [W, Nat.reduceAdd]
      refine seq_n hK28 ?_
      refine w_seq fun K29 hK29 => ?_
      refine w_seq fun K30 hK30 => ?_
      refine w_reg gC ?_
      try simp only [W, EE, Nat.reduceAdd]
      refine seq_n hK30 ?_
      obtain ⟨y34, hw35, g41⟩ := Option.bind_eq_some_iff.1 h
      refine w_join gC (fun s H => ∃ x33 : Int, y34 = (x33) ∧ s = [.fz (a0.map e_Job), u, u, v9, v3, u, .int .i64 x33, u, u, u, u, u, u, .int .i64 x12, u, u, u, u, u, u, u, u, u, u, u, u, u, u, u, u, u, u, u, u, u, u, u, u, u, u, u, u, u, u, u, u, u, u, u, u, u, u, u, u, u, u, u, u, u, u, u, u, u, u, u, u] ∧ Own H (⟨v9, 1, x8.map (AV.int .i64)⟩ :: ⟨v3, 1, x11.map (AV.int .i64)⟩ :: F)) (fun K36 hK36 => ?_) (fun s H hq => ?_)
      · refine w_blk fun K37 hK37 => ?_
        refine w_loop gC hw35 (fun x s H => match x with | (x31, x32) => s = [.fz (a0.map e_Job), u, u, v9, v3, .int .i64 x12, .int .i64 x31, u, u, u, u, u, u, .int .i64 x12, u, u, .fz (a0.map e_Job), .int .i64 (a0.length : Int), .int .i64 x32, u, u, u, u, u, u, u, u, u, u, u, u, u, u, u, u, u, u, u, u, u, u, u, u, u, u, u, u, u, u, u, u, u, u, u, u, u, u, u, u, u, u, u, u, u, u, u] ∧ Own H (⟨v9, 1, x8.map (AV.int .i64)⟩ :: ⟨v3, 1, x11.map (AV.int .i64)⟩ :: F)) ⟨rfl, hS⟩ (fun x y40 s H h hd39 hi K38 hK38 => ?_)
        obtain ⟨x31, x32⟩ := x
        try dsimp only at hi
        obtain ⟨rfl, hS⟩ := hi
        simp only [impl_earliest_l0] at h
        refine w_seq fun K42 hK42 => ?_
        refine w_reg gC ?_
        try simp only [W, EE, Nat.reduceAdd]
        refine seq_n hK42 ?_
        refine w_seq fun K43 hK43 => ?_
        refine w_if ?_
        simp only [W]
        refine w_cnd h (fun hc h => ?_) (fun hc h => ?_)
        · refine w_skip ?_
          refine seq_n hK43 ?_
          refine w_seq fun K44 hK44 => ?_
          obtain ⟨y47, h, g48⟩ := Option.bind_eq_some_iff.1 h
          refine w_join gC (fun s H => ∃ x46 : Int, y47 = (x46) ∧ s = [.fz (a0.map e_Job), u, u, v9, v3, .int .i64 x12, .int .i64 x46, u, u, u, u, u, u, .int .i64 x12, u, u, .fz (a0.map e_Job), .int .i64 (a0.length : Int), .int .i64 x32, u, u, u, u, u, u, u, u, u, u, u, u, u, u, u, u, u, u, u, u, u, u, u, u, u, u, u, u, u, u, u, u, u, u, u, u, u, u, u, u, u, u, u, u, u, u, u] ∧ Own H (⟨v9, 1, x8.map (AV.int .i64)⟩ :: ⟨v3, 1, x11.map (AV.int .i64)⟩ :: F)) (fun K49 hK49 => ?_) (fun s H hq => ?_)
          · refine w_blk fun K45 hK45 => ?_
            refine w_seq fun K50 hK50 => ?_
            refine w_reg gC ?_
            try simp only [W, EE, Nat.reduceAdd]
            refine w_fz rfl rfl rfl (fun _ => rfl) h fun b51 hb51 h => ?_
            try simp only [W, EE, EN, reduceIte, Nat.reduceAdd, Nat.reduceLeDiff]
            refine w_alloc hS rfl rfl fun ip52 wp52 H hS => ?_
            try simp only [W]
            refine w_stv (a := .agg [.int .i64 b51.Start, .int .i64 b51.Need, .int .i64 b51.End]) (y' := .agg [.int .i64 b51.Start, .int .i64 b51.Need, .int .i64 b51.End]) 0 hS rfl rfl rfl rfl rfl rfl rfl rfl fun H hS => ?_
            try simp only [W]
            refine seq_n hK50 ?_
            refine w_seq fun K54 hK54 => ?_
            obtain ⟨y56, h, g57⟩ := Option.bind_eq_some_iff.1 h
            refine w_join gC (fun s H => ∃ x55 : Bool, y56 = (x55) ∧ s = [.fz (a0.map e_Job), u, u, v9, v3, .int .i64 x12, .int .i64 x31, .int .i64 x32, u, u, u, u, u, .int .i64 x12, u, u, .fz (a0.map e_Job), .int .i64 (a0.length : Int), .int .i64 x32, u, u, u, u, u, u, u, u, u, u, u, u, u, u, u, u, u, u, u, u, u, u, u, u, u, u, u, u, u, u, .bool x55, u, u, u, u, u, u, u, u, u, u, u, u, u, u, u, u] ∧ Own H (⟨v9, 1, x8.map (AV.int .i64)⟩ :: ⟨v3, 1, x11.map (AV.int .i64)⟩ :: F)) (fun K58 hK58 => ?_) (fun s H hq => ?_)
            · refine w_seq fun K59 hK59 => ?_
              refine w_draw0 gC (by kernel_rfl) ?_
              try simp only [W, EE, Nat.reduceAdd, Nat.reduceBEq, hS.var 0 rfl]
              refine w_grdT h (fun hc h => ?_) (fun hc h => ?_)
              · try simp only [W, EE, hc]
                refine w_ow 2 hS rfl rfl rfl rfl rfl h (fun b60 in61 wn61 on61 hb60 h en61 => ?_) qv3.ne
                obtain ⟨kn61, hbn61, hen61⟩ := hS.elem 2 rfl en61 hb60
                try simp only [W, EE, reduceIte, Nat.reduceAdd, Nat.reduceBEq, hS.var 0 rfl, hbn61, hen61]
                refine w_grdT h (fun hc h => ?_) (fun hc h => ?_)
                · try simp only [W, EE, hc]
                  refine w_grdT h (fun hc h => ?_) (fun hc h => ?_)
                  · try simp only [W, reduceIte, hc]
                    refine seq_n hK59 ?_
                    refine w_kill ?_
                    exact cut_n hK58 ⟨_, (Option.some.inj h).symm, rfl, (hS.sel 3 [1, 2] (by decide))⟩
                  · try simp only [W, EE, Nat.reduceAdd, Nat.reduceBEq, hS.var 0 rfl, hc]
                    refine w_fz rfl rfl rfl (fun _ => rfl) h fun b62 hb62 h => ?_
                    try simp only [W, EE, EN, reduceIte, Nat.reduceAdd, Nat.reduceBEq, Bool.false_eq_true]
                    refine seq_n hK59 ?_
                    refine w_kill ?_
                    exact cut_n hK58 ⟨_, (Option.some.inj h).symm, rfl, (hS.sel 3 [1, 2] (by decide))⟩
                · try simp only [W, hc]
                  refine seq_n hK59 ?_
                  refine w_kill ?_
                  exact cut_n hK58 ⟨_, (Option.some.inj h).symm, rfl, (hS.sel 3 [1, 2] (by decide))⟩
              · try simp only [W, hc]
                refine seq_n hK59 ?_
                refine w_kill ?_
                exact cut_n hK58 ⟨_, (Option.some.inj h).symm, rfl, (hS.sel 3 [1, 2] (by decide))⟩
            · obtain ⟨x55, ey, rfl, hS⟩ := hq; obtain rfl := ey.symm
              replace h := g57
              try dsimp only at h
              refine seq_n hK54 ?_
              obtain ⟨y64, h, g65⟩ := Option.bind_eq_some_iff.1 h
              refine w_join gC (fun s H => ∃ x63 : Int, y64 = (x63) ∧ s = [.fz (a0.map e_Job), u, u, v9, v3, .int .i64 x12, .int .i64 x63, u, u, u, u, u, u, .int .i64 x12, u, u, .fz (a0.map e_Job), .int .i64 (a0.length : Int), .int .i64 x32, u, u, u, u, u, u, u, u, u, u, u, u, u, u, u, u, u, u, u, u, u, u, u, u, u, u, u, u, u, u, u, u, u, u, u, u, u, u, u, u, u, u, u, u, u, u, u] ∧ Own H (⟨v9, 1, x8.map (AV.int .i64)⟩ :: ⟨v3, 1, x11.map (AV.int .i64)⟩ :: F)) (fun K66 hK66 => ?_) (fun s H hq => ?_)
              · refine w_seq fun K67 hK67 => ?_
                refine w_if ?_
                simp only [W]
                refine w_cnd h (fun hc h => ?_) (fun hc h => ?_)
                · refine w_reg gC ?_
                  try simp only [W, Nat.reduceAdd]
                  refine seq_n hK67 ?_
                  refine w_kill ?_
                  exact cut_n hK66 ⟨_, (Option.some.inj h).symm, rfl, hS⟩
                · refine w_skip ?_
                  refine seq_n hK67 ?_
                  refine w_kill ?_
                  exact cut_n hK66 ⟨_, (Option.some.inj h).symm, rfl, hS⟩
              · obtain ⟨x63, ey, rfl, hS⟩ := hq; obtain rfl := ey.symm
                replace h := g65
                try dsimp only at h
                refine blk_n hK45 ?_
                exact cut_n hK49 ⟨_, (Option.some.inj h).symm, rfl, hS⟩
          · obtain ⟨x46, ey, rfl, hS⟩ := hq; obtain rfl := ey.symm
            replace h := g48
            try dsimp only at h
            refine seq_n hK44 ?_
            refine w_reg gC ?_
            try simp only [W, EE, Nat.reduceAdd]
            exact lp_n hK38 h ⟨rfl, hS⟩
        · refine w_exit ?_
          refine seq_x hK43 ?_
          try obtain rfl := Option.some.inj h
          obtain rfl := hd39 _ rfl
          have h : (some (x31) : Option (Int)) = some (x31) := rfl
          refine lp_x hK38 ?_
          refine blk_e hK37 ?_
          exact cut_n hK36 ⟨_, (Option.some.inj h).symm, rfl, hS⟩
      · obtain ⟨x33, ey, rfl, hS⟩ := hq; obtain rfl := ey.symm
        replace h := g41
        try dsimp only at h
        refine seq_n hK29 ?_
        refine w_seq fun K70 hK70 => ?_
        refine w_seq fun K71 hK71 => ?_
        refine w_reg gC ?_
        try simp only [W, EE, Nat.reduceAdd]
        refine seq_n hK71 ?_
        obtain ⟨y73, h, g74⟩ := Option.bind_eq_some_iff.1 h
        refine w_join gC (fun s H => ∃ x72 : List Int, y73 = (x72) ∧ s = [.fz (a0.map e_Job), u, u, v9, v3, u, .int .i64 x33, u, u, u, u, u, u, .int .i64 x12, u, u, u, u, u, u, u, u, u, u, u, u, u, u, u, u, u, u, u, u, u, u, u, u, u, u, u, u, u, u, u, u, u, u, u, u, u, u, u, u, u, u, u, u, u, u, u, u, u, u, u, u] ∧ Own H (⟨v9, 1, x8.map (AV.int .i64)⟩ :: ⟨v3, 1, x72.map (AV.int .i64)⟩ :: F)) (fun K75 hK75 => ?_) (fun s H hq => ?_)
        · refine w_seq fun K76 hK76 => ?_
          refine w_if ?_
          simp only [W]
          refine w_cnd h (fun hc h => ?_) (fun hc h => ?_)
          · refine w_reg gC ?_
            try simp only [W, EE, Nat.reduceAdd]
            refine w_ow 1 hS rfl rfl rfl rfl rfl h (fun b77 in78 wn78 on78 hb77 h en78 => ?_) qv3.ne
            obtain ⟨kn78, hbn78, hen78⟩ := hS.elem 1 rfl en78 hb77
            try simp only [W, EE, hbn78, hen78]
            refine w_ow 1 hS rfl rfl rfl rfl rfl h (fun b79 in80 wn80 on80 hb79 h en80 => ?_) qv3.ne
            obtain ⟨kn80, hbn80, hen80⟩ := hS.elem 1 rfl en80 hb79
            try simp only [W]
            refine w_ste (a := .int .i64 (IntKind.i64.wrap (b77 + 1))) (y' := (IntKind.i64.wrap (b77 + 1))) 1 hS rfl en80 hb79 rfl rfl rfl rfl rfl rfl rfl fun H hS => ?_
            try simp only [W]
            refine seq_n hK76 ?_
            refine w_kill ?_
            exact cut_n hK75 ⟨_, (Option.some.inj h).symm, rfl, hS⟩
          · refine w_skip ?_
            refine seq_n hK76 ?_
            refine w_kill ?_
            exact cut_n hK75 ⟨_, (Option.some.inj h).symm, rfl, hS⟩
        · obtain ⟨x72, ey, rfl, hS⟩ := hq; obtain rfl := ey.symm
          replace h := g74
          try dsimp only at h
          refine seq_n hK70 ?_
          refine w_reg gC ?_
          try simp only [W, Nat.reduceAdd]
          refine w_lit (el := ([x33] : List Int).map (AV.int .i64)) hS rfl rfl rfl rfl rfl rfl rfl fun v81 H qv81 hS => ?_
          try simp only [W, EE]
          refine w_appV (l := x8) (c := (AV.int .i64)) 1 hS rfl qv9 rfl rfl rfl (hS.elems 0 rfl qv81) (fun _ => rfl) rfl h fun v84 H x83 qv84 hm h hS => ?_
          try simp only [W]
          refine blk_n0 hK26 ?_
          refine seq_n hK25 ?_
          refine w_reg gC ?_
          try simp only [W, EE, Nat.reduceAdd]
          exact lp_n hK19 h ⟨_, qv84, rfl, (hS.sel 3 [1, 2] (by decide))⟩
    · refine w_exit ?_
      refine seq_x hK24 ?_
      try obtain rfl := Option.some.inj h
      obtain rfl := hd20 _ rfl
      have h : (some (x8) : Option ((List Int))) = some (x8) := rfl
      refine lp_x hK19 ?_
      refine blk_e hK18 ?_
      exact cut_n hK17 ⟨_, (Option.some.inj h).symm, _, qv9, rfl, (hS.sel 2 [0] (by decide))⟩
  · obtain ⟨x13, ey, v14, qv14, rfl, hS⟩ := hq; obtain rfl := ey.symm
    replace h := g22
    try dsimp only at h
    refine seq_n hK6 ?_
    refine w_seq fun K88 hK88 => ?_
    refine w_reg gC ?_
    try simp only [W, Nat.reduceAdd]
    refine seq_n hK88 ?_
    refine w_ret ?_
    refine fin_r1 hK0 rfl ?_
    try obtain rfl := Option.some.inj h
    exact hP _ qv14 _ hS
theorem impl_EarliestFirst_w {a0 : List Job} {r : (List Int × Bool)} (h : impl_EarliestFirst a0 = some r) {F : List It} {H : Heap} (hS : Own H (F)) {P : AV → Heap → Prop} (hP : ∀ v10 : AV, isSl v10 → ∀ H', Own H' (⟨v10, 1, r.1.map (AV.int .i64)⟩ :: F) → P (.tup [v10, .bool r.2]) H') : ACall C 76 [.fz (a0.map e_Job)] H P := by
  refine acall_of gC (res := [.tmp 2, .tmp 3]) (n := 9) rfl rfl rfl rfl fun K0 hK0 => ?_
  simp only [W, Nat.reduceSub, Nat.reduceAdd, List.replicate]
  unfold impl_EarliestFirst at h
  refine w_seq fun K1 hK1 => ?_
  refine w_reg gC ?_
  try simp only [W, Nat.reduceAdd]
  refine seq_n hK1 ?_
  refine w_seq fun K2 hK2 => ?_
  refine w_seq fun K3 hK3 => ?_
  refine w_reg gC ?_
  try simp only [W, Nat.reduceAdd]
  refine w_call h fun b4 hb4 h => ?_
  refine impl_areJobs_w hb4 hS fun H hS => ?_
  try simp only [W]
  refine seq_n hK3 ?_
  refine w_if ?_
  simp only [W]
  refine w_cnd h (fun hc h => ?_) (fun hc h => ?_)
  · refine w_seq fun K5 hK5 => ?_
    refine w_reg gC ?_
    try simp only [W, Nat.reduceAdd]
    refine seq_n hK5 ?_
    refine w_ret ?_
    refine seq_r hK2 ?_
    refine fin_r2 hK0 rfl rfl ?_
    try obtain rfl := Option.some.inj h
    exact hP _ isSl_nil _ (hS.nil_ 1)
  · refine w_skip ?_
    refine seq_n hK2 ?_
    refine w_seq fun K6 hK6 => ?_
    refine w_reg gC ?_
    try simp only [W, Nat.reduceAdd]
    refine w_call h fun b7 hb7 h => ?_
    refine impl_earliest_w hb7 hS fun v8 qv8 H hS => ?_
    try simp only [W]
    refine seq_n hK6 ?_
    refine w_ret ?_
    refine fin_r2 hK0 rfl rfl ?_
    try obtain rfl := Option.some.inj h
    exact hP _ qv8 _ hS
theorem impl_canMeet_w {a0 : List Job} {r : (Bool)} (h : impl_canMeet a0 = some r) {F : List It} {H : Heap} (hS : Own H (F)) {P : AV → Heap → Prop} (hP : ∀ H', Own H' (F) → P (.bool r) H') : ACall C 196 [.fz (a0.map e_Job)] H P := by
  refine acall_of gC (res := [.tmp 2]) (n := 9) rfl rfl rfl rfl fun K0 hK0 => ?_
  simp only [W, Nat.reduceSub, Nat.reduceAdd, List.replicate]
  unfold impl_canMeet at h
  refine w_seq fun K1 hK1 => ?_
  refine w_reg gC ?_
  try simp only [W, Nat.reduceAdd]
  refine seq_n hK1 ?_
  refine w_seq fun K2 hK2 => ?_
  refine w_reg gC ?_
  try simp only [W, Nat.reduceAdd, Nat.reduceBEq, List.contains_cons, Nat.reduceBEq, Bool.or_self]
  refine w_call h fun b3 hb3 h => ?_
  refine impl_earliest_w hb3 hS fun v4 qv4 H hS => ?_
  try simp only [W]
  refine w_callO (rsh := [[.sl [.sc]]]) (ys := [.fz (a0.map e_Job), .fz (b3.map (AV.int .i64))]) h rfl (pv_c rfl (pv_c (sn_ow hS 0 rfl qv4 (fun _ => rfl)) pv_n)) fun b6 hb6 h => ⟨.own 1 (b6.map (AV.int .i64)), impl_late_w hb6 (Own.nil _) fun v7 qv7 H hS => TV_ok rfl (TV_o 0 hS rfl qv7 (fun _ _ => by simp [takeE, takeT, plainA]) fun H hS => TV_n rfl), (noFz_o _ (fun _ => rfl) _), ?_⟩
  refine thaw_1 ?_
  refine TH_o hS (fun _ _ => rfl) (fun _ => rfl) fun v9 H qv9 hS => ?_
  refine TH_n ?_
  try simp only [List.headD_cons]
  try simp only [W, EE]
  refine w_len 0 hS rfl qv9 rfl ?_
  try simp only [W, EE]
  refine seq_n hK2 ?_
  refine w_ret ?_
  refine fin_r1 hK0 rfl ?_
  try obtain rfl := Option.some.inj h
  exact hP _ (hS.sel 2 [] (by decide))
theorem impl_CanMeet_w {a0 : List Job} {r : (Bool × Bool)} (h : impl_CanMeet a0 = some r) {F : List It} {H : Heap} (hS : Own H (F)) {P : AV → Heap → Prop} (hP : ∀ H', Own H' (F) → P (.tup [.bool r.1, .bool r.2]) H') : ACall C 65 [.fz (a0.map e_Job)] H P := by
  refine acall_of gC (res := [.tmp 2, .tmp 3]) (n := 9) rfl rfl rfl rfl fun K0 hK0 => ?_
  simp only [W, Nat.reduceSub, Nat.reduceAdd, List.replicate]
  unfold impl_CanMeet at h
  refine w_seq fun K1 hK1 => ?_
  refine w_reg gC ?_
  try simp only [W, Nat.reduceAdd]
  refine seq_n hK1 ?_
  refine w_seq fun K2 hK2 => ?_
  refine w_seq fun K3 hK3 => ?_
  refine w_reg gC ?_
  try simp only [W, Nat.reduceAdd]
  refine w_call h fun b4 hb4 h => ?_
  refine impl_areJobs_w hb4 hS fun H hS => ?_
  try simp only [W]
  refine seq_n hK3 ?_
  refine w_if ?_
  simp only [W]
  refine w_cnd h (fun hc h => ?_) (fun hc h => ?_)
  · refine w_seq fun K5 hK5 => ?_
    refine w_reg gC ?_
    try simp only [W, Nat.reduceAdd]
    refine seq_n hK5 ?_
    refine w_ret ?_
    refine seq_r hK2 ?_
    refine fin_r2 hK0 rfl rfl ?_
    try obtain rfl := Option.some.inj h
    exact hP _ hS
  · refine w_skip ?_
    refine seq_n hK2 ?_
    refine w_seq fun K6 hK6 => ?_
    refine w_reg gC ?_
    try simp only [W, Nat.reduceAdd]
    refine w_call h fun b7 hb7 h => ?_
    refine impl_canMeet_w hb7 hS fun H hS => ?_
    try simp only [W]
    refine seq_n hK6 ?_
    refine w_ret ?_
    refine fin_r2 hK0 rfl rfl ?_
    try obtain rfl := Option.some.inj h
    exact hP _ hS
theorem spec_l4Meet_w {a0 : List Job} {r : (Bool)} (h : spec_l4Meet a0 = some r) {F : List It} {H : Heap} (hS : Own H (F)) {P : AV → Heap → Prop} (hP : ∀ H', Own H' (F) → P (.bool r) H') : ACall C 201 [.fz (a0.map e_Job)] H P := by
  refine acall_of gC (res := [.tmp 2]) (n := 9) rfl rfl rfl rfl fun K0 hK0 => ?_
  simp only [W, Nat.reduceSub, Nat.reduceAdd, List.replicate]
  unfold spec_l4Meet at h
  refine w_seq fun K1 hK1 => ?_
  refine w_reg gC ?_
  try simp only [W, Nat.reduceAdd]
  refine seq_n hK1 ?_
  refine w_seq fun K2 hK2 => ?_
  refine w_reg gC ?_
  try simp only [W, Nat.reduceAdd, Nat.reduceBEq, List.contains_cons, Nat.reduceBEq, Bool.or_self]
  refine w_call h fun b3 hb3 h => ?_
  refine spec_l4Earliest_w hb3 hS fun v4 qv4 H hS => ?_
  try simp only [W]
  refine w_callO (rsh := [[.sl [.sc]]]) (ys := [.fz (a0.map e_Job), .fz (b3.map (AV.int .i64))]) h rfl (pv_c rfl (pv_c (sn_ow hS 0 rfl qv4 (fun _ => rfl)) pv_n)) fun b6 hb6 h => ⟨.own 1 (b6.map (AV.int .i64)), spec_l4Late_w hb6 (Own.nil _) fun v7 qv7 H hS => TV_ok rfl (TV_o 0 hS rfl qv7 (fun _ _ => by simp [takeE, takeT, plainA]) fun H hS => TV_n rfl), (noFz_o _ (fun _ => rfl) _), ?_⟩
  refine thaw_1 ?_
  refine TH_o hS (fun _ _ => rfl) (fun _ => rfl) fun v9 H qv9 hS => ?_
  refine TH_n ?_
  try simp only [List.headD_cons]
  try simp only [W, EE]
  refine w_len 0 hS rfl qv9 rfl ?_
  try simp only [W, EE]
  refine seq_n hK2 ?_
  refine w_ret ?_
  refine fin_r1 hK0 rfl ?_
  try obtain rfl := Option.some.inj h
  exact hP _ (hS.sel 2 [] (by decide))
theorem spec_CanMeet_w {a0 : List Job} {r : (Bool × Bool)} (h : spec_CanMeet a0 = some r) {F : List It} {H : Heap} (hS : Own H (F)) {P : AV → Heap → Prop} (hP : ∀ H', Own H' (F) → P (.tup [.bool r.1, .bool r.2]) H') : ACall C 78 [.fz (a0.map e_Job)] H P := by
  refine acall_of gC (res := [.tmp 2, .tmp 3]) (n := 9) rfl rfl rfl rfl fun K0 hK0 => ?_
  simp only [W, Nat.reduceSub, Nat.reduceAdd, List.replicate]
  unfold spec_CanMeet at h
  refine w_seq fun K1 hK1 => ?_
  refine w_reg gC ?_
  try simp only [W, Nat.reduceAdd]
  refine seq_n hK1 ?_
  refine w_seq fun K2 hK2 => ?_
  refine w_seq fun K3 hK3 => ?_
  refine w_reg gC ?_
  try simp only [W, Nat.reduceAdd]
  refine w_call h fun b4 hb4 h => ?_
  refine spec_GoodJobs_w hb4 hS fun H hS => ?_
  try simp only [W]
  refine seq_n hK3 ?_
  refine w_if ?_
  simp only [W]
  refine w_cnd h (fun hc h => ?_) (fun hc h => ?_)
  · refine w_seq fun K5 hK5 => ?_
    refine w_reg gC ?_
    try simp only [W, Nat.reduceAdd]
    refine seq_n hK5 ?_
    refine w_ret ?_
    refine seq_r hK2 ?_
    refine fin_r2 hK0 rfl rfl ?_
    try obtain rfl := Option.some.inj h
    exact hP _ hS
  · refine w_skip ?_
    refine seq_n hK2 ?_
    refine w_seq fun K6 hK6 => ?_
    refine w_reg gC ?_
    try simp only [W, Nat.reduceAdd]
    refine w_call h fun b7 hb7 h => ?_
    refine spec_l4Meet_w hb7 hS fun H hS => ?_
    try simp only [W]
    refine seq_n hK6 ?_
    refine w_ret ?_
    refine fin_r2 hK0 rfl rfl ?_
    try obtain rfl := Option.some.inj h
    exact hP _ hS
theorem laws_sameInts_w {a0 : List Int} {a1 : List Int} {r : (Bool)} (h : laws_sameInts a0 a1 = some r) {F : List It} {H : Heap} (hS : Own H (F)) {P : AV → Heap → Prop} (hP : ∀ H', Own H' (F) → P (.bool r) H') : ACall C 22 [.fz (a0.map (AV.int .i64)), .fz (a1.map (AV.int .i64))] H P := by
  refine acall_of gC (res := [.tmp 4]) (n := 26) rfl rfl rfl rfl fun K0 hK0 => ?_
  simp only [W, Nat.reduceSub, Nat.reduceAdd, List.replicate]
  unfold laws_sameInts at h
  refine w_seq fun K1 hK1 => ?_
  refine w_reg gC ?_
  try simp only [W, Nat.reduceAdd]
  refine seq_n hK1 ?_
  refine w_seq fun K2 hK2 => ?_
  refine w_seq fun K3 hK3 => ?_
  refine w_reg gC ?_
  try simp only [W, EE, Nat.reduceAdd]
  refine seq_n hK3 ?_
  refine w_if ?_
  simp only [W]
  refine w_cnd h (fun hc h => ?_) (fun hc h => ?_)
  · refine w_seq fun K4 hK4 => ?_
    refine w_reg gC ?_
    try simp only [W, Nat.reduceAdd]
    refine seq_n hK4 ?_
    refine w_ret ?_
    refine seq_r hK2 ?_
    refine fin_r1 hK0 rfl ?_
    try obtain rfl := Option.some.inj h
    exact hP _ hS
  · refine w_skip ?_
    refine seq_n hK2 ?_
    refine w_seq fun K5 hK5 => ?_
    refine w_seq fun K6 hK6 => ?_
    refine w_reg gC ?_
    try simp only [W, EE, Nat.reduceAdd]
    refine seq_n hK6 ?_
    obtain ⟨y8, hw9, g15⟩ := Option.bind_eq_some_iff.1 h
    refine w_join gC (fun s H => y8 = LR.next () ∧ s = [u, u, u, u, u, u, u, u, u, u, u, u, u, u, u, u, u, u, u, u, u, u, u, u, u, u] ∧ Own H (F)) (fun K10 hK10 => ?_) (fun s H hq => ?_)
    · refine w_blk fun K11 hK11 => ?_
      refine w_loop gC hw9 (fun x s H => s = [.fz (a0.map (AV.int .i64)), .fz (a1.map (AV.int .i64)), u, u, u, u, u, u, u, u, u, u, .int .i64 (a0.length : Int), .int .i64 x, u, u, u, u, u, u, u, u, u, u, u, u] ∧ Own H (F)) ⟨rfl, hS⟩ (fun x7 y14 s H h hd13 hi K12 hK12 => ?_)
      skip
      try dsimp only at hi
      obtain ⟨rfl, hS⟩ := hi
      simp only [laws_sameInts_l0] at h
      refine w_seq fun K16 hK16 => ?_
      refine w_reg gC ?_
      try simp only [W, EE, Nat.reduceAdd]
      refine seq_n hK16 ?_
      refine w_seq fun K17 hK17 => ?_
      refine w_if ?_
      simp only [W]
      refine w_cnd h (fun hc h => ?_) (fun hc h => ?_)
      · refine w_skip ?_
        refine seq_n hK17 ?_
        refine w_seq fun K18 hK18 => ?_
        refine w_blk fun K19 hK19 => ?_
        refine w_seq fun K20 hK20 => ?_
        refine w_reg gC ?_
        try simp only [W, Nat.reduceAdd]
        refine seq_n hK20 ?_
        refine w_seq fun K21 hK21 => ?_
        refine w_draw0 gC (by kernel_rfl) ?_
        try simp only [W, EE, Nat.reduceAdd]
        refine w_fz rfl rfl rfl (fun _ => rfl) h fun b22 hb22 h => ?_
        try simp only [W, EE]
        refine w_fz rfl rfl rfl (fun _ => rfl) h fun b23 hb23 h => ?_
        try simp only [W, EE]
        refine seq_n hK21 ?_
        refine w_if ?_
        simp only [W]
        refine w_cnd h (fun hc h => ?_) (fun hc h => ?_)
        · refine w_seq fun K24 hK24 => ?_
          refine w_reg gC ?_
          try simp only [W, Nat.reduceAdd]
          refine seq_n hK24 ?_
          refine w_ret ?_
          refine blk_r hK19 ?_
          refine seq_r hK18 ?_
          try obtain rfl := Option.some.inj h
          obtain rfl := hd13 _ rfl
          have h : (some (LR.done false) : Option (LR Unit (Bool))) = some (LR.done false) := rfl
          refine lp_r hK12 ?_
          refine blk_r hK11 ?_
          try obtain rfl := Option.some.inj h
          obtain rfl := Option.some.inj g15
          have h : (some false : Option (Bool)) = some false := rfl
          refine cut_r hK10 ?_
          refine seq_r hK5 ?_
          refine fin_r1 hK0 rfl ?_
          try obtain rfl := Option.some.inj h
          exact hP _ hS
        · refine w_skip ?_
          refine blk_n0 hK19 ?_
          refine seq_n hK18 ?_
          refine w_reg gC ?_
          try simp only [W, EE, Nat.reduceAdd]
          exact lp_n hK12 h ⟨rfl, hS⟩
      · refine w_exit ?_
        refine seq_x hK17 ?_
        try obtain rfl := Option.some.inj h
        obtain rfl := hd13 _ rfl
        have h : (some (LR.next ()) : Option (LR Unit (Bool))) = some (LR.next ()) := rfl
        refine lp_x hK12 ?_
        refine blk_e hK11 ?_
        exact cut_n hK10 ⟨(Option.some.inj h).symm, rfl, hS⟩
    · obtain ⟨rfl, rfl, hS⟩ := hq
      replace h := g15
      try dsimp only at h
      refine seq_n hK5 ?_
      refine w_seq fun K31 hK31 => ?_
      refine w_reg gC ?_
      try simp only [W, Nat.reduceAdd]
      refine seq_n hK31 ?_
      refine w_ret ?_
      refine fin_r1 hK0 rfl ?_
      try obtain rfl := Option.some.inj h
      exact hP _ hS
theorem impl_GoodJobs_w {a0 : List Job} {r : (Bool)} (h : impl_GoodJobs a0 = some r) {F : List It} {H : Heap} (hS : Own H (F)) {P : AV → Heap → Prop} (hP : ∀ H', Own H' (F) → P (.bool r) H') : ACall C 79 [.fz (a0.map e_Job)] H P := by
  refine acall_of gC (res := [.tmp 2]) (n := 5) rfl rfl rfl rfl fun K0 hK0 => ?_
  simp only [W, Nat.reduceSub, Nat.reduceAdd, List.replicate]
  unfold impl_GoodJobs at h
  refine w_seq fun K1 hK1 => ?_
  refine w_reg gC ?_
  try simp only [W, Nat.reduceAdd]
  refine seq_n hK1 ?_
  refine w_seq fun K2 hK2 => ?_
  refine w_reg gC ?_
  try simp only [W, Nat.reduceAdd]
  refine w_call h fun b3 hb3 h => ?_
  refine impl_areJobs_w hb3 hS fun H hS => ?_
  try simp only [W]
  refine seq_n hK2 ?_
  refine w_ret ?_
  refine fin_r1 hK0 rfl ?_
  try obtain rfl := Option.some.inj h
  exact hP _ hS
theorem impl_IsSchedule_w {a0 : List Job} {a1 : List Int} {r : (Bool × Bool)} (h : impl_IsSchedule a0 a1 = some r) {F : List It} {H : Heap} (hS : Own H (F)) {P : AV → Heap → Prop} (hP : ∀ H', Own H' (F) → P (.tup [.bool r.1, .bool r.2]) H') : ACall C 80 [.fz (a0.map e_Job), .fz (a1.map (AV.int .i64))] H P := by
  refine acall_of gC (res := [.tmp 4, .tmp 5]) (n := 17) rfl rfl rfl rfl fun K0 hK0 => ?_
  simp only [W, Nat.reduceSub, Nat.reduceAdd, List.replicate]
  unfold impl_IsSchedule at h
  refine w_seq fun K1 hK1 => ?_
  refine w_reg gC ?_
  try simp only [W, Nat.reduceAdd]
  refine seq_n hK1 ?_
  refine w_seq fun K2 hK2 => ?_
  refine w_seq fun K3 hK3 => ?_
  refine w_reg gC ?_
  try simp only [W, Nat.reduceAdd]
  refine w_call h fun b4 hb4 h => ?_
  refine impl_areJobs_w hb4 hS fun H hS => ?_
  try simp only [W]
  refine seq_n hK3 ?_
  refine w_if ?_
  simp only [W]
  refine w_cnd h (fun hc h => ?_) (fun hc h => ?_)
  · refine w_seq fun K5 hK5 => ?_
    refine w_reg gC ?_
    try simp only [W, Nat.reduceAdd]
    refine seq_n hK5 ?_
    refine w_ret ?_
    refine seq_r hK2 ?_
    refine fin_r2 hK0 rfl rfl ?_
    try obtain rfl := Option.some.inj h
    exact hP _ hS
  · refine w_skip ?_
    refine seq_n hK2 ?_
    refine w_seq fun K6 hK6 => ?_
    refine w_reg gC ?_
    try simp only [W, Nat.reduceAdd]
    refine w_call h fun b7 hb7 h => ?_
    refine impl_isPlan_w hb7 hS fun H hS => ?_
    try simp only [W]
    refine w_grdT h (fun hc h => ?_) (fun hc h => ?_)
    · try simp only [W, hc]
      refine w_call h fun b8 hb8 h => ?_
      refine impl_isSchedule_w hb8 hS fun H hS => ?_
      try simp only [W, reduceIte]
      refine seq_n hK6 ?_
      refine w_ret ?_
      refine fin_r2 hK0 rfl rfl ?_
      try obtain rfl := Option.some.inj h
      exact hP _ hS
    · try simp only [W, hc]
      refine seq_n hK6 ?_
      refine w_ret ?_
      refine fin_r2 hK0 rfl rfl ?_
      try obtain rfl := Option.some.inj h
      exact hP _ hS
theorem spec_IsSchedule_w {a0 : List Job} {a1 : List Int} {r : (Bool × Bool)} (h : spec_IsSchedule a0 a1 = some r) {F : List It} {H : Heap} (hS : Own H (F)) {P : AV → Heap → Prop} (hP : ∀ H', Own H' (F) → P (.tup [.bool r.1, .bool r.2]) H') : ACall C 82 [.fz (a0.map e_Job), .fz (a1.map (AV.int .i64))] H P := by
  refine acall_of gC (res := [.tmp 4, .tmp 5]) (n := 12) rfl rfl rfl rfl fun K0 hK0 => ?_
  simp only [W, Nat.reduceSub, Nat.reduceAdd, List.replicate]
  unfold spec_IsSchedule at h
  refine w_seq fun K1 hK1 => ?_
  refine w_reg gC ?_
  try simp only [W, Nat.reduceAdd]
  refine seq_n hK1 ?_
  refine w_seq fun K2 hK2 => ?_
  refine w_seq fun K3 hK3 => ?_
  refine w_reg gC ?_
  try simp only [W, Nat.reduceAdd]
  refine w_call h fun b4 hb4 h => ?_
  refine spec_GoodJobs_w hb4 hS fun H hS => ?_
  try simp only [W]
  refine seq_n hK3 ?_
  refine w_if ?_
  simp only [W]
  refine w_cnd h (fun hc h => ?_) (fun hc h => ?_)
  · refine w_seq fun K5 hK5 => ?_
    refine w_reg gC ?_
    try simp only [W, Nat.reduceAdd]
    refine seq_n hK5 ?_
    refine w_ret ?_
    refine seq_r hK2 ?_
    refine fin_r2 hK0 rfl rfl ?_
    try obtain rfl := Option.some.inj h
    exact hP _ hS
  · refine w_skip ?_
    refine seq_n hK2 ?_
    refine w_seq fun K6 hK6 => ?_
    refine w_reg gC ?_
    try simp only [W, Nat.reduceAdd]
    refine w_call h fun b7 hb7 h => ?_
    refine spec_l4Schedule_w hb7 hS fun H hS => ?_
    try simp only [W]
    refine seq_n hK6 ?_
    refine w_ret ?_
    refine fin_r2 hK0 rfl rfl ?_
    try obtain rfl := Option.some.inj h
    exact hP _ hS
theorem laws_FnEarliest_w {a0 : List Int} {a1 : List Int} {r : (Bool)} (h : laws_FnEarliest a0 a1 = some r) {F : List It} {H : Heap} (hS : Own H (F)) {P : AV → Heap → Prop} (hP : ∀ H', Own H' (F) → P (.bool r) H') : ACall C 9 [.fz (a0.map (AV.int .u8)), .fz (a1.map (AV.int .u8))] H P := by
  refine acall_of gC (res := [.tmp 4]) (n := 179) rfl rfl rfl rfl fun K0 hK0 => ?_
  simp only [W, Nat.reduceSub, Nat.reduceAdd, List.replicate]
  unfold laws_FnEarliest at h
  refine w_seq fun K1 hK1 => ?_
  refine w_reg gC ?_
  try simp only [W, Nat.reduceAdd]
  refine seq_n hK1 ?_
  refine w_seq fun K2 hK2 => ?_
  refine w_seq fun K3 hK3 => ?_
  refine w_reg gC ?_
  try simp only [W, EE, Nat.reduceAdd]
  refine seq_n hK3 ?_
  refine w_if ?_
  simp only [W]
  refine w_cnd h (fun hc h => ?_) (fun hc h => ?_)
  · refine w_seq fun K4 hK4 => ?_
    refine w_reg gC ?_
    try simp only [W, Nat.reduceAdd]
    refine seq_n hK4 ?_
    refine w_ret ?_
    refine seq_r hK2 ?_
    refine fin_r1 hK0 rfl ?_
    try obtain rfl := Option.some.inj h
    exact hP _ hS
  · refine w_skip ?_
    refine seq_n hK2 ?_
    refine w_seq fun K5 hK5 => ?_
    refine w_reg gC ?_
    try simp only [W, Nat.reduceAdd]
    refine w_call h fun b6 hb6 h => ?_
    obtain ⟨b7, b8⟩ := b6
    try dsimp only at h
    refine spec_DrawLateIn_w hb6 hS fun v9 qv9 v11 qv11 H hS => ?_
    try simp only [W]
    refine seq_n hK5 ?_
    refine w_seq fun K13 hK13 => ?_
    refine w_reg gC ?_
    try simp only [W, Nat.reduceAdd, Nat.reduceBEq, List.contains_cons, Nat.reduceBEq, Bool.or_self]
    refine w_callO (rsh := [[.sl [.sc]], [.sc]]) (ys := [.fz (b7.map e_Job), .fz (b8.map (AV.int .i64))]) h rfl (pv_c (sn_ow hS 0 rfl qv9 (fun _ => rfl)) (pv_c (sn_ow hS 1 rfl qv11 (fun _ => rfl)) pv_n)) fun b14 hb14 h => ⟨.tup [.own 1 (b14.1.map (AV.int .i64)), .bool b14.2], impl_LateIn_w hb14 (Own.nil _) fun v17 qv17 H hS => TV_ok rfl (TV_o 0 hS rfl qv17 (fun _ _ => by simp [takeE, takeT, plainA]) fun H hS => TV_p rfl (TV_n rfl)), (nf_t (nf_c (noFz_o _ (fun _ => rfl) _) (nf_c rfl nf_n))), ?_⟩
    refine thaw_tup ?_
    refine TH_o hS (fun _ _ => rfl) (fun _ => rfl) fun v19 H qv19 hS => ?_
    refine TH_p (fun _ => rfl) ?_
    refine TH_n ?_
    try simp only [List.headD_cons]
    obtain ⟨b15, b16⟩ := b14
    try dsimp only at h
    try simp only [W]
    refine seq_n hK13 ?_
    refine w_seq fun K20 hK20 => ?_
    refine w_reg gC ?_
    try simp only [W, Nat.reduceAdd, Nat.reduceBEq, List.contains_cons, Nat.reduceBEq, Bool.or_self]
    refine w_callO (rsh := [[.sl [.sc]], [.sc]]) (ys := [.fz (b7.map e_Job), .fz (b8.map (AV.int .i64))]) h rfl (pv_c (sn_ow hS 1 rfl qv9 (fun _ => rfl)) (pv_c (sn_ow hS 2 rfl qv11 (fun _ => rfl)) pv_n)) fun b21 hb21 h => ⟨.tup [.own 1 (b21.1.map (AV.int .i64)), .bool b21.2], spec_LateIn_w hb21 (Own.nil _) fun v24 qv24 H hS => TV_ok rfl (TV_o 0 hS rfl qv24 (fun _ _ => by simp [takeE, takeT, plainA]) fun H hS => TV_p rfl (TV_n rfl)), (nf_t (nf_c (noFz_o _ (fun _ => rfl) _) (nf_c rfl nf_n))), ?_⟩
    refine thaw_tup ?_
    refine TH_o hS (fun _ _ => rfl) (fun _ => rfl) fun v26 H qv26 hS => ?_
    refine TH_p (fun _ => rfl) ?_
    refine TH_n ?_
    try simp only [List.headD_cons]
    obtain ⟨b22, b23⟩ := b21
    try dsimp only at h
    try simp only [W]
    refine seq_n hK20 ?_
    refine w_seq fun K27 hK27 => ?_
    refine w_reg gC ?_
    try simp only [W, Nat.reduceAdd, Nat.reduceBEq, List.contains_cons, Nat.reduceBEq, Bool.or_self]
    refine w_callO (rsh := [[.sl [.sc]], [.sc]]) (ys := [.fz (b7.map e_Job)]) h rfl (pv_c (sn_ow hS 2 rfl qv9 (fun _ => rfl)) pv_n) fun b28 hb28 h => ⟨.tup [.own 1 (b28.1.map (AV.int .i64)), .bool b28.2], impl_EarliestFirst_w hb28 (Own.nil _) fun v31 qv31 H hS => TV_ok rfl (TV_o 0 hS rfl qv31 (fun _ _ => by simp [takeE, takeT, plainA]) fun H hS => TV_p rfl (TV_n rfl)), (nf_t (nf_c (noFz_o _ (fun _ => rfl) _) (nf_c rfl nf_n))), ?_⟩
    refine thaw_tup ?_
    refine TH_o hS (fun _ _ => rfl) (fun _ => rfl) fun v33 H qv33 hS => ?_
    refine TH_p (fun _ => rfl) ?_
    refine TH_n ?_
    try simp only [List.headD_cons]
    obtain ⟨b29, b30⟩ := b28
    try dsimp only at h
    try simp only [W]
    refine seq_n hK27 ?_
    refine w_seq fun K34 hK34 => ?_
    refine w_reg gC ?_
    try simp only [W, Nat.reduceAdd, Nat.reduceBEq, List.contains_cons, Nat.reduceBEq, Bool.or_self]
    refine w_callO (rsh := [[.sl [.sc]], [.sc]]) (ys := [.fz (b7.map e_Job)]) h rfl (pv_c (sn_ow hS 3 rfl qv9 (fun _ => rfl)) pv_n) fun b35 hb35 h => ⟨.tup [.own 1 (b35.1.map (AV.int .i64)), .bool b35.2], spec_EarliestFirst_w hb35 (Own.nil _) fun v38 qv38 H hS => TV_ok rfl (TV_o 0 hS rfl qv38 (fun _ _ => by simp [takeE, takeT, plainA]) fun H hS => TV_p rfl (TV_n rfl)), (nf_t (nf_c (noFz_o _ (fun _ => rfl) _) (nf_c rfl nf_n))), ?_⟩
    refine thaw_tup ?_
    refine TH_o hS (fun _ _ => rfl) (fun _ => rfl) fun v40 H qv40 hS => ?_
    refine TH_p (fun _ => rfl) ?_
    refine TH_n ?_
    try simp only [List.headD_cons]
    obtain ⟨b36, b37⟩ := b35
    try dsimp only at h
    try simp only [W]
    refine seq_n hK34 ?_
    refine w_seq fun K41 hK41 => ?_
    refine w_reg gC ?_
    try simp only [W, Nat.reduceAdd]
    refine w_callS (rsh := [[.sc], [.sc]]) (ys := [.fz (b7.map e_Job)]) h rfl (pv_c (sn_ow hS 4 rfl qv9 (fun _ => rfl)) pv_n) fun b42 hb42 h => ⟨.tup [.bool b42.1, .bool b42.2], impl_CanMeet_w hb42 (Own.nil _) fun H hS => TV_ok rfl (TV_p rfl (TV_p rfl (TV_n rfl))), ⟨rfl, rfl, fun _ => rfl⟩, ?_⟩
    obtain ⟨b43, b44⟩ := b42
    try dsimp only at h
    try simp only [W]
    refine seq_n hK41 ?_
    refine w_seq fun K45 hK45 => ?_
    refine w_reg gC ?_
    try simp only [W, Nat.reduceAdd]
    refine w_callS (rsh := [[.sc], [.sc]]) (ys := [.fz (b7.map e_Job)]) h rfl (pv_c (sn_ow hS 4 rfl qv9 (fun _ => rfl)) pv_n) fun b46 hb46 h => ⟨.tup [.bool b46.1, .bool b46.2], spec_CanMeet_w hb46 (Own.nil _) fun H hS => TV_ok rfl (TV_p rfl (TV_p rfl (TV_n rfl))), ⟨rfl, rfl, fun _ => rfl⟩, ?_⟩
    obtain ⟨b47, b48⟩ := b46
    try dsimp only at h
    try simp only [W]
    refine seq_n hK45 ?_
    refine w_seq fun K49 hK49 => ?_
    refine w_seq fun K50 hK50 => ?_
    obtain ⟨y52, h, g53⟩ := Option.bind_eq_some_iff.1 h
    refine w_join gC (fun s H => ∃ x51 : Bool, y52 = (x51) ∧ s = [u, .fz (a1.map (AV.int .u8)), u, u, u, v9, u, v19, .bool b16, u, u, v33, .bool b30, u, u, .bool b43, .bool b44, u, u, u, u, u, u, u, u, u, u, u, u, u, u, u, u, u, u, u, u, u, u, u, u, u, u, u, u, u, u, u, u, u, u, u, u, u, u, u, u, u, u, u, u, u, u, u, u, u, u, u, u, u, u, u, u, u, u, u, u, u, u, u, u, u, u, u, u, u, u, u, u, u, u, u, u, u, u, u, u, u, u, u, u, u, u, u, u, u, u, .bool x51, u, u, u, u, u, u, u, u, u, u, u, u, u, u, u, u, u, u, u, u, u, u, u, u, u, u, u, u, u, u, u, u, u, u, u, u, u, u, u, u, u, u, u, u, u, u, u, u, u, u, u, u, u, u, u, u, u, u, u, u, u, u, u, u, u, u, u, u, u, u, u] ∧ Own H (⟨v9, 3, b7.map e_Job⟩ :: ⟨v19, 1, b15.map (AV.int .i64)⟩ :: ⟨v33, 1, b29.map (AV.int .i64)⟩ :: F)) (fun K54 hK54 => ?_) (fun s H hq => ?_)
    · refine w_seq fun K55 hK55 => ?_
      refine w_reg gC ?_
      try simp only [W, EE, Nat.reduceAdd]
      rw [b_bneq _ _ _ _ (h := rfl) rfl, resV_s]
      try simp only [W]
      refine w_grdT h (fun hc h => ?_) (fun hc h => ?_)
      · try simp only [W, hc]
        refine seq_n hK55 ?_
        refine w_kill ?_
        exact cut_n hK54 ⟨_, (Option.some.inj h).symm, rfl, (hS.sel 6 [4, 3, 1] (by decide))⟩
      · try simp only [W, hc]
        refine w_callS (rsh := [[.sc]]) (ys := [.fz (b15.map (AV.int .i64)), .fz (b22.map (AV.int .i64))]) h rfl (pv_c (sn_ow hS 3 rfl qv19 (fun _ => rfl)) (pv_c (sn_ow hS 2 rfl qv26 (fun _ => rfl)) pv_n)) fun b56 hb56 h => ⟨.bool b56, laws_sameInts_w hb56 (Own.nil _) fun H hS => TV_ok rfl (TV_p rfl (TV_n rfl)), ⟨rfl, rfl, fun _ => rfl⟩, ?_⟩
        try simp only [W, reduceIte, Bool.false_eq_true]
        refine w_grdT h (fun hc h => ?_) (fun hc h => ?_)
        · try simp only [W, hc]
          refine seq_n hK55 ?_
          refine w_kill ?_
          exact cut_n hK54 ⟨_, (Option.some.inj h).symm, rfl, (hS.sel 6 [4, 3, 1] (by decide))⟩
        · try simp only [W, EE, hc]
          rw [b_bneq _ _ _ _ (h := rfl) rfl, resV_s]
          try simp only [W, reduceIte, Bool.false_eq_true]
          refine w_grdT h (fun hc h => ?_) (fun hc h => ?_)
          · try simp only [W, hc]
            refine seq_n hK55 ?_
            refine w_kill ?_
            exact cut_n hK54 ⟨_, (Option.some.inj h).symm, rfl, (hS.sel 6 [4, 3, 1] (by decide))⟩
          · try simp only [W, hc]
            refine w_callS (rsh := [[.sc]]) (ys := [.fz (b29.map (AV.int .i64)), .fz (b36.map (AV.int .i64))]) h rfl (pv_c (sn_ow hS 1 rfl qv33 (fun _ => rfl)) (pv_c (sn_ow hS 0 rfl qv40 (fun _ => rfl)) pv_n)) fun b57 hb57 h => ⟨.bool b57, laws_sameInts_w hb57 (Own.nil _) fun H hS => TV_ok rfl (TV_p rfl (TV_n rfl)), ⟨rfl, rfl, fun _ => rfl⟩, ?_⟩
            try simp only [W, reduceIte, Bool.false_eq_true]
            refine w_grdT h (fun hc h => ?_) (fun hc h => ?_)
            · try simp only [W, hc]
              refine seq_n hK55 ?_
              refine w_kill ?_
              exact cut_n hK54 ⟨_, (Option.some.inj h).symm, rfl, (hS.sel 6 [4, 3, 1] (by decide))⟩
            · try simp only [W, EE, hc]
              rw [b_bneq _ _ _ _ (h := rfl) rfl, resV_s]
              try simp only [W, reduceIte, Bool.false_eq_true]
              refine w_grdT h (fun hc h => ?_) (fun hc h => ?_)
              · try simp only [W, hc]
                refine seq_n hK55 ?_
                refine w_kill ?_
                exact cut_n hK54 ⟨_, (Option.some.inj h).symm, rfl, (hS.sel 6 [4, 3, 1] (by decide))⟩
              · try simp only [W, EE, hc]
                rw [b_bneq _ _ _ _ (h := rfl) rfl, resV_s]
                try simp only [W, reduceIte, Bool.false_eq_true]
                refine w_grdT h (fun hc h => ?_) (fun hc h => ?_)
                · try simp only [W, hc]
                  refine seq_n hK55 ?_
                  refine w_kill ?_
                  exact cut_n hK54 ⟨_, (Option.some.inj h).symm, rfl, (hS.sel 6 [4, 3, 1] (by decide))⟩
                · try simp only [W, hc]
                  refine w_callS (rsh := [[.sc]]) (ys := [.fz (b7.map e_Job)]) h rfl (pv_c (sn_ow hS 4 rfl qv9 (fun _ => rfl)) pv_n) fun b58 hb58 h => ⟨.bool b58, impl_GoodJobs_w hb58 (Own.nil _) fun H hS => TV_ok rfl (TV_p rfl (TV_n rfl)), ⟨rfl, rfl, fun _ => rfl⟩, ?_⟩
                  try simp only [W, EE]
                  rw [b_bneq _ _ _ _ (h := rfl) rfl, resV_s]
                  try simp only [W, reduceIte, Bool.false_eq_true]
                  refine seq_n hK55 ?_
                  refine w_kill ?_
                  exact cut_n hK54 ⟨_, (Option.some.inj h).symm, rfl, (hS.sel 6 [4, 3, 1] (by decide))⟩
    · obtain ⟨x51, ey, rfl, hS⟩ := hq; obtain rfl := ey.symm
      replace h := g53
      try dsimp only at h
      refine seq_n hK50 ?_
      refine w_if ?_
      simp only [W]
      refine w_cnd h (fun hc h => ?_) (fun hc h => ?_)
      · refine w_seq fun K59 hK59 => ?_
        refine w_reg gC ?_
        try simp only [W, Nat.reduceAdd]
        refine seq_n hK59 ?_
        refine w_ret ?_
        refine seq_r hK49 ?_
        refine fin_r1 hK0 rfl ?_
        try obtain rfl := Option.some.inj h
        exact hP _ (hS.sel 3 [] (by decide))
      · refine w_skip ?_
        refine seq_n hK49 ?_
        refine w_seq fun K60 hK60 => ?_
        refine w_seq fun K61 hK61 => ?_
        refine w_reg gC ?_
        try simp only [W, Nat.reduceAdd]
        refine seq_n hK61 ?_
        obtain ⟨y62, h, g63⟩ := Option.bind_eq_some_iff.1 h
        refine w_join gC (fun s H => y62 = LR.next () ∧ s = [u, .fz (a1.map (AV.int .u8)), u, u, u, u, u, u, u, u, u, u, u, u, u, u, u, u, u, u, u, u, u, u, u, u, u, u, u, u, u, u, u, u, u, u, u, u, u, u, u, u, u, u, u, u, u, u, u, u, u, u, u, u, u, u, u, u, u, u, u, u, u, u, u, u, u, u, u, u, u, u, u, u, u, u, u, u, u, u, u, u, u, u, u, u, u, u, u, u, u, u, u, u, u, u, u, u, u, u, u, u, u, u, u, u, u, u, u, u, u, u, u, u, u, u, u, u, u, u, u, u, u, u, u, u, u, u, u, u, u, u, u, u, u, u, u, u, u, u, u, u, u, u, u, u, u, u, u, u, u, u, u, u, u, u, u, u, u, u, u, u, u, u, u, u, u, u, u, u, u, u, u, u, u, u, u, u, u] ∧ Own H (F)) (fun K64 hK64 => ?_) (fun s H hq => ?_)
        · refine w_seq fun K65 hK65 => ?_
          refine w_if ?_
          simp only [W]
          refine w_cnd h (fun hc h => ?_) (fun hc h => ?_)
          · refine w_seq fun K66 hK66 => ?_
            refine w_reg gC ?_
            try simp only [W, Nat.reduceAdd]
            refine w_callS (rsh := [[.sc], [.sc]]) (ys := [.fz (b7.map e_Job), .fz (b29.map (AV.int .i64))]) h rfl (pv_c (sn_ow hS 0 rfl qv9 (fun _ => rfl)) (pv_c (sn_ow hS 2 rfl qv33 (fun _ => rfl)) pv_n)) fun b67 hb67 h => ⟨.tup [.bool b67.1, .bool b67.2], impl_IsSchedule_w hb67 (Own.nil _) fun H hS => TV_ok rfl (TV_p rfl (TV_p rfl (TV_n rfl))), ⟨rfl, rfl, fun _ => rfl⟩, ?_⟩
            obtain ⟨b68, b69⟩ := b67
            try dsimp only at h
            try simp only [W]
            refine seq_n hK66 ?_
            refine w_seq fun K70 hK70 => ?_
            refine w_reg gC ?_
            try simp only [W, Nat.reduceAdd, Nat.reduceBEq, List.contains_cons, Nat.reduceBEq, Bool.or_self]
            refine w_callO (rsh := [[.sl [.sc]], [.sc]]) (ys := [.fz (b7.map e_Job), .fz (b29.map (AV.int .i64))]) h rfl (pv_c (sn_ow hS 0 rfl qv9 (fun _ => rfl)) (pv_c (sn_ow hS 2 rfl qv33 (fun _ => rfl)) pv_n)) fun b71 hb71 h => ⟨.tup [.own 1 (b71.1.map (AV.int .i64)), .bool b71.2], impl_LateIn_w hb71 (Own.nil _) fun v74 qv74 H hS => TV_ok rfl (TV_o 0 hS rfl qv74 (fun _ _ => by simp [takeE, takeT, plainA]) fun H hS => TV_p rfl (TV_n rfl)), (nf_t (nf_c (noFz_o _ (fun _ => rfl) _) (nf_c rfl nf_n))), ?_⟩
            refine thaw_tup ?_
            refine TH_o hS (fun _ _ => rfl) (fun _ => rfl) fun v76 H qv76 hS => ?_
            refine TH_p (fun _ => rfl) ?_
            refine TH_n ?_
            try simp only [List.headD_cons]
            obtain ⟨b72, b73⟩ := b71
            try dsimp only at h
            try simp only [W]
            refine seq_n hK70 ?_
            refine w_seq fun K77 hK77 => ?_
            obtain ⟨y79, h, g80⟩ := Option.bind_eq_some_iff.1 h
            refine w_join gC (fun s H => ∃ x78 : Bool, y79 = (x78) ∧ s = [u, .fz (a1.map (AV.int .u8)), u, u, u, u, u, u, u, u, u, u, u, u, u, u, u, u, u, u, u, u, u, u, u, u, u, u, u, u, u, u, u, u, u, u, u, u, u, u, u, u, u, u, u, u, u, u, u, u, u, u, u, u, u, u, u, u, u, u, u, u, u, u, u, u, u, u, u, u, u, u, u, u, u, u, u, u, u, u, u, u, u, u, u, u, u, u, u, u, u, u, u, u, u, u, u, u, u, u, u, u, u, u, u, u, u, u, u, u, u, u, u, u, u, u, u, u, u, u, u, u, u, u, u, u, u, u, u, u, u, u, u, u, u, u, u, u, u, u, u, u, u, u, u, u, u, u, u, u, u, u, u, .bool x78, u, u, u, u, u, u, u, u, u, u, u, u, u, u, u, u, u, u, u, u, u, u, u, u, u] ∧ Own H (F)) (fun K81 hK81 => ?_) (fun s H hq => ?_)
            · refine w_seq fun K82 hK82 => ?_
              refine w_reg gC ?_
              try simp only [W, Nat.reduceAdd]
              refine w_grdT h (fun hc h => ?_) (fun hc h => ?_)
              · try simp only [W, hc]
                refine seq_n hK82 ?_
                refine w_kill ?_
                exact cut_n hK81 ⟨_, (Option.some.inj h).symm, rfl, (hS.sel 4 [] (by decide))⟩
              · try simp only [W, reduceIte, Bool.false_eq_true, hc]
                refine w_grdT h (fun hc h => ?_) (fun hc h => ?_)
                · try simp only [W, hc]
                  refine seq_n hK82 ?_
                  refine w_kill ?_
                  exact cut_n hK81 ⟨_, (Option.some.inj h).symm, rfl, (hS.sel 4 [] (by decide))⟩
                · try simp only [W, reduceIte, Bool.false_eq_true, hc]
                  refine w_grdT h (fun hc h => ?_) (fun hc h => ?_)
                  · try simp only [W, hc]
                    refine seq_n hK82 ?_
                    refine w_kill ?_
                    exact cut_n hK81 ⟨_, (Option.some.inj h).symm, rfl, (hS.sel 4 [] (by decide))⟩
                  · try simp only [W, reduceIte, Bool.false_eq_true, hc]
                    refine w_grdT h (fun hc h => ?_) (fun hc h => ?_)
                    · try simp only [W, hc]
                      refine seq_n hK82 ?_
                      refine w_kill ?_
                      exact cut_n hK81 ⟨_, (Option.some.inj h).symm, rfl, (hS.sel 4 [] (by decide))⟩
                    · try simp only [W, EE, hc]
                      refine w_len 0 hS rfl qv76 rfl ?_
                      try simp only [W, EE]
                      rw [b_bneq _ _ _ _ (h := rfl) rfl, resV_s]
                      try simp only [W, reduceIte, Bool.false_eq_true]
                      refine w_grdT h (fun hc h => ?_) (fun hc h => ?_)
                      · try simp only [W, hc]
                        refine seq_n hK82 ?_
                        refine w_kill ?_
                        exact cut_n hK81 ⟨_, (Option.some.inj h).symm, rfl, (hS.sel 4 [] (by decide))⟩
                      · try simp only [W, hc]
                        refine w_grdT h (fun hc h => ?_) (fun hc h => ?_)
                        · try simp only [W, EE, hc]
                          refine w_len 2 hS rfl qv19 rfl ?_
                          try simp only [W, EE, reduceIte]
                          refine w_grdT h (fun hc h => ?_) (fun hc h => ?_)
                          · try simp only [W, reduceIte, Bool.false_eq_true, hc]
                            refine seq_n hK82 ?_
                            refine w_kill ?_
                            exact cut_n hK81 ⟨_, (Option.some.inj h).symm, rfl, (hS.sel 4 [] (by decide))⟩
                          · try simp only [W, reduceIte, Bool.false_eq_true, hc]
                            refine seq_n hK82 ?_
                            refine w_kill ?_
                            exact cut_n hK81 ⟨_, (Option.some.inj h).symm, rfl, (hS.sel 4 [] (by decide))⟩
                        · try simp only [W, reduceIte, Bool.false_eq_true, hc]
                          refine seq_n hK82 ?_
                          refine w_kill ?_
                          exact cut_n hK81 ⟨_, (Option.some.inj h).symm, rfl, (hS.sel 4 [] (by decide))⟩
            · obtain ⟨x78, ey, rfl, hS⟩ := hq; obtain rfl := ey.symm
              replace h := g80
              try dsimp only at h
              refine seq_n hK77 ?_
              refine w_if ?_
              simp only [W]
              refine w_cnd h (fun hc h => ?_) (fun hc h => ?_)
              · refine w_seq fun K83 hK83 => ?_
                refine w_reg gC ?_
                try simp only [W, Nat.reduceAdd]
                refine seq_n hK83 ?_
                refine w_ret ?_
                refine seq_r hK65 ?_
                try obtain rfl := Option.some.inj h
                obtain rfl := Option.some.inj g63
                have h : (some false : Option (Bool)) = some false := rfl
                refine cut_r hK64 ?_
                refine seq_r hK60 ?_
                refine fin_r1 hK0 rfl ?_
                try obtain rfl := Option.some.inj h
                exact hP _ hS
              · refine w_skip ?_
                refine seq_n hK65 ?_
                refine w_kill ?_
                exact cut_n hK64 ⟨(Option.some.inj h).symm, rfl, hS⟩
          · refine w_skip ?_
            refine seq_n hK65 ?_
            refine w_kill ?_
            exact cut_n hK64 ⟨(Option.some.inj h).symm, rfl, (hS.sel 3 [] (by decide))⟩
        · obtain ⟨rfl, rfl, hS⟩ := hq
          replace h := g63
          try dsimp only at h
          refine seq_n hK60 ?_
          refine w_seq fun K86 hK86 => ?_
          refine w_reg gC ?_
          try simp only [W, Nat.reduceAdd]
          refine w_call h fun b87 hb87 h => ?_
          obtain ⟨b88, b89⟩ := b87
          try dsimp only at h
          refine spec_DrawIsSchedule_w hb87 hS fun v90 qv90 v92 qv92 H hS => ?_
          try simp only [W]
          refine seq_n hK86 ?_
          refine w_seq fun K94 hK94 => ?_
          refine w_reg gC ?_
          try simp only [W, Nat.reduceAdd]
          refine w_callS (rsh := [[.sc], [.sc]]) (ys := [.fz (b88.map e_Job), .fz (b89.map (AV.int .i64))]) h rfl (pv_c (sn_ow hS 0 rfl qv90 (fun _ => rfl)) (pv_c (sn_ow hS 1 rfl qv92 (fun _ => rfl)) pv_n)) fun b95 hb95 h => ⟨.tup [.bool b95.1, .bool b95.2], impl_IsSchedule_w hb95 (Own.nil _) fun H hS => TV_ok rfl (TV_p rfl (TV_p rfl (TV_n rfl))), ⟨rfl, rfl, fun _ => rfl⟩, ?_⟩
          obtain ⟨b96, b97⟩ := b95
          try dsimp only at h
          try simp only [W]
          refine seq_n hK94 ?_
          refine w_seq fun K98 hK98 => ?_
          refine w_reg gC ?_
          try simp only [W, Nat.reduceAdd]
          refine w_callS (rsh := [[.sc], [.sc]]) (ys := [.fz (b88.map e_Job), .fz (b89.map (AV.int .i64))]) h rfl (pv_c (sn_ow hS 0 rfl qv90 (fun _ => rfl)) (pv_c (sn_ow hS 1 rfl qv92 (fun _ => rfl)) pv_n)) fun b99 hb99 h => ⟨.tup [.bool b99.1, .bool b99.2], spec_IsSchedule_w hb99 (Own.nil _) fun H hS => TV_ok rfl (TV_p rfl (TV_p rfl (TV_n rfl))), ⟨rfl, rfl, fun _ => rfl⟩, ?_⟩
          obtain ⟨b100, b101⟩ := b99
          try dsimp only at h
          try simp only [W]
          refine seq_n hK98 ?_
          refine w_seq fun K102 hK102 => ?_
          refine w_reg gC ?_
          try simp only [W, EE, Nat.reduceAdd]
          rw [b_beql _ _ _ _ (h := rfl) rfl, resV_s]
          try simp only [W]
          refine w_grdT h (fun hc h => ?_) (fun hc h => ?_)
          · try simp only [W, EE, hc]
            rw [b_beql _ _ _ _ (h := rfl) rfl, resV_s]
            try simp only [W, reduceIte]
            refine seq_n hK102 ?_
            refine w_ret ?_
            refine fin_r1 hK0 rfl ?_
            try obtain rfl := Option.some.inj h
            exact hP _ (hS.sel 2 [] (by decide))
          · try simp only [W, hc]
            refine seq_n hK102 ?_
            refine w_ret ?_
            refine fin_r1 hK0 rfl ?_
            try obtain rfl := Option.some.inj h
            exact hP _ (hS.sel 2 [] (by decide))
end Go.VxW
