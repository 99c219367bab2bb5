import Derived.Test.YtcgnkhdeckgaaaaVhF
import Derived.Test.YtcgnkhdeckgaaaaProg
import Derived.Test.YtcgnkhdeckgaaaaVaE
import Derived.KernelRfl
open Go Go.VS
set_option maxRecDepth 8000
set_option maxHeartbeats 4000000
namespace Go.VxW
def e_Hello (x : Hello) : AV := .agg [.int .i64 x.Kind, .int .i64 x.X, .int .i64 x.Y]
def e_Greet (x : Greet) : AV := .agg [.int .i64 x.StateA, .int .i64 x.StateB, .int .i64 x.X, .int .i64 x.Y, .int .i64 x.OfX, .int .i64 x.OfY, .int .i64 x.LastX, .int .i64 x.LastY, .fz (x.Line.map e_Hello), .fz (x.OpenedA.map e_Hello), .fz (x.OpenedB.map e_Hello)]
def e_L1Cur (x : L1Cur) : AV := .agg [.fz (x.Code.map (AV.int .u8)), .int .i64 x.At, .int .u64 x.Seed]
def e_GreetStep (x : GreetStep) : AV := .agg [.int .i64 x.Kind, .int .i64 x.K]
def E : TEnv := fun t => match t with
  | 3 => some { sz := 1, agg := false, zero := [AV.int IntKind.i64 0], bytes := 8, und := UD.it IntKind.i64, eqok := true }
  | 4 => some { sz := 1, agg := false, zero := [AV.bool false], bytes := 1, und := UD.bl, eqok := true }
  | 5 => some { sz := 1, agg := false, zero := [AV.int IntKind.u8 0], bytes := 1, und := UD.it IntKind.u8, eqok := true }
  | 22 => some { sz := 1, agg := false, zero := [AV.nil], bytes := 24, und := UD.sl 3, eqok := true }
  | 41 => some { sz := 1, agg := false, zero := [AV.nil], bytes := 24, und := UD.sl 5, eqok := true }
  | 69 => some { sz := 1, agg := false, zero := [AV.nil], bytes := 24, und := UD.sl 4, eqok := true }
  | 81 => some { sz := 1, agg := false, zero := [AV.nil], bytes := 24, und := UD.sl 168, eqok := true }
  | 83 => some { sz := 1, agg := false, zero := [AV.nil], bytes := 24, und := UD.sl 91, eqok := true }
  | 85 => some { sz := 11, agg := true, zero := [AV.int IntKind.i64 0, AV.int IntKind.i64 0, AV.int IntKind.i64 0, AV.int IntKind.i64 0, AV.int IntKind.i64 0, AV.int IntKind.i64 0, AV.int IntKind.i64 0, AV.int IntKind.i64 0, AV.nil, AV.nil, AV.nil], bytes := 136, und := UD.st [(0, 3), (1, 3), (2, 3), (3, 3), (4, 3), (5, 3), (6, 3), (7, 3), (8, 83), (9, 83), (10, 83)], eqok := true }
  | 91 => some { sz := 3, agg := true, zero := [AV.int IntKind.i64 0, AV.int IntKind.i64 0, AV.int IntKind.i64 0], bytes := 24, und := UD.st [(0, 3), (1, 3), (2, 3)], eqok := true }
  | 147 => some { sz := 1, agg := false, zero := [AV.nilp], bytes := 8, und := UD.pt, eqok := true }
  | 148 => some { sz := 1, agg := false, zero := [AV.int IntKind.u64 0], bytes := 8, und := UD.it IntKind.u64, eqok := true }
  | 150 => some { sz := 3, agg := true, zero := [AV.nil, AV.int IntKind.i64 0, AV.int IntKind.u64 0], bytes := 40, und := UD.st [(0, 41), (1, 3), (2, 148)], eqok := true }
  | 168 => some { sz := 2, agg := true, zero := [AV.int IntKind.i64 0, AV.int IntKind.i64 0], bytes := 16, und := UD.st [(0, 3), (1, 3)], eqok := true }
  | 176 => some { sz := 1, agg := false, zero := [AV.undef], bytes := 8, und := UD.ot, eqok := true }
  | 225 => some { sz := 1, agg := false, zero := [AV.nilp], bytes := 8, und := UD.pt, eqok := true }
  | 229 => some { sz := 1, agg := false, zero := [AV.nil], bytes := 24, und := UD.sl 83, eqok := true }
  | _ => none
def pol : FuncId → FPol := fun f => match f with
  | 9 => { rsh := [[.sc]], loops := [(0, { keep := [4, 61, 62, 63] }), (2, { keep := [4, 99, 100, 101] }), (4, { keep := [4, 17, 99, 100, 101, 109, 110, 111] })], blocks := [(0, [4]), (4, [4, 99, 100, 101]), (2, [4])], regs := [(4, [], [1]), (5, [], [1]), (29, [], [1])], frz := [(6, [], some [4, 6, 55]), (16, [], some [4, 61, 62, 63, 96]), (25, [], some [4, 17, 99, 100, 101, 109, 110, 111, 126]), (31, [], some [164])], cnds := [(56, [])] }
  | 49 => { rsh := [[.sc]], loops := [(0, { keep := [0, 1, 12, 13] })], blocks := [(0, [])] }
  | 56 => { rsh := [[.sl [.sc, .sc]]] }
  | 57 => { rsh := [[.sc, .sc, .sc, .sc, .sc, .sc, .sc, .sc, .sl [.sc, .sc, .sc], .sl [.sc, .sc, .sc], .sl [.sc, .sc, .sc]], [.sl [.sc]], [.sc]], loops := [(0, { keep := [2, 5, 6, 17, 18, 19] })], blocks := [(0, [2, 5, 6])], regs := [(7, [], [1])], cnds := [(27, [2, 5, 6, 10, 17, 18, 19])] }
  | 58 => { rsh := [[.sc, .sc, .sc, .sc, .sc, .sc, .sc, .sc, .sl [.sc, .sc, .sc], .sl [.sc, .sc, .sc], .sl [.sc, .sc, .sc]], [.sl [.sc]], [.sc]], loops := [(0, { keep := [2, 5, 6, 16, 17, 18] })], blocks := [(0, [2, 5, 6])], regs := [(8, [3, 8], [1]), (13, [], [1])], cnds := [(29, [2, 5, 6, 10, 16, 17, 18])] }
  | 59 => { rsh := [[.sc]] }
  | 60 => { rsh := [[.sc]], blocks := [(0, [1, 3, 4]), (1, [1, 3, 4])], regs := [(17, [], [5])], frz := [(1, [], some [1, 33]), (6, [], some [1, 3, 4]), (8, [], some [1, 3, 4]), (13, [], some [1, 3, 4])], cnds := [(36, [1, 3, 4]), (46, [1, 3, 4]), (58, [1, 3, 4]), (67, [1, 3, 4]), (77, [1, 3, 4, 77])] }
  | 61 => { rsh := [[.sc], [.sc]] }
  | 62 => { rsh := [[.sc, .sc, .sc, .sc, .sc, .sc, .sc, .sc, .sl [.sc, .sc, .sc], .sl [.sc, .sc, .sc], .sl [.sc, .sc, .sc]], [.sc]], loops := [(0, { keep := [2, 4, 28, 29, 30] })], blocks := [(0, [2, 4])], frz := [(2, [], some [2, 4, 21])] }
  | 63 => { rsh := [[.sc], [.sc]] }
  | 109 => { rsh := [[.sc]] }
  | 114 => { rsh := [[.sc]] }
  | 151 => { rsh := [[.sl [.sc, .sc]]], loops := [(0, { keep := [0, 3, 4] })], blocks := [(0, [0, 3])], frz := [(13, [], some [0, 3, 43])], fz := [(7, [(2, [([18], [.sl [.sc]])])])], cnds := [(9, [0, 3, 4]), (23, [0, 3, 4, 5]), (29, [0, 3, 4, 5]), (43, [3])] }
  | 152 => { rsh := [[.sc, .sc, .sc, .sc, .sc, .sc, .sc, .sc, .sl [.sc, .sc, .sc], .sl [.sc, .sc, .sc], .sl [.sc, .sc, .sc]]] }
  | 153 => { rsh := [[.sc, .sc, .sc, .sc, .sc, .sc, .sc, .sc, .sl [.sc, .sc, .sc], .sl [.sc, .sc, .sc], .sl [.sc, .sc, .sc]]], regs := [(1, [10, 12, 14], [2, 5, 8])] }
  | 154 => { rsh := [[.sc]], blocks := [(0, [0, 3]), (1, [0]), (2, [0, 3, 29, 64])], regs := [(21, [9], []), (22, [10, 13], []), (28, [14, 17], [])], cnds := [(8, [0, 3, 7, 8]), (14, [0, 3, 7, 8, 14]), (30, [0]), (64, [0, 3, 29, 64]), (90, [0, 3, 29, 64]), (94, [0, 3, 29, 64]), (119, [0, 3, 29, 64]), (135, [0, 3, 29, 64]), (139, [0, 3, 29, 64])] }
  | 155 => { rsh := [[.sc, .sc, .sc, .sc, .sc, .sc, .sc, .sc, .sl [.sc, .sc, .sc], .sl [.sc, .sc, .sc], .sl [.sc, .sc, .sc]]] }
  | 156 => { rsh := [[.sc, .sc, .sc, .sc, .sc, .sc, .sc, .sc, .sl [.sc, .sc, .sc], .sl [.sc, .sc, .sc], .sl [.sc, .sc, .sc]], [.sc]], frz := [(3, [], some [2, 4, 19]), (11, [], some [2, 4, 44]), (24, [], some [2, 3, 4, 79])] }
  | 157 => { rsh := [[.sc, .sc, .sc, .sc, .sc, .sc, .sc, .sc, .sl [.sc, .sc, .sc], .sl [.sc, .sc, .sc], .sl [.sc, .sc, .sc]]] }
  | 158 => { rsh := [[.sc]], loops := [(0, { keep := [0, 1, 12, 13] })], blocks := [(0, [])] }
  | 159 => { rsh := [[.sc]] }
  | 160 => { rsh := [[.sl [.sc, .sc, .sc]]], loops := [(0, { keep := [0, 3, 9, 10, 11] }), (2, { keep := [6, 25, 26, 27] })], blocks := [(1, [0, 3, 9, 10, 11]), (0, [0, 3]), (2, [6])], cnds := [(20, [0, 3, 9, 10, 11])] }
  | 161 => { rsh := [[.sc]] }
  | 162 => { rsh := [[.sc]] }
  | 163 => { rsh := [[.sc]] }
  | 164 => { rsh := [[.sc]] }
  | 165 => { rsh := [[.sc]] }
  | 167 => { rsh := [[.sc]], cnds := [(11, [1, 5])] }
  | 168 => { rsh := [[.sc]] }
  | 219 => { rsh := [[.sc]] }
  | 235 => { rsh := [[.sl [.sc, .sc, .sc]]] }
  | 236 => { rsh := [], regs := [(2, [7, 10], [])] }
  | 237 => { rsh := [[.sl [.sc, .sc, .sc]]], regs := [(5, [6], [])] }
  | 238 => { rsh := [], regs := [(6, [11, 14, 17], []), (7, [10], []), (10, [6, 9], []), (11, [7, 10], []), (18, [7, 10], [])], frz := [(4, [], some [0, 3, 25]), (9, [], some [0, 3, 4, 61]), (13, [], some [0, 4, 97]), (16, [], some [0, 4, 148])] }
  | 239 => { rsh := [[.sc, .sc, .sc, .sc, .sc, .sc, .sc, .sc, .sl [.sc, .sc, .sc], .sl [.sc, .sc, .sc], .sl [.sc, .sc, .sc]]], cnds := [(8, [2, 4])] }
  | 240 => { rsh := [[.sc, .sc, .sc, .sc, .sc, .sc, .sc, .sc, .sl [.sc, .sc, .sc], .sl [.sc, .sc, .sc], .sl [.sc, .sc, .sc]]] }
  | 241 => { rsh := [[.sc, .sc, .sc, .sc, .sc, .sc, .sc, .sc, .sl [.sc, .sc, .sc], .sl [.sc, .sc, .sc], .sl [.sc, .sc, .sc]]], frz := [(3, [], some [2, 3, 4, 16]), (11, [], some [2, 3, 4, 47]), (15, [], some [2, 3, 4, 76]), (18, [], some [2, 3, 4, 101])], cnds := [(47, [2, 3, 4]), (101, [2, 4])] }
  | 242 => { rsh := [[.sl [.sc, .sc, .sc]]], cnds := [(6, [0, 1]), (16, [0])] }
  | 243 => { rsh := [[.sc]], loops := [(0, { keep := [0, 1, 7, 8] })], blocks := [(0, [])] }
  | 244 => { rsh := [[.sc]], loops := [(0, { keep := [0, 3, 7, 8] })], blocks := [(0, [])] }
  | 245 => { rsh := [[.sc]], cnds := [(13, [0, 3])] }
  | 266 => { rsh := [[.sl [.sc, .sc, .sc]]] }
  | _ => {}
noncomputable def code : FuncId → Option Func := fun f => match f with
  | 9 => some Go.Proofs.Try.f9
  | 49 => some Go.Proofs.Try.f49
  | 56 => some Go.Proofs.Try.f56
  | 57 => some Go.Proofs.Try.f57
  | 58 => some Go.Proofs.Try.f58
  | 59 => some Go.Proofs.Try.f59
  | 60 => some Go.Proofs.Try.f60
  | 61 => some Go.Proofs.Try.f61
  | 62 => some Go.Proofs.Try.f62
  | 63 => some Go.Proofs.Try.f63
  | 109 => some Go.Proofs.Try.f109
  | 114 => some Go.Proofs.Try.f114
  | 151 => some Go.Proofs.Try.f151
  | 152 => some Go.Proofs.Try.f152
  | 153 => some Go.Proofs.Try.f153
  | 154 => some Go.Proofs.Try.f154
  | 155 => some Go.Proofs.Try.f155
  | 156 => some Go.Proofs.Try.f156
  | 157 => some Go.Proofs.Try.f157
  | 158 => some Go.Proofs.Try.f158
  | 159 => some Go.Proofs.Try.f159
  | 160 => some Go.Proofs.Try.f160
  | 161 => some Go.Proofs.Try.f161
  | 162 => some Go.Proofs.Try.f162
  | 163 => some Go.Proofs.Try.f163
  | 164 => some Go.Proofs.Try.f164
  | 165 => some Go.Proofs.Try.f165
  | 167 => some Go.Proofs.Try.f167
  | 168 => some Go.Proofs.Try.f168
  | 219 => some Go.Proofs.Try.f219
  | 236 => some Go.Proofs.Try.f236
  | 237 => some Go.Proofs.Try.f237
  | 238 => some Go.Proofs.Try.f238
  | 239 => some Go.Proofs.Try.f239
  | 240 => some Go.Proofs.Try.f240
  | 241 => some Go.Proofs.Try.f241
  | 242 => some Go.Proofs.Try.f242
  | 243 => some Go.Proofs.Try.f243
  | 244 => some Go.Proofs.Try.f244
  | 245 => some Go.Proofs.Try.f245
  | 266 => some Go.Proofs.Try.f266
  | _ => none
def cids : List (FuncId × Nat × Nat) := [(235, 3, 24)]
noncomputable def C : Ctx := ⟨E, pol, code, cloneExt cids⟩
theorem gC : Good C := clone_good (ids := cids) rfl
theorem cE : C.E = E := rfl
theorem E3 : E 3 = some { sz := 1, agg := false, zero := [AV.int IntKind.i64 0], bytes := 8, und := UD.it IntKind.i64, eqok := true } := rfl
theorem E4 : E 4 = some { sz := 1, agg := false, zero := [AV.bool false], bytes := 1, und := UD.bl, eqok := true } := rfl
theorem E5 : E 5 = some { sz := 1, agg := false, zero := [AV.int IntKind.u8 0], bytes := 1, und := UD.it IntKind.u8, eqok := true } := rfl
theorem E22 : E 22 = some { sz := 1, agg := false, zero := [AV.nil], bytes := 24, und := UD.sl 3, eqok := true } := rfl
theorem E41 : E 41 = some { sz := 1, agg := false, zero := [AV.nil], bytes := 24, und := UD.sl 5, eqok := true } := rfl
theorem E69 : E 69 = some { sz := 1, agg := false, zero := [AV.nil], bytes := 24, und := UD.sl 4, eqok := true } := rfl
theorem E81 : E 81 = some { sz := 1, agg := false, zero := [AV.nil], bytes := 24, und := UD.sl 168, eqok := true } := rfl
theorem E83 : E 83 = some { sz := 1, agg := false, zero := [AV.nil], bytes := 24, und := UD.sl 91, eqok := true } := rfl
theorem E85 : E 85 = some { sz := 11, agg := true, zero := [AV.int IntKind.i64 0, AV.int IntKind.i64 0, AV.int IntKind.i64 0, AV.int IntKind.i64 0, AV.int IntKind.i64 0, AV.int IntKind.i64 0, AV.int IntKind.i64 0, AV.int IntKind.i64 0, AV.nil, AV.nil, AV.nil], bytes := 136, und := UD.st [(0, 3), (1, 3), (2, 3), (3, 3), (4, 3), (5, 3), (6, 3), (7, 3), (8, 83), (9, 83), (10, 83)], eqok := true } := rfl
theorem E91 : E 91 = some { sz := 3, agg := true, zero := [AV.int IntKind.i64 0, AV.int IntKind.i64 0, AV.int IntKind.i64 0], bytes := 24, und := UD.st [(0, 3), (1, 3), (2, 3)], eqok := true } := rfl
theorem E147 : E 147 = some { sz := 1, agg := false, zero := [AV.nilp], bytes := 8, und := UD.pt, eqok := true } := rfl
theorem E148 : E 148 = some { sz := 1, agg := false, zero := [AV.int IntKind.u64 0], bytes := 8, und := UD.it IntKind.u64, eqok := true } := rfl
theorem E150 : E 150 = some { sz := 3, agg := true, zero := [AV.nil, AV.int IntKind.i64 0, AV.int IntKind.u64 0], bytes := 40, und := UD.st [(0, 41), (1, 3), (2, 148)], eqok := true } := rfl
theorem E168 : E 168 = some { sz := 2, agg := true, zero := [AV.int IntKind.i64 0, AV.int IntKind.i64 0], bytes := 16, und := UD.st [(0, 3), (1, 3)], eqok := true } := rfl
theorem E176 : E 176 = some { sz := 1, agg := false, zero := [AV.undef], bytes := 8, und := UD.ot, eqok := true } := rfl
theorem E225 : E 225 = some { sz := 1, agg := false, zero := [AV.nilp], bytes := 8, und := UD.pt, eqok := true } := rfl
theorem E229 : E 229 = some { sz := 1, agg := false, zero := [AV.nil], bytes := 24, und := UD.sl 83, eqok := true } := rfl
theorem EE : type_of% (And.intro @cE <| And.intro @E3 <| And.intro @E4 <| And.intro @E5 <| And.intro @E22 <| And.intro @E41 <| And.intro @E69 <| And.intro @E81 <| And.intro @E83 <| And.intro @E85 <| And.intro @E91 <| And.intro @E147 <| And.intro @E148 <| And.intro @E150 <| And.intro @E168 <| And.intro @E176 <| And.intro @E225 @E229) := And.intro @cE <| And.intro @E3 <| And.intro @E4 <| And.intro @E5 <| And.intro @E22 <| And.intro @E41 <| And.intro @E69 <| And.intro @E81 <| And.intro @E83 <| And.intro @E85 <| And.intro @E91 <| And.intro @E147 <| And.intro @E148 <| And.intro @E150 <| And.intro @E168 <| And.intro @E176 <| And.intro @E225 @E229
theorem e_Greet_d (x : Greet) : e_Greet x = .agg [.int .i64 x.StateA, .int .i64 x.StateB, .int .i64 x.X, .int .i64 x.Y, .int .i64 x.OfX, .int .i64 x.OfY, .int .i64 x.LastX, .int .i64 x.LastY, .fz (x.Line.map e_Hello), .fz (x.OpenedA.map e_Hello), .fz (x.OpenedB.map e_Hello)] := rfl
theorem e_GreetStep_d (x : GreetStep) : e_GreetStep x = .agg [.int .i64 x.Kind, .int .i64 x.K] := rfl
theorem e_Hello_d (x : Hello) : e_Hello x = .agg [.int .i64 x.Kind, .int .i64 x.X, .int .i64 x.Y] := rfl
theorem e_L1Cur_d (x : L1Cur) : e_L1Cur x = .agg [.fz (x.Code.map (AV.int .u8)), .int .i64 x.At, .int .u64 x.Seed] := rfl
theorem EN : type_of% (And.intro @e_Greet_d <| And.intro @e_GreetStep_d <| And.intro @e_Hello_d <| And.intro @e_L1Cur_d <| And.intro @fzl_d @killB_n) := And.intro @e_Greet_d <| And.intro @e_GreetStep_d <| And.intro @e_Hello_d <| And.intro @e_L1Cur_d <| And.intro @fzl_d @killB_n
theorem spec_l1Cur_next_w {a0 : L1Cur} {i0 : Nat} {w0 : Nat} {r : (Int × L1Cur)} (h : spec_l1Cur_next a0 = some r) {F : List It} {H : Heap} (hS : Own H (⟨.ptr i0 w0 0 0, 3, [.agg [.fz (a0.Code.map (AV.int .u8)), .int .i64 a0.At, .int .u64 a0.Seed]]⟩::F)) {P : AV → Heap → Prop} (hP : ∀ H', Own H' (⟨.ptr i0 w0 0 0, 3, [.agg [.fz (r.2.Code.map (AV.int .u8)), .int .i64 r.2.At, .int .u64 r.2.Seed]]⟩::F) → P (.int .i64 r.1) H') : ACall C 245 [.ptr i0 w0 0 0] H P := by
  refine acall_of gC (res := [.tmp 2]) (n := 62) rfl rfl rfl rfl fun K0 hK0 => ?_
  simp only [W, Nat.reduceSub, Nat.reduceAdd, List.replicate]
  unfold spec_l1Cur_next at h
  refine w_seq fun K1 hK1 => ?_
  refine w_reg gC ?_
  try simp only [W, Nat.reduceAdd]
  refine seq_n hK1 ?_
  refine w_seq fun K2 hK2 => ?_
  refine w_reg gC ?_
  try simp only [W, Nat.reduceAdd]
  refine seq_n hK2 ?_
  refine w_seq fun K3 hK3 => ?_
  refine w_seq fun K4 hK4 => ?_
  refine w_draw0 gC (by kernel_rfl) ?_
  try simp only [W, EE, Nat.reduceAdd, Nat.reduceBEq, hS.var 0 rfl]
  refine seq_n hK4 ?_
  obtain ⟨y6, h, g7⟩ := Option.bind_eq_some_iff.1 h
  refine w_join gC (fun s H => ∃ x5 : Int, y6 = (x5) ∧ s = (.ptr i0 w0 0 0::u::u::.int .i64 x5::u::u::u::u::u::u::u::u::u::u::u::u::u::u::u::u::u::u::u::u::u::u::u::u::u::u::u::u::u::u::u::u::u::u::u::u::u::u::u::u::u::u::u::u::u::u::u::u::u::u::u::u::u::u::u::u::u::u::[]) ∧ Own H (⟨.ptr i0 w0 0 0, 3, [.agg [.fz (a0.Code.map (AV.int .u8)), .int .i64 a0.At, .int .u64 a0.Seed]]⟩::F)) (fun K8 hK8 => ?_) (fun s H hq => ?_)
  · refine w_seq fun K9 hK9 => ?_
    refine w_if ?_
    simp only [W]
    refine w_cnd h (fun hc h => ?_) (fun hc h => ?_)
    · refine w_draw0 gC (by kernel_rfl) ?_
      try simp only [W, EE, Nat.reduceAdd, Nat.reduceBEq, hS.var 0 rfl]
      refine w_fz rfl rfl rfl (fun _ => rfl) h fun b10 hb10 h => ?_
      try simp only [W, EE]
      refine seq_n hK9 ?_
      refine w_killE (s' := (.ptr i0 w0 0 0::u::u::.int .i64 (IntKind.i64.wrap b10)::u::u::u::u::u::u::u::u::u::u::u::u::u::u::u::u::u::u::u::u::u::u::u::u::u::u::u::u::u::u::u::u::u::u::u::u::u::u::u::u::u::u::u::u::u::u::u::u::u::u::u::u::u::u::u::u::u::u::[])) rfl ?_
      exact cut_n hK8 ⟨_, (Option.some.inj h).symm, rfl, hS⟩
    · refine w_skip ?_
      refine seq_n hK9 ?_
      refine w_killE (s' := (.ptr i0 w0 0 0::u::u::.int .i64 0::u::u::u::u::u::u::u::u::u::u::u::u::u::u::u::u::u::u::u::u::u::u::u::u::u::u::u::u::u::u::u::u::u::u::u::u::u::u::u::u::u::u::u::u::u::u::u::u::u::u::u::u::u::u::u::u::u::u::[])) rfl ?_
      exact cut_n hK8 ⟨_, (Option.some.inj h).symm, rfl, hS⟩
  · obtain ⟨x5, ey, rfl, hS⟩ := hq; obtain rfl := ey.symm
    replace h := g7
    try dsimp only at h
    refine seq_n hK3 ?_
    refine w_seq fun K11 hK11 => ?_
    refine w_reg gC ?_
    try simp only [W, EE, Nat.reduceAdd, Nat.reduceBEq, hS.var 0 rfl]
    refine w_stv (a := .int .i64 (IntKind.i64.wrap (a0.At + 1))) (y' := .agg [.fz (a0.Code.map (AV.int .u8)), .int .i64 (IntKind.i64.wrap (a0.At + 1)), .int .u64 a0.Seed]) 0 hS rfl rfl rfl rfl rfl rfl rfl rfl fun H hS => ?_
    try simp only [W]
    refine seq_n hK11 ?_
    refine w_seq fun K12 hK12 => ?_
    refine w_reg gC ?_
    try simp only [W, EE, Nat.reduceAdd, Nat.reduceBEq, hS.var 0 rfl]
    refine w_stv (a := .int .u64 (IntKind.u64.wrap ((IntKind.u64.wrap ((IntKind.u64.wrap (a0.Seed * 6364136223846793005)) + (IntKind.u64.wrap x5))) + 1442695040888963407))) (y' := .agg [.fz (a0.Code.map (AV.int .u8)), .int .i64 (IntKind.i64.wrap (a0.At + 1)), .int .u64 (IntKind.u64.wrap ((IntKind.u64.wrap ((IntKind.u64.wrap (a0.Seed * 6364136223846793005)) + (IntKind.u64.wrap x5))) + 1442695040888963407))]) 0 hS rfl rfl rfl rfl rfl rfl rfl rfl fun H hS => ?_
    try simp only [W]
    refine seq_n hK12 ?_
    refine w_seq fun K13 hK13 => ?_
    refine w_seq fun K14 hK14 => ?_
    refine w_draw0 gC (by kernel_rfl) ?_
    try simp only [W, EE, Nat.reduceAdd, Nat.reduceBEq, hS.var 0 rfl]
    refine seq_n hK14 ?_
    refine w_if ?_
    simp only [W]
    refine w_cnd h (fun hc h => ?_) (fun hc h => ?_)
    · refine w_seq fun K15 hK15 => ?_
      refine w_reg gC ?_
      try simp only [W, Nat.reduceAdd]
      refine seq_n hK15 ?_
      refine w_ret ?_
      refine seq_r hK13 ?_
      refine fin_r1 hK0 rfl ?_
      try obtain rfl := Option.some.inj h
      exact hP _ hS
    · refine w_skip ?_
      refine seq_n hK13 ?_
      refine w_seq fun K16 hK16 => ?_
      refine w_reg gC ?_
      try simp only [W, EE, Nat.reduceAdd, Nat.reduceBEq, hS.var 0 rfl]
      rw [sr_lit _ _ _ rfl, Option.map_some, resV_s]
      try simp only [W, EE]
      refine seq_n hK16 ?_
      refine w_ret ?_
      refine fin_r1 hK0 rfl ?_
      try obtain rfl := Option.some.inj h
      exact hP _ hS
theorem spec_l1Cur_pick_w {a0 : L1Cur} {a1 : Int} {i0 : Nat} {w0 : Nat} {r : (Int × L1Cur)} (h : spec_l1Cur_pick a0 a1 = some r) {F : List It} {H : Heap} (hS : Own H (⟨.ptr i0 w0 0 0, 3, [.agg [.fz (a0.Code.map (AV.int .u8)), .int .i64 a0.At, .int .u64 a0.Seed]]⟩::F)) {P : AV → Heap → Prop} (hP : ∀ H', Own H' (⟨.ptr i0 w0 0 0, 3, [.agg [.fz (r.2.Code.map (AV.int .u8)), .int .i64 r.2.At, .int .u64 r.2.Seed]]⟩::F) → P (.int .i64 r.1) H') : ACall C 167 [.ptr i0 w0 0 0, .int .i64 a1] H P := by
  refine acall_of gC (res := [.tmp 4]) (n := 20) rfl rfl rfl rfl fun K0 hK0 => ?_
  simp only [W, Nat.reduceSub, Nat.reduceAdd, List.replicate]
  unfold spec_l1Cur_pick at h
  refine w_seq fun K1 hK1 => ?_
  refine w_reg gC ?_
  try simp only [W, Nat.reduceAdd]
  refine seq_n hK1 ?_
  refine w_seq fun K2 hK2 => ?_
  refine w_seq fun K3 hK3 => ?_
  refine w_reg gC ?_
  try simp only [W, EE, Nat.reduceAdd]
  refine seq_n hK3 ?_
  refine w_if ?_
  simp only [W]
  refine w_cnd h (fun hc h => ?_) (fun hc h => ?_)
  · refine w_seq fun K4 hK4 => ?_
    refine w_reg gC ?_
    try simp only [W, Nat.reduceAdd]
    refine seq_n hK4 ?_
    refine w_ret ?_
    refine seq_r hK2 ?_
    refine fin_r1 hK0 rfl ?_
    try obtain rfl := Option.some.inj h
    exact hP _ hS
  · refine w_skip ?_
    refine seq_n hK2 ?_
    refine w_seq fun K5 hK5 => ?_
    refine w_reg gC ?_
    try simp only [W, Nat.reduceAdd]
    refine w_call h fun b6 hb6 h => ?_
    obtain ⟨b7, b8⟩ := b6
    try dsimp only at h
    refine spec_l1Cur_next_w hb6 hS fun H hS => ?_
    try simp only [W]
    refine seq_n hK5 ?_
    refine w_seq fun K9 hK9 => ?_
    refine w_seq fun K10 hK10 => ?_
    refine w_reg gC ?_
    try simp only [W, EE, Nat.reduceAdd]
    refine seq_n hK10 ?_
    obtain ⟨y15, h, g16⟩ := Option.bind_eq_some_iff.1 h
    refine w_join gC (fun s H => ∃ x11 : Int, ∃ x12 : List Int, ∃ x13 : Int, ∃ x14 : Int, y15 = (x11, x12, x13, x14) ∧ s = [u, .int .i64 a1, u, u, u, .int .i64 x11, u, u, u, u, u, u, u, u, u, u, u, u, u, u] ∧ Own H (⟨.ptr i0 w0 0 0, 3, [.agg [.fz (x12.map (AV.int .u8)), .int .i64 x13, .int .u64 x14]]⟩::F)) (fun K17 hK17 => ?_) (fun s H hq => ?_)
    · refine w_seq fun K18 hK18 => ?_
      refine w_if ?_
      simp only [W]
      refine w_cnd h (fun hc h => ?_) (fun hc h => ?_)
      · refine w_reg gC ?_
        try simp only [W, EE, Nat.reduceAdd]
        refine w_call h fun b19 hb19 h => ?_
        obtain ⟨b20, b21⟩ := b19
        try dsimp only at h
        refine spec_l1Cur_next_w hb19 hS fun H hS => ?_
        try simp only [W, EE]
        refine seq_n hK18 ?_
        refine w_kill ?_
        exact cut_n hK17 ⟨_, _, _, _, (Option.some.inj h).symm, rfl, hS⟩
      · refine w_skip ?_
        refine seq_n hK18 ?_
        refine w_kill ?_
        exact cut_n hK17 ⟨_, _, _, _, (Option.some.inj h).symm, rfl, hS⟩
    · obtain ⟨x11, x12, x13, x14, rfl, rfl, hS⟩ := hq
      replace h := g16
      try dsimp only at h
      refine seq_n hK9 ?_
      refine w_seq fun K22 hK22 => ?_
      refine w_reg gC ?_
      try simp only [W, EE, Nat.reduceAdd]
      refine w_num _ h fun x23 hx23 h => ?_
      try simp only [W]
      refine seq_n hK22 ?_
      refine w_ret ?_
      refine fin_r1 hK0 rfl ?_
      try obtain rfl := Option.some.inj h
      exact hP _ hS
theorem spec_l1Cur_one_w {a0 : L1Cur} {a1 : Int} {i0 : Nat} {w0 : Nat} {r : (Bool × L1Cur)} (h : spec_l1Cur_one a0 a1 = some r) {F : List It} {H : Heap} (hS : Own H (⟨.ptr i0 w0 0 0, 3, [.agg [.fz (a0.Code.map (AV.int .u8)), .int .i64 a0.At, .int .u64 a0.Seed]]⟩::F)) {P : AV → Heap → Prop} (hP : ∀ H', Own H' (⟨.ptr i0 w0 0 0, 3, [.agg [.fz (r.2.Code.map (AV.int .u8)), .int .i64 r.2.At, .int .u64 r.2.Seed]]⟩::F) → P (.bool r.1) H') : ACall C 168 [.ptr i0 w0 0 0, .int .i64 a1] H P := by
  refine acall_of gC (res := [.tmp 4]) (n := 9) rfl rfl rfl rfl fun K0 hK0 => ?_
  simp only [W, Nat.reduceSub, Nat.reduceAdd, List.replicate]
  unfold spec_l1Cur_one at h
  refine w_seq fun K1 hK1 => ?_
  refine w_reg gC ?_
  try simp only [W, Nat.reduceAdd]
  refine seq_n hK1 ?_
  refine w_seq fun K2 hK2 => ?_
  refine w_reg gC ?_
  try simp only [W, Nat.reduceAdd]
  refine w_call h fun b3 hb3 h => ?_
  obtain ⟨b4, b5⟩ := b3
  try dsimp only at h
  refine spec_l1Cur_pick_w hb3 hS fun H hS => ?_
  try simp only [W, EE]
  refine seq_n hK2 ?_
  refine w_ret ?_
  refine fin_r1 hK0 rfl ?_
  try obtain rfl := Option.some.inj h
  exact hP _ hS
theorem spec_l1Cur_among_w {a0 : L1Cur} {a1 : List Int} {i0 : Nat} {w0 : Nat} {r : (Int × L1Cur)} (h : spec_l1Cur_among a0 a1 = some r) {F : List It} {H : Heap} (hS : Own H (⟨.ptr i0 w0 0 0, 3, [.agg [.fz (a0.Code.map (AV.int .u8)), .int .i64 a0.At, .int .u64 a0.Seed]]⟩::F)) {P : AV → Heap → Prop} (hP : ∀ H', Own H' (⟨.ptr i0 w0 0 0, 3, [.agg [.fz (r.2.Code.map (AV.int .u8)), .int .i64 r.2.At, .int .u64 r.2.Seed]]⟩::F) → P (.int .i64 r.1) H') : ACall C 219 [.ptr i0 w0 0 0, .fz (a1.map (AV.int .i64))] H P := by
  refine acall_of gC (res := [.tmp 4]) (n := 12) rfl rfl rfl rfl fun K0 hK0 => ?_
  simp only [W, Nat.reduceSub, Nat.reduceAdd, List.replicate]
  unfold spec_l1Cur_among at h
  refine w_seq fun K1 hK1 => ?_
  refine w_reg gC ?_
  try simp only [W, Nat.reduceAdd]
  refine seq_n hK1 ?_
  refine w_seq fun K2 hK2 => ?_
  refine w_reg gC ?_
  try simp only [W, EE, Nat.reduceAdd]
  refine w_call h fun b3 hb3 h => ?_
  obtain ⟨b4, b5⟩ := b3
  try dsimp only at h
  refine spec_l1Cur_pick_w hb3 hS fun H hS => ?_
  try simp only [W, EE]
  refine w_fz rfl rfl rfl (fun _ => rfl) h fun b6 hb6 h => ?_
  try simp only [W, EE]
  refine seq_n hK2 ?_
  refine w_ret ?_
  refine fin_r1 hK0 rfl ?_
  try obtain rfl := Option.some.inj h
  exact hP _ hS
theorem spec_l1In_w {a0 : Int} {a1 : Int} {a2 : Int} {r : (Bool)} (h : spec_l1In a0 a1 a2 = some r) {F : List It} {H : Heap} (hS : Own H (F)) {P : AV → Heap → Prop} (hP : ∀ H', Own H' (F) → P (.bool r) H') : ACall C 109 [.int .i64 a0, .int .i64 a1, .int .i64 a2] H P := by
  refine acall_of gC (res := [.tmp 6]) (n := 15) rfl rfl rfl rfl fun K0 hK0 => ?_
  simp only [W, Nat.reduceSub, Nat.reduceAdd, List.replicate]
  unfold spec_l1In at h
  refine w_seq fun K1 hK1 => ?_
  refine w_reg gC ?_
  try simp only [W, Nat.reduceAdd]
  refine seq_n hK1 ?_
  refine w_seq fun K2 hK2 => ?_
  refine w_reg gC ?_
  try simp only [W, EE, Nat.reduceAdd]
  refine w_grdT h (fun hc h => ?_) (fun hc h => ?_)
  · try simp only [W, EE, reduceIte, hc]
    refine seq_n hK2 ?_
    refine w_ret ?_
    refine fin_r1 hK0 rfl ?_
    try obtain rfl := Option.some.inj h
    exact hP _ hS
  · try simp only [W, hc]
    refine seq_n hK2 ?_
    refine w_ret ?_
    refine fin_r1 hK0 rfl ?_
    try obtain rfl := Option.some.inj h
    exact hP _ hS
theorem spec_l1Cur_greetSteps_w {a0 : L1Cur} {i0 : Nat} {w0 : Nat} {r : (List GreetStep × L1Cur)} (h : spec_l1Cur_greetSteps a0 = some r) {F : List It} {H : Heap} (hS : Own H (⟨.ptr i0 w0 0 0, 3, [.agg [.fz (a0.Code.map (AV.int .u8)), .int .i64 a0.At, .int .u64 a0.Seed]]⟩::F)) {P : AV → Heap → Prop} (hP : ∀ v120 : AV, isSl v120 → ∀ H', Own H' (⟨v120, 2, r.1.map e_GreetStep⟩::⟨.ptr i0 w0 0 0, 3, [.agg [.fz (r.2.Code.map (AV.int .u8)), .int .i64 r.2.At, .int .u64 r.2.Seed]]⟩::F) → P (v120) H') : ACall C 151 [.ptr i0 w0 0 0] H P := by
  refine acall_of gC (res := [.tmp 2]) (n := 53) rfl rfl rfl rfl fun K0 hK0 => ?_
  simp only [W, Nat.reduceSub, Nat.reduceAdd, List.replicate]
  unfold spec_l1Cur_greetSteps at h
  refine w_seq fun K1 hK1 => ?_
  refine w_reg gC ?_
  try simp only [W, Nat.reduceAdd]
  refine seq_n hK1 ?_
  refine w_seq fun K2 hK2 => ?_
  refine w_reg gC ?_
  try simp only [W, Nat.reduceAdd]
  refine seq_n hK2 ?_
  refine w_seq fun K3 hK3 => ?_
  refine w_reg gC ?_
  try simp only [W, Nat.reduceAdd]
  refine w_call h fun b4 hb4 h => ?_
  obtain ⟨b5, b6⟩ := b4
  try dsimp only at h
  refine spec_l1Cur_pick_w hb4 hS fun H hS => ?_
  try simp only [W]
  refine seq_n hK3 ?_
  refine w_seq fun K7 hK7 => ?_
  refine w_seq fun K8 hK8 => ?_
  refine w_reg gC ?_
  try simp only [W, Nat.reduceAdd]
  refine w_call h fun b9 hb9 h => ?_
  obtain ⟨b10, b11⟩ := b9
  try dsimp only at h
  refine spec_l1Cur_one_w hb9 hS fun H hS => ?_
  try simp only [W]
  refine seq_n hK8 ?_
  obtain ⟨y16, h, g17⟩ := Option.bind_eq_some_iff.1 h
  refine w_join gC (fun s H => ∃ x12 : Int, ∃ x13 : List Int, ∃ x14 : Int, ∃ x15 : Int, y16 = (x12, x13, x14, x15) ∧ s = [.ptr i0 w0 0 0, u, u, .nil, .int .i64 x12, u, u, u, u, u, u, u, u, u, u, u, u, u, u, u, u, u, u, u, u, u, u, u, u, u, u, u, u, u, u, u, u, u, u, u, u, u, u, u, u, u, u, u, u, u, u, u, u] ∧ Own H (⟨.ptr i0 w0 0 0, 3, [.agg [.fz (x13.map (AV.int .u8)), .int .i64 x14, .int .u64 x15]]⟩::F)) (fun K18 hK18 => ?_) (fun s H hq => ?_)
  · refine w_seq fun K19 hK19 => ?_
    refine w_if ?_
    simp only [W]
    refine w_cnd h (fun hc h => ?_) (fun hc h => ?_)
    · refine w_reg gC ?_
      try simp only [W, Nat.reduceAdd]
      refine w_call h fun b20 hb20 h => ?_
      obtain ⟨b21, b22⟩ := b20
      try dsimp only at h
      refine spec_l1Cur_pick_w hb20 hS fun H hS => ?_
      try simp only [W, EE]
      refine seq_n hK19 ?_
      refine w_kill ?_
      exact cut_n hK18 ⟨_, _, _, _, (Option.some.inj h).symm, rfl, hS⟩
    · refine w_skip ?_
      refine seq_n hK19 ?_
      refine w_kill ?_
      exact cut_n hK18 ⟨_, _, _, _, (Option.some.inj h).symm, rfl, hS⟩
  · obtain ⟨x12, x13, x14, x15, rfl, rfl, hS⟩ := hq
    replace h := g17
    try dsimp only at h
    refine seq_n hK7 ?_
    refine w_seq fun K23 hK23 => ?_
    obtain ⟨y36, hw37, g43⟩ := Option.bind_eq_some_iff.1 h
    refine w_join gC (fun s H => ∃ x31 : List GreetStep, ∃ x33 : List Int, ∃ x34 : Int, ∃ x35 : Int, y36 = (x31, x33, x34, x35) ∧ ∃ v32 : AV, isSl v32 ∧ s = [.ptr i0 w0 0 0, u, u, v32, u, u, u, u, u, u, u, u, u, u, u, u, u, u, u, u, u, u, u, u, u, u, u, u, u, u, u, u, u, u, u, u, u, u, u, u, u, u, u, u, u, u, u, u, u, u, u, u, u] ∧ Own H (⟨v32, 2, x31.map e_GreetStep⟩::⟨.ptr i0 w0 0 0, 3, [.agg [.fz (x33.map (AV.int .u8)), .int .i64 x34, .int .u64 x35]]⟩::F)) (fun K38 hK38 => ?_) (fun s H hq => ?_)
    · refine w_blk fun K39 hK39 => ?_
      refine w_loop gC hw37 (fun x s H => match x with | (x24, x27, x28, x29, x30) => ∃ v25 : AV, isSl v25 ∧ s = [.ptr i0 w0 0 0, u, u, v25, .int .i64 x27, u, u, u, u, u, u, u, u, u, u, u, u, u, u, u, u, u, u, u, u, u, u, u, u, u, u, u, u, u, u, u, u, u, u, u, u, u, u, u, u, u, u, u, u, u, u, u, u] ∧ Own H (⟨v25, 2, x24.map e_GreetStep⟩::⟨.ptr i0 w0 0 0, 3, [.agg [.fz (x28.map (AV.int .u8)), .int .i64 x29, .int .u64 x30]]⟩::F)) ⟨_, isSl_nil, rfl, (hS.nil_ 2)⟩ (fun x y42 s H h hd41 hi K40 hK40 => ?_)
      obtain ⟨x24, x27, x28, x29, x30⟩ := x
      try dsimp only at hi
      obtain ⟨v25, qv25, rfl, hS⟩ := hi
      simp only [spec_l1Cur_greetSteps_l0] at h
      refine w_seq fun K44 hK44 => ?_
      refine w_seq fun K45 hK45 => ?_
      refine w_reg gC ?_
      try simp only [W, EE, Nat.reduceAdd]
      refine seq_n hK45 ?_
      refine w_if ?_
      simp only [W]
      refine w_cnd h (fun hc h => ?_) (fun hc h => ?_)
      · refine w_skip ?_
        refine seq_n hK44 ?_
        refine w_seq fun K46 hK46 => ?_
        refine w_blk fun K47 hK47 => ?_
        refine w_seq fun K48 hK48 => ?_
        refine w_regF (fz := [(2, [([18], [.sl [.sc]])])]) gC ?_
        try simp only [W, Nat.reduceAdd, Nat.reduceBEq]
        refine w_lit (el := ([1, 2, 2, 2, 2, 2, 2, 3, 4, 4, 5, 6] : List Int).map (AV.int .i64)) hS rfl rfl rfl rfl rfl rfl rfl fun v49 H qv49 hS => ?_
        try simp only [W, Nat.reduceAdd]
        refine FZ_own 0 hS rfl qv49 rfl (fun _ _ => by simp [takeE, takeT, plainA]) (fun _ => rfl) fun H hsame hS => ?_
        try simp only [W]
        refine w_call h fun b51 hb51 h => ?_
        obtain ⟨b52, b53⟩ := b51
        try dsimp only at h
        refine spec_l1Cur_among_w hb51 (hS.sel 2 [1, 0] (by decide)) fun H hS => ?_
        try simp only [W, EE, Nat.reduceAdd, Nat.reduceBEq]
        refine w_bld rfl rfl rfl rfl rfl ?_
        try simp only [W, Nat.reduceAdd, Nat.reduceBEq]
        refine w_alloc hS rfl rfl fun ip54 wp54 H hS => ?_
        try simp only [W, Nat.reduceAdd, Nat.reduceBEq]
        refine w_stv (a := .agg [.int .i64 b52, .int .i64 0]) (y' := .agg [.int .i64 b52, .int .i64 0]) 0 hS rfl rfl rfl rfl rfl rfl rfl rfl fun H hS => ?_
        try simp only [W, Nat.reduceAdd]
        refine seq_n hK48 ?_
        refine w_seq fun K56 hK56 => ?_
        refine w_seq fun K57 hK57 => ?_
        refine w_reg gC ?_
        try simp only [W, EE, Nat.reduceAdd, Nat.reduceBEq, hS.var 0 rfl]
        refine w_call h fun b58 hb58 h => ?_
        refine spec_l1In_w hb58 hS fun H hS => ?_
        try simp only [W]
        refine seq_n hK57 ?_
        obtain ⟨y63, h, g64⟩ := Option.bind_eq_some_iff.1 h
        refine w_join gC (fun s H => ∃ x59 : List Int, ∃ x60 : Int, ∃ x61 : Int, ∃ x62 : Int, y63 = (x59, x60, x61, x62) ∧ s = [.ptr i0 w0 0 0, u, u, v25, .int .i64 x27, .ptr ip54 wp54 0 0, u, u, u, u, u, u, u, u, u, u, u, u, u, u, u, u, u, u, u, u, u, u, u, u, u, u, u, u, u, u, u, u, u, u, u, u, u, u, u, u, u, u, u, u, u, u, u] ∧ Own H (⟨v25, 2, x24.map e_GreetStep⟩::⟨.ptr i0 w0 0 0, 3, [.agg [.fz (x59.map (AV.int .u8)), .int .i64 x60, .int .u64 x61]]⟩::⟨.ptr ip54 wp54 0 0, 2, [.agg [.int .i64 b52, .int .i64 x62]]⟩::F)) (fun K65 hK65 => ?_) (fun s H hq => ?_)
        · refine w_seq fun K66 hK66 => ?_
          refine w_if ?_
          simp only [W]
          refine w_cnd h (fun hc h => ?_) (fun hc h => ?_)
          · refine w_reg gC ?_
            try simp only [W, Nat.reduceAdd]
            refine w_call h fun b67 hb67 h => ?_
            obtain ⟨b68, b69⟩ := b67
            try dsimp only at h
            refine spec_l1Cur_pick_w hb67 (hS.sel 3 [1, 0, 2] (by decide)) fun H hS => ?_
            try simp only [W, EE, Nat.reduceAdd, Nat.reduceBEq, hS.var 1 rfl]
            refine w_stv (a := .int .i64 b68) (y' := .agg [.int .i64 b52, .int .i64 b68]) 1 hS rfl rfl rfl rfl rfl rfl rfl rfl fun H hS => ?_
            try simp only [W]
            refine seq_n hK66 ?_
            refine w_kill ?_
            exact cut_n hK65 ⟨_, _, _, _, (Option.some.inj h).symm, rfl, (hS.sel 3 [2, 0, 1] (by decide))⟩
          · refine w_skip ?_
            refine seq_n hK66 ?_
            refine w_kill ?_
            exact cut_n hK65 ⟨_, _, _, _, (Option.some.inj h).symm, rfl, (hS.sel 3 [2, 1, 0] (by decide))⟩
        · obtain ⟨x59, x60, x61, x62, rfl, rfl, hS⟩ := hq
          replace h := g64
          try dsimp only at h
          refine seq_n hK56 ?_
          refine w_seq fun K70 hK70 => ?_
          refine w_seq fun K71 hK71 => ?_
          refine w_reg gC ?_
          try simp only [W, EE, Nat.reduceAdd, Nat.reduceBEq, hS.var 2 rfl]
          refine seq_n hK71 ?_
          obtain ⟨y76, h, g77⟩ := Option.bind_eq_some_iff.1 h
          refine w_join gC (fun s H => ∃ x72 : List Int, ∃ x73 : Int, ∃ x74 : Int, ∃ x75 : Int, y76 = (x72, x73, x74, x75) ∧ s = [.ptr i0 w0 0 0, u, u, v25, .int .i64 x27, .ptr ip54 wp54 0 0, u, u, u, u, u, u, u, u, u, u, u, u, u, u, u, u, u, u, u, u, u, u, u, u, u, u, u, u, u, u, u, u, u, u, u, u, u, u, u, u, u, u, u, u, u, u, u] ∧ Own H (⟨v25, 2, x24.map e_GreetStep⟩::⟨.ptr i0 w0 0 0, 3, [.agg [.fz (x72.map (AV.int .u8)), .int .i64 x73, .int .u64 x74]]⟩::⟨.ptr ip54 wp54 0 0, 2, [.agg [.int .i64 b52, .int .i64 x75]]⟩::F)) (fun K78 hK78 => ?_) (fun s H hq => ?_)
          · refine w_seq fun K79 hK79 => ?_
            refine w_if ?_
            simp only [W]
            refine w_cnd h (fun hc h => ?_) (fun hc h => ?_)
            · refine w_reg gC ?_
              try simp only [W, Nat.reduceAdd]
              refine w_call h fun b80 hb80 h => ?_
              obtain ⟨b81, b82⟩ := b80
              try dsimp only at h
              refine spec_l1Cur_pick_w hb80 (hS.sel 3 [1, 0, 2] (by decide)) fun H hS => ?_
              try simp only [W, EE, Nat.reduceAdd, Nat.reduceBEq, hS.var 2 rfl]
              refine w_stv (a := .int .i64 b81) (y' := .agg [.int .i64 b52, .int .i64 b81]) 2 hS rfl rfl rfl rfl rfl rfl rfl rfl fun H hS => ?_
              try simp only [W]
              refine seq_n hK79 ?_
              refine w_kill ?_
              exact cut_n hK78 ⟨_, _, _, _, (Option.some.inj h).symm, rfl, (hS.sel 3 [1, 0, 2] (by decide))⟩
            · refine w_skip ?_
              refine seq_n hK79 ?_
              refine w_kill ?_
              exact cut_n hK78 ⟨_, _, _, _, (Option.some.inj h).symm, rfl, hS⟩
          · obtain ⟨x72, x73, x74, x75, rfl, rfl, hS⟩ := hq
            replace h := g77
            try dsimp only at h
            refine seq_n hK70 ?_
            refine w_reg gC ?_
            try simp only [W, EE, reduceIte, Nat.reduceAdd, Nat.reduceLeDiff, hS.var 2 rfl]
            refine w_lit (el := ([(⟨b52, x75⟩ : GreetStep)] : List GreetStep).map e_GreetStep) hS rfl rfl rfl rfl rfl rfl rfl fun v83 H qv83 hS => ?_
            try simp only [W, EE]
            refine w_appV (l := x24) (c := e_GreetStep) 1 hS rfl qv25 rfl rfl rfl (hS.elems 0 rfl qv83) (fun _ => rfl) rfl h fun v86 H x85 qv86 hm h hS => ?_
            try simp only [W]
            refine blk_n0 hK47 ?_
            refine seq_n hK46 ?_
            refine w_reg gC ?_
            try simp only [W, EE, Nat.reduceAdd]
            exact lp_n hK40 h ⟨_, qv86, rfl, (hS.sel 4 [1, 2] (by decide))⟩
      · refine w_exit ?_
        refine seq_x hK44 ?_
        try obtain rfl := Option.some.inj h
        obtain rfl := hd41 _ rfl
        have h : (some (x24, x28, x29, x30) : Option ((List GreetStep) × (List Int) × Int × Int)) = some (x24, x28, x29, x30) := rfl
        refine lp_x hK40 ?_
        refine blk_e hK39 ?_
        exact cut_n hK38 ⟨_, _, _, _, (Option.some.inj h).symm, _, qv25, rfl, hS⟩
    · obtain ⟨x31, x33, x34, x35, rfl, v32, qv32, rfl, hS⟩ := hq
      replace h := g43
      try dsimp only at h
      refine seq_n hK23 ?_
      refine w_seq fun K90 hK90 => ?_
      refine w_seq fun K91 hK91 => ?_
      obtain ⟨y96, h, g97⟩ := Option.bind_eq_some_iff.1 h
      refine w_join gC (fun s H => ∃ x92 : Bool, ∃ x93 : List Int, ∃ x94 : Int, ∃ x95 : Int, y96 = (x92, x93, x94, x95) ∧ s = [.ptr i0 w0 0 0, u, u, v32, u, u, u, u, u, u, u, u, u, u, u, u, u, u, u, u, u, u, u, u, u, u, u, u, u, u, u, u, u, u, u, u, u, u, u, u, u, u, u, .bool x92, u, u, u, u, u, u, u, u, u] ∧ Own H (⟨v32, 2, x31.map e_GreetStep⟩::⟨.ptr i0 w0 0 0, 3, [.agg [.fz (x93.map (AV.int .u8)), .int .i64 x94, .int .u64 x95]]⟩::F)) (fun K98 hK98 => ?_) (fun s H hq => ?_)
      · refine w_seq fun K99 hK99 => ?_
        refine w_reg gC ?_
        try simp only [W, EE, Nat.reduceAdd]
        refine w_len 0 hS rfl qv32 rfl ?_
        try simp only [W, EE]
        refine w_grdT h (fun hc h => ?_) (fun hc h => ?_)
        · try simp only [W, hc]
          refine w_call h fun b100 hb100 h => ?_
          obtain ⟨b101, b102⟩ := b100
          try dsimp only at h
          refine spec_l1Cur_one_w hb100 (hS.sel 2 [1, 0] (by decide)) fun H hS => ?_
          try simp only [W, reduceIte]
          refine seq_n hK99 ?_
          refine w_kill ?_
          exact cut_n hK98 ⟨_, _, _, _, (Option.some.inj h).symm, rfl, (hS.sel 2 [1, 0] (by decide))⟩
        · try simp only [W, hc]
          refine seq_n hK99 ?_
          refine w_kill ?_
          exact cut_n hK98 ⟨_, _, _, _, (Option.some.inj h).symm, rfl, hS⟩
      · obtain ⟨x92, x93, x94, x95, rfl, rfl, hS⟩ := hq
        replace h := g97
        try dsimp only at h
        refine seq_n hK91 ?_
        obtain ⟨y107, h, g108⟩ := Option.bind_eq_some_iff.1 h
        refine w_join gC (fun s H => ∃ x103 : List GreetStep, ∃ x104 : List Int, ∃ x105 : Int, ∃ x106 : Int, y107 = (x103, x104, x105, x106) ∧ s = [u, u, u, v32, u, u, u, u, u, u, u, u, u, u, u, u, u, u, u, u, u, u, u, u, u, u, u, u, u, u, u, u, u, u, u, u, u, u, u, u, u, u, u, u, u, u, u, u, u, u, u, u, u] ∧ Own H (⟨v32, 2, x103.map e_GreetStep⟩::⟨.ptr i0 w0 0 0, 3, [.agg [.fz (x104.map (AV.int .u8)), .int .i64 x105, .int .u64 x106]]⟩::F)) (fun K109 hK109 => ?_) (fun s H hq => ?_)
        · refine w_seq fun K110 hK110 => ?_
          refine w_if ?_
          simp only [W]
          refine w_cnd h (fun hc h => ?_) (fun hc h => ?_)
          · refine w_reg gC ?_
            try simp only [W, Nat.reduceAdd]
            refine w_call h fun b111 hb111 h => ?_
            obtain ⟨b112, b113⟩ := b111
            try dsimp only at h
            refine spec_l1Cur_pick_w hb111 (hS.sel 2 [1, 0] (by decide)) fun H hS => ?_
            try simp only [W]
            refine w_call h fun b114 hb114 h => ?_
            obtain ⟨b115, b116⟩ := b114
            try dsimp only at h
            refine spec_l1Cur_pick_w hb114 hS fun H hS => ?_
            try simp only [W, EE]
            refine w_bld rfl rfl rfl rfl rfl ?_
            try simp only [W, EE]
            refine w_ow 1 hS rfl rfl rfl rfl rfl h (fun b117 in118 wn118 on118 hb117 h en118 => ?_) qv32.ne
            obtain ⟨kn118, hbn118, hen118⟩ := hS.elem 1 rfl en118 hb117
            try simp only [W]
            refine w_ste (a := .agg [.int .i64 b112, .int .i64 (IntKind.i64.wrap (b115 - 1))]) (y' := (⟨b112, (IntKind.i64.wrap (b115 - 1))⟩ : GreetStep)) 1 hS rfl en118 hb117 rfl rfl rfl rfl rfl rfl rfl fun H hS => ?_
            try simp only [W]
            refine seq_n hK110 ?_
            refine w_kill ?_
            exact cut_n hK109 ⟨_, _, _, _, (Option.some.inj h).symm, rfl, (hS.sel 2 [1, 0] (by decide))⟩
          · refine w_skip ?_
            refine seq_n hK110 ?_
            refine w_kill ?_
            exact cut_n hK109 ⟨_, _, _, _, (Option.some.inj h).symm, rfl, hS⟩
        · obtain ⟨x103, x104, x105, x106, rfl, rfl, hS⟩ := hq
          replace h := g108
          try dsimp only at h
          refine seq_n hK90 ?_
          refine w_seq fun K119 hK119 => ?_
          refine w_reg gC ?_
          try simp only [W, Nat.reduceAdd]
          refine seq_n hK119 ?_
          refine w_ret ?_
          refine fin_r1 hK0 rfl ?_
          try obtain rfl := Option.some.inj h
          exact hP _ qv32 _ hS
theorem spec_DrawPlayGreet_w {a0 : List Int} {r : (List GreetStep)} (h : spec_DrawPlayGreet a0 = some r) {F : List It} {H : Heap} (hS : Own H (F)) {P : AV → Heap → Prop} (hP : ∀ v11 : AV, isSl v11 → ∀ H', Own H' (⟨v11, 2, r.map e_GreetStep⟩::F) → P (v11) H') : ACall C 56 [.fz (a0.map (AV.int .u8))] H P := by
  refine acall_of gC (res := [.tmp 2]) (n := 9) rfl rfl rfl rfl fun K0 hK0 => ?_
  simp only [W, Nat.reduceSub, Nat.reduceAdd, List.replicate]
  unfold spec_DrawPlayGreet at h
  refine w_seq fun K1 hK1 => ?_
  refine w_reg gC ?_
  try simp only [W, Nat.reduceAdd]
  refine seq_n hK1 ?_
  refine w_seq fun K2 hK2 => ?_
  refine w_reg gC ?_
  try simp only [W, EE, Nat.reduceAdd]
  refine w_bld rfl rfl rfl rfl rfl ?_
  try simp only [W]
  refine w_box hS rfl rfl rfl rfl fun ip3 wp3 H hS => ?_
  try simp only [W]
  refine seq_n hK2 ?_
  refine w_seq fun K5 hK5 => ?_
  refine w_reg gC ?_
  try simp only [W, Nat.reduceAdd]
  refine w_call h fun b6 hb6 h => ?_
  obtain ⟨b7, b8⟩ := b6
  try dsimp only at h
  refine spec_l1Cur_greetSteps_w hb6 hS fun v9 qv9 H hS => ?_
  try simp only [W]
  refine seq_n hK5 ?_
  refine w_ret ?_
  refine fin_r1 hK0 rfl ?_
  try obtain rfl := Option.some.inj h
  exact hP _ qv9 _ (hS.sel 2 [0] (by decide))
theorem impl_NewGreet_w {r : (Greet)} (h : impl_NewGreet = some r) {F : List It} {H : Heap} (hS : Own H (F)) {P : AV → Heap → Prop} (hP : ∀ v5 : AV, isSl v5 → ∀ v7 : AV, isSl v7 → ∀ v9 : AV, isSl v9 → ∀ H', Own H' (⟨v5, 3, r.Line.map e_Hello⟩::⟨v7, 3, r.OpenedA.map e_Hello⟩::⟨v9, 3, r.OpenedB.map e_Hello⟩::F) → P (.agg [.int .i64 r.StateA, .int .i64 r.StateB, .int .i64 r.X, .int .i64 r.Y, .int .i64 r.OfX, .int .i64 r.OfY, .int .i64 r.LastX, .int .i64 r.LastY, v5, v7, v9]) H') : ACall C 152 [] H P := by
  refine acall_of gC (res := [.cell 0 85]) (n := 2) rfl rfl rfl rfl fun K0 hK0 => ?_
  simp only [W, Nat.reduceSub, List.replicate]
  unfold impl_NewGreet at h
  refine w_seq fun K1 hK1 => ?_
  refine w_reg gC ?_
  try simp only [W, Nat.reduceAdd]
  refine w_alloc hS rfl rfl fun ip2 wp2 H hS => ?_
  try simp only [W]
  refine seq_n hK1 ?_
  refine w_seq fun K4 hK4 => ?_
  refine w_reg gC ?_
  try simp only [W, EE, Nat.reduceAdd]
  refine w_bld rfl rfl rfl rfl rfl ?_
  try simp only [W]
  refine w_stv (a := .agg [.int .i64 0, .int .i64 0, .int .i64 0, .int .i64 0, .int .i64 0, .int .i64 0, .int .i64 100, .int .i64 0, .nil, .nil, .nil]) (y' := .agg [.int .i64 0, .int .i64 0, .int .i64 0, .int .i64 0, .int .i64 0, .int .i64 0, .int .i64 100, .int .i64 0, .nil, .nil, .nil]) 0 hS rfl rfl rfl rfl rfl rfl rfl rfl fun H hS => ?_
  try simp only [W]
  refine seq_n hK4 ?_
  refine w_ret ?_
  refine fin_r hK0 (res_c rfl rfl (hS.var 0 rfl) rfl rfl) ?_
  try obtain rfl := Option.some.inj h
  exact hP _ isSl_nil _ isSl_nil _ isSl_nil _ ((((hS.nil_ 3).nil_ 3).nil_ 3).sel 4 [0, 1, 2] (by decide))
theorem slices_Clone_impl_Hello_w {a0 : List Hello} {r : List Hello} (h : slices_Clone_impl_Hello a0 = some r) {F : List It} {H : Heap} (hS : Own H F) {P : AV → Heap → Prop} (hP : ∀ v0 : AV, isSl v0 → ∀ H', Own H' (⟨v0, 3, r.map e_Hello⟩::F) → P v0 H') : ACall C 235 [.fz (a0.map e_Hello)] H P :=
  clone_w (ids := cids) rfl (sz := 3) (b := 24) (by simp [cids]) (fun _ => rfl) (by decide) h hS hP
theorem impl_Greet_copied_w {a0 : Greet} {r : (Greet)} (h : impl_Greet_copied a0 = some r) {F : List It} {H : Heap} (hS : Own H (F)) {P : AV → Heap → Prop} (hP : ∀ v20 : AV, isSl v20 → ∀ v22 : AV, isSl v22 → ∀ v24 : AV, isSl v24 → ∀ H', Own H' (⟨v20, 3, r.Line.map e_Hello⟩::⟨v22, 3, r.OpenedA.map e_Hello⟩::⟨v24, 3, r.OpenedB.map e_Hello⟩::F) → P (.agg [.int .i64 r.StateA, .int .i64 r.StateB, .int .i64 r.X, .int .i64 r.Y, .int .i64 r.OfX, .int .i64 r.OfY, .int .i64 r.LastX, .int .i64 r.LastY, v20, v22, v24]) H') : ACall C 153 [.agg [.int .i64 a0.StateA, .int .i64 a0.StateB, .int .i64 a0.X, .int .i64 a0.Y, .int .i64 a0.OfX, .int .i64 a0.OfY, .int .i64 a0.LastX, .int .i64 a0.LastY, .fz (a0.Line.map e_Hello), .fz (a0.OpenedA.map e_Hello), .fz (a0.OpenedB.map e_Hello)]] H P := by
  refine acall_of gC (res := [.cell 2 85]) (n := 16) rfl rfl rfl rfl fun K0 hK0 => ?_
  simp only [W, Nat.reduceSub, Nat.reduceAdd, List.replicate]
  unfold impl_Greet_copied at h
  refine w_seq fun K1 hK1 => ?_
  refine w_reg gC ?_
  try simp only [W, Nat.reduceAdd]
  refine w_box hS rfl rfl rfl rfl fun ip2 wp2 H hS => ?_
  try simp only [W]
  refine w_alloc hS rfl rfl fun ip4 wp4 H hS => ?_
  try simp only [W]
  refine seq_n hK1 ?_
  refine w_seq fun K6 hK6 => ?_
  refine w_drawL gC [(10, []), (12, []), (14, [])] (by kernel_rfl) rfl (by kernel_rfl) ?_
  try simp only [W, EE, reduceIte, Nat.reduceAdd, Nat.reduceBEq, hS.var 1 rfl, tabAt, qAt, Nat.reduceEqDiff, List.contains_cons, Nat.reduceBEq, Bool.or_true, Bool.or_self]
  refine w_callO (rsh := [[.sl [.sc, .sc, .sc]]]) (ys := [.fz (a0.Line.map e_Hello)]) h rfl (by rfl) fun b7 hb7 h => ⟨.own 3 (b7.map e_Hello), slices_Clone_impl_Hello_w hb7 (Own.nil _) fun v8 qv8 H hS => TV_ok rfl (TV_o 0 hS rfl qv8 (fun _ _ => by simp [takeE, takeT, takeC, plainA, e_Hello]) fun H hS => TV_n rfl), (noFz_o _ (fun _ => rfl) _), ?_⟩
  refine thaw_1 ?_
  refine TH_o hS (fun _ _ => rfl) (fun _ => rfl) fun v10 H qv10 hS => ?_
  refine TH_n ?_
  try simp only [List.headD_cons]
  try simp only [W, EE, Nat.reduceAdd, Nat.reduceBEq, hS.var 2 rfl, Nat.reduceBEq]
  refine w_callO (rsh := [[.sl [.sc, .sc, .sc]]]) (ys := [.fz (a0.OpenedA.map e_Hello)]) h rfl (by rfl) fun b11 hb11 h => ⟨.own 3 (b11.map e_Hello), slices_Clone_impl_Hello_w hb11 (Own.nil _) fun v12 qv12 H hS => TV_ok rfl (TV_o 0 hS rfl qv12 (fun _ _ => by simp [takeE, takeT, takeC, plainA, e_Hello]) fun H hS => TV_n rfl), (noFz_o _ (fun _ => rfl) _), ?_⟩
  refine thaw_1 ?_
  refine TH_o hS (fun _ _ => rfl) (fun _ => rfl) fun v14 H qv14 hS => ?_
  refine TH_n ?_
  try simp only [List.headD_cons]
  try simp only [W, EE, Nat.reduceAdd, Nat.reduceBEq, hS.var 3 rfl, Nat.reduceBEq]
  refine w_callO (rsh := [[.sl [.sc, .sc, .sc]]]) (ys := [.fz (a0.OpenedB.map e_Hello)]) h rfl (by rfl) fun b15 hb15 h => ⟨.own 3 (b15.map e_Hello), slices_Clone_impl_Hello_w hb15 (Own.nil _) fun v16 qv16 H hS => TV_ok rfl (TV_o 0 hS rfl qv16 (fun _ _ => by simp [takeE, takeT, takeC, plainA, e_Hello]) fun H hS => TV_n rfl), (noFz_o _ (fun _ => rfl) _), ?_⟩
  refine thaw_1 ?_
  refine TH_o hS (fun _ _ => rfl) (fun _ => rfl) fun v18 H qv18 hS => ?_
  refine TH_n ?_
  try simp only [List.headD_cons]
  try simp only [W, EE, Nat.reduceAdd, Nat.reduceBEq, hS.var 4 rfl, Nat.reduceBEq]
  refine w_stv (a := v10) (y' := .agg [.int .i64 a0.StateA, .int .i64 a0.StateB, .int .i64 a0.X, .int .i64 a0.Y, .int .i64 a0.OfX, .int .i64 a0.OfY, .int .i64 a0.LastX, .int .i64 a0.LastY, v10, .fz (a0.OpenedA.map e_Hello), .fz (a0.OpenedB.map e_Hello)]) 4 hS rfl rfl rfl rfl (by rw [qv10.cells]; rfl) qv10.stora (qv10.wr _ _ (by simp)) rfl fun H hS => ?_
  try simp only [W, EE, Nat.reduceAdd, Nat.reduceBEq, hS.var 4 rfl, Nat.reduceBEq]
  refine w_stv (a := v14) (y' := .agg [.int .i64 a0.StateA, .int .i64 a0.StateB, .int .i64 a0.X, .int .i64 a0.Y, .int .i64 a0.OfX, .int .i64 a0.OfY, .int .i64 a0.LastX, .int .i64 a0.LastY, v10, v14, .fz (a0.OpenedB.map e_Hello)]) 4 hS rfl rfl rfl rfl (by rw [qv14.cells]; rfl) qv14.stora (qv14.wr _ _ (by simp)) rfl fun H hS => ?_
  try simp only [W, EE, Nat.reduceAdd, Nat.reduceBEq, hS.var 4 rfl, Nat.reduceBEq]
  refine w_stv (a := v18) (y' := .agg [.int .i64 a0.StateA, .int .i64 a0.StateB, .int .i64 a0.X, .int .i64 a0.Y, .int .i64 a0.OfX, .int .i64 a0.OfY, .int .i64 a0.LastX, .int .i64 a0.LastY, v10, v14, v18]) 4 hS rfl rfl rfl rfl (by rw [qv18.cells]; rfl) qv18.stora (qv18.wr _ _ (by simp)) rfl fun H hS => ?_
  try simp only [W]
  refine seq_n hK6 ?_
  refine w_seq fun K19 hK19 => ?_
  refine w_reg gC ?_
  try simp only [W, EE, reduceIte, Nat.reduceAdd, Nat.reduceLeDiff, hS.var 4 rfl]
  refine w_stv (a := .agg [.int .i64 a0.StateA, .int .i64 a0.StateB, .int .i64 a0.X, .int .i64 a0.Y, .int .i64 a0.OfX, .int .i64 a0.OfY, .int .i64 a0.LastX, .int .i64 a0.LastY, v10, v14, v18]) (y' := .agg [.int .i64 a0.StateA, .int .i64 a0.StateB, .int .i64 a0.X, .int .i64 a0.Y, .int .i64 a0.OfX, .int .i64 a0.OfY, .int .i64 a0.LastX, .int .i64 a0.LastY, v10, v14, v18]) 3 hS rfl rfl rfl rfl rfl (by simp only [storA, List.all_cons, List.all_nil, qv10.stor, qv14.stor, qv18.stor]; rfl) rfl rfl fun H hS => ?_
  try simp only [W]
  refine seq_n hK19 ?_
  refine w_ret ?_
  refine fin_r hK0 (res_c rfl rfl (hS.var 3 rfl) rfl rfl) ?_
  try obtain rfl := Option.some.inj h
  exact hP _ qv10 _ qv14 _ qv18 _ (hS.sel 5 [2, 1, 0] (by decide))
theorem impl_in_w {a0 : Int} {a1 : Int} {a2 : Int} {r : (Bool)} (h : impl_in a0 a1 a2 = some r) {F : List It} {H : Heap} (hS : Own H (F)) {P : AV → Heap → Prop} (hP : ∀ H', Own H' (F) → P (.bool r) H') : ACall C 114 [.int .i64 a0, .int .i64 a1, .int .i64 a2] H P := by
  refine acall_of gC (res := [.tmp 6]) (n := 15) rfl rfl rfl rfl fun K0 hK0 => ?_
  simp only [W, Nat.reduceSub, Nat.reduceAdd, List.replicate]
  unfold impl_in at h
  refine w_seq fun K1 hK1 => ?_
  refine w_reg gC ?_
  try simp only [W, Nat.reduceAdd]
  refine seq_n hK1 ?_
  refine w_seq fun K2 hK2 => ?_
  refine w_reg gC ?_
  try simp only [W, EE, Nat.reduceAdd]
  refine w_grdT h (fun hc h => ?_) (fun hc h => ?_)
  · try simp only [W, EE, reduceIte, hc]
    refine seq_n hK2 ?_
    refine w_ret ?_
    refine fin_r1 hK0 rfl ?_
    try obtain rfl := Option.some.inj h
    exact hP _ hS
  · try simp only [W, hc]
    refine seq_n hK2 ?_
    refine w_ret ?_
    refine fin_r1 hK0 rfl ?_
    try obtain rfl := Option.some.inj h
    exact hP _ hS
theorem impl_Greet_goes_w {a0 : Greet} {a1 : Hello} {i0 : Nat} {w0 : Nat} {m108 : AV} {m109 : AV} {m110 : AV} {r : (Greet)} (h : impl_Greet_goes a0 a1 = some r) {F : List It} {H : Heap} (hS : Own H (⟨.ptr i0 w0 0 0, 11, [.agg [.int .i64 a0.StateA, .int .i64 a0.StateB, .int .i64 a0.X, .int .i64 a0.Y, .int .i64 a0.OfX, .int .i64 a0.OfY, .int .i64 a0.LastX, .int .i64 a0.LastY, m108, m109, m110]]⟩::⟨m108, 3, a0.Line.map e_Hello⟩::⟨m109, 3, a0.OpenedA.map e_Hello⟩::⟨m110, 3, a0.OpenedB.map e_Hello⟩::F)) (qm108 : isSl m108) (qm109 : isSl m109) (qm110 : isSl m110) {P : AV → Heap → Prop} (hP : ∀ nm108 : AV, isSl nm108 → ∀ nm109 : AV, isSl nm109 → ∀ nm110 : AV, isSl nm110 → ∀ H', Own H' (⟨.ptr i0 w0 0 0, 11, [.agg [.int .i64 r.StateA, .int .i64 r.StateB, .int .i64 r.X, .int .i64 r.Y, .int .i64 r.OfX, .int .i64 r.OfY, .int .i64 r.LastX, .int .i64 r.LastY, nm108, nm109, nm110]]⟩::⟨nm108, 3, r.Line.map e_Hello⟩::⟨nm109, 3, r.OpenedA.map e_Hello⟩::⟨nm110, 3, r.OpenedB.map e_Hello⟩::F) → P (.tup []) H') : ACall C 236 [.ptr i0 w0 0 0, .agg [.int .i64 a1.Kind, .int .i64 a1.X, .int .i64 a1.Y]] H P := by
  refine acall_of gC (res := []) (n := 20) rfl rfl rfl rfl fun K0 hK0 => ?_
  simp only [W, Nat.reduceSub, Nat.reduceAdd, List.replicate]
  unfold impl_Greet_goes at h
  refine w_seq fun K1 hK1 => ?_
  refine w_reg gC ?_
  try simp only [W, Nat.reduceAdd]
  refine w_box hS rfl rfl rfl rfl fun ip2 wp2 H hS => ?_
  try simp only [W]
  refine seq_n hK1 ?_
  refine w_seq fun K4 hK4 => ?_
  refine w_reg gC ?_
  try simp only [W, EE, Nat.reduceAdd, Nat.reduceBEq, hS.var 1 rfl]
  refine w_len 2 hS rfl qm108 rfl ?_
  try simp only [W, EE]
  refine seq_n hK4 ?_
  refine w_if ?_
  simp only [W]
  refine w_cnd h (fun hc h => ?_) (fun hc h => ?_)
  · refine w_drawL gC [(7, [0]), (10, [])] (by kernel_rfl) rfl (by kernel_rfl) ?_
    try simp only [W, EE, reduceIte, Nat.reduceAdd, Nat.reduceLeDiff, Nat.reduceBEq, hS.var 1 rfl, hS.var 0 rfl, tabAt, qAt, Nat.reduceEqDiff]
    refine w_lit (el := ([a1] : List Hello).map e_Hello) hS rfl rfl rfl rfl rfl rfl rfl fun v5 H qv5 hS => ?_
    try simp only [W, EE]
    refine w_appV (l := a0.Line) (c := e_Hello) 3 hS rfl qm108 rfl rfl rfl (hS.elems 0 rfl qv5) (fun _ => rfl) rfl h fun v8 H x7 qv8 hm h hS => ?_
    refine goK_late ?_
    refine lateG_s (by first | rfl | (simp [evalOp, W, EE, EN, rdAt, mkT, subL, AV.cells, hS.var 1 rfl, hS.var 2 rfl]; done)) ?_
    refine lateG_n ?_
    try simp only [W, EE, Nat.reduceAdd, Nat.reduceBEq, hS.var 2 rfl]
    refine w_stv (a := v8) (y' := .agg [.int .i64 a0.StateA, .int .i64 a0.StateB, .int .i64 a0.X, .int .i64 a0.Y, .int .i64 a0.OfX, .int .i64 a0.OfY, .int .i64 a0.LastX, .int .i64 a0.LastY, v8, m109, m110]) 2 hS rfl rfl rfl rfl (by rw [qv8.cells]; rfl) qv8.stora (qv8.wr _ _ (by simp)) rfl fun H hS => ?_
    try simp only [W]
    refine fin_n0 hK0 ?_
    try obtain rfl := Option.some.inj h
    exact hP _ qv8 _ qm109 _ qm110 _ (hS.sel 6 [2, 3, 4, 5] (by decide))
  · refine w_skip ?_
    refine fin_n0 hK0 ?_
    try obtain rfl := Option.some.inj h
    exact hP _ qm108 _ qm109 _ qm110 _ (hS.sel 5 [1, 2, 3, 4] (by decide))
theorem slices_Delete_impl_Hello_w {a0 : List Hello} {a1 : Int} {a2 : Int} {m0 : AV} {r : (List Hello)} (h : slices_Delete_impl_Hello a0 a1 a2 = some r) {F : List It} {H : Heap} (hS : Own H (⟨m0, 3, a0.map e_Hello⟩::F)) (qm0 : isSl m0) {P : AV → Heap → Prop} (hP : ∀ v21 : AV, isSl v21 → ∀ H', Own H' (⟨v21, 3, r.map e_Hello⟩::F) → P (v21) H') : ACall C 237 [m0, .int .i64 a1, .int .i64 a2] H P := by
  refine acall_of gC (res := [.tmp 6]) (n := 33) rfl rfl rfl rfl fun K0 hK0 => ?_
  simp only [W, Nat.reduceSub, Nat.reduceAdd, List.replicate]
  unfold slices_Delete_impl_Hello at h
  refine w_seq fun K1 hK1 => ?_
  refine w_reg gC ?_
  try simp only [W, Nat.reduceAdd]
  refine seq_n hK1 ?_
  refine w_seq fun K2 hK2 => ?_
  refine w_reg gC ?_
  try simp only [W, EE, Nat.reduceAdd]
  refine w_len 0 hS rfl qm0 rfl ?_
  try simp only [W, EE]
  refine w_slX 0 hS rfl qm0 rfl rfl rfl rfl h fun v4 x3 hx3 h => ?_
  try simp only [W]
  refine seq_n hK2 ?_
  refine w_seq fun K5 hK5 => ?_
  refine w_seq fun K6 hK6 => ?_
  refine w_reg gC ?_
  try simp only [W, EE, Nat.reduceAdd]
  refine seq_n hK6 ?_
  refine w_if ?_
  simp only [W]
  refine w_cnd h (fun hc h => ?_) (fun hc h => ?_)
  · refine w_seq fun K7 hK7 => ?_
    refine w_reg gC ?_
    try simp only [W, Nat.reduceAdd]
    refine seq_n hK7 ?_
    refine w_ret ?_
    refine seq_r hK5 ?_
    refine fin_r1 hK0 rfl ?_
    try obtain rfl := Option.some.inj h
    exact hP _ qm0 _ hS
  · refine w_skip ?_
    refine seq_n hK5 ?_
    refine w_seq fun K8 hK8 => ?_
    refine w_reg gC ?_
    try simp only [W, EE, Nat.reduceAdd]
    refine w_len 0 hS rfl qm0 rfl ?_
    try simp only [W]
    refine seq_n hK8 ?_
    refine w_seq fun K9 hK9 => ?_
    refine w_drawL gC [(6, [])] (by kernel_rfl) rfl (by kernel_rfl) ?_
    try simp only [W, EE, reduceIte, Nat.reduceAdd, tabAt, qAt, Nat.reduceEqDiff]
    refine w_slW 0 hS rfl qm0 rfl rfl rfl h fun v11 x10 qv11 wv11 hx10 h => ?_
    try simp only [W, EE]
    refine w_slW 0 hS rfl qm0 rfl rfl rfl h fun v13 x12 qv13 wv13 hx12 h => ?_
    try simp only [W, EE]
    refine w_appW (l := a0) (c := e_Hello) 0 hS rfl qv11 wv11 hx10 rfl rfl rfl (hS.elemsW 0 rfl wv13 hx12) (fun _ => rfl) rfl h fun v15 H x14 qv15 hmv15 h hS rmv15 => ?_
    try simp only [W]
    refine seq_n hK9 ?_
    refine w_seq fun K17 hK17 => ?_
    refine w_reg gC ?_
    try simp only [W, EE, Nat.reduceAdd]
    refine w_len 0 hS rfl qv15 rfl ?_
    try simp only [W, EE]
    have rf19 := rmv15 rfl (by obtain ⟨_, _, _, _⟩ := slc_len hx3; obtain ⟨_, _, _, _⟩ := slc_len hx10; obtain ⟨_, _, _, _⟩ := slc_len hx12; simp only [Option.getD_some, Option.getD_none] at *; omega)
    have ff19 : (x14).length ≤ (a0).length := by have := app_len hmv15; obtain ⟨_, _, _, _⟩ := slc_len hx3; obtain ⟨_, _, _, _⟩ := slc_len hx10; obtain ⟨_, _, _, _⟩ := slc_len hx12; simp only [Option.getD_some, Option.getD_none] at *; omega
    refine w_slR 0 hS rfl rfl rfl rfl rf19 rfl ff19 fun v18 wv18 => ?_
    try simp only [W]
    refine w_clr 0 hS rfl rfl rfl rfl rfl rf19 ff19 wv18 fun H hS => ?_
    try simp only [W]
    refine seq_n hK17 ?_
    refine w_seq fun K20 hK20 => ?_
    refine w_reg gC ?_
    try simp only [W, Nat.reduceAdd]
    refine seq_n hK20 ?_
    refine w_ret ?_
    refine fin_r1 hK0 rfl ?_
    try obtain rfl := Option.some.inj h
    exact hP _ qv15 _ hS
theorem impl_Greet_take_w {a0 : Greet} {a1 : Hello} {i0 : Nat} {w0 : Nat} {m108 : AV} {m109 : AV} {m110 : AV} {r : (Greet)} (h : impl_Greet_take a0 a1 = some r) {F : List It} {H : Heap} (hS : Own H (⟨.ptr i0 w0 0 0, 11, [.agg [.int .i64 a0.StateA, .int .i64 a0.StateB, .int .i64 a0.X, .int .i64 a0.Y, .int .i64 a0.OfX, .int .i64 a0.OfY, .int .i64 a0.LastX, .int .i64 a0.LastY, m108, m109, m110]]⟩::⟨m108, 3, a0.Line.map e_Hello⟩::⟨m109, 3, a0.OpenedA.map e_Hello⟩::⟨m110, 3, a0.OpenedB.map e_Hello⟩::F)) (qm108 : isSl m108) (qm109 : isSl m109) (qm110 : isSl m110) {P : AV → Heap → Prop} (hP : ∀ nm108 : AV, isSl nm108 → ∀ nm109 : AV, isSl nm109 → ∀ nm110 : AV, isSl nm110 → ∀ H', Own H' (⟨.ptr i0 w0 0 0, 11, [.agg [.int .i64 r.StateA, .int .i64 r.StateB, .int .i64 r.X, .int .i64 r.Y, .int .i64 r.OfX, .int .i64 r.OfY, .int .i64 r.LastX, .int .i64 r.LastY, nm108, nm109, nm110]]⟩::⟨nm108, 3, r.Line.map e_Hello⟩::⟨nm109, 3, r.OpenedA.map e_Hello⟩::⟨nm110, 3, r.OpenedB.map e_Hello⟩::F) → P (.tup []) H') : ACall C 238 [.ptr i0 w0 0 0, .agg [.int .i64 a1.Kind, .int .i64 a1.X, .int .i64 a1.Y]] H P := by
  refine acall_of gC (res := []) (n := 162) rfl rfl rfl rfl fun K0 hK0 => ?_
  simp only [W, Nat.reduceSub, Nat.reduceAdd, List.replicate]
  unfold impl_Greet_take at h
  refine w_seq fun K1 hK1 => ?_
  refine w_reg gC ?_
  try simp only [W, Nat.reduceAdd]
  refine w_box hS rfl rfl rfl rfl fun ip2 wp2 H hS => ?_
  try simp only [W]
  refine seq_n hK1 ?_
  refine w_seq fun K4 hK4 => ?_
  refine w_reg gC ?_
  try simp only [W, EE, Nat.reduceAdd, Nat.reduceBEq, hS.var 0 rfl]
  refine w_bld rfl rfl rfl rfl rfl ?_
  try simp only [W]
  refine w_alloc hS rfl rfl fun ip5 wp5 H hS => ?_
  try simp only [W]
  refine w_stv (a := .agg [.int .i64 3, .int .i64 a1.X, .int .i64 a1.Y]) (y' := .agg [.int .i64 3, .int .i64 a1.X, .int .i64 a1.Y]) 0 hS rfl rfl rfl rfl rfl rfl rfl rfl fun H hS => ?_
  try simp only [W]
  refine seq_n hK4 ?_
  refine w_seq fun K7 hK7 => ?_
  refine w_reg gC ?_
  try simp only [W, EE, Nat.reduceAdd, Nat.reduceBEq, hS.var 1 rfl]
  refine seq_n hK7 ?_
  refine w_blk fun K8 hK8 => ?_
  refine w_seq fun K9 hK9 => ?_
  refine w_reg gC ?_
  try simp only [W, EE, Nat.reduceAdd]
  refine seq_n hK9 ?_
  refine w_if ?_
  simp only [W]
  refine w_cnd h (fun hc h => ?_) (fun hc h => ?_)
  · refine w_seq fun K10 hK10 => ?_
    obtain ⟨y12, h, g13⟩ := Option.bind_eq_some_iff.1 h
    refine w_join gC (fun s H => ∃ x11 : Bool, y12 = (x11) ∧ s = (.ptr i0 w0 0 0::u::u::.ptr ip2 wp2 0 0::u::u::u::u::u::u::u::u::u::u::u::u::u::u::u::u::u::u::u::u::u::.bool x11::u::u::u::u::u::u::u::u::u::u::u::u::u::u::u::u::u::u::u::u::u::u::u::u::u::u::u::u::u::u::u::u::u::u::u::u::u::u::u::u::u::u::u::u::u::u::u::u::u::u::u::u::u::u::u::u::u::u::u::u::u::u::u::u::u::u::u::u::u::u::u::u::u::u::u::u::u::u::u::u::u::u::u::u::u::u::u::u::u::u::u::u::u::u::u::u::u::u::u::u::u::u::u::u::u::u::u::u::u::u::u::u::u::u::u::u::u::u::u::u::u::u::u::u::u::u::u::u::u::u::u::u::u::u::u::u::[]) ∧ Own H (⟨m108, 3, a0.Line.map e_Hello⟩::⟨m109, 3, a0.OpenedA.map e_Hello⟩::⟨m110, 3, a0.OpenedB.map e_Hello⟩::⟨.ptr i0 w0 0 0, 11, [.agg [.int .i64 a0.StateA, .int .i64 a0.StateB, .int .i64 a0.X, .int .i64 a0.Y, .int .i64 a0.OfX, .int .i64 a0.OfY, .int .i64 a0.LastX, .int .i64 a0.LastY, m108, m109, m110]]⟩::⟨.ptr ip2 wp2 0 0, 3, [.agg [.int .i64 a1.Kind, .int .i64 a1.X, .int .i64 a1.Y]]⟩::F)) (fun K14 hK14 => ?_) (fun s H hq => ?_)
    · refine w_seq fun K15 hK15 => ?_
      refine w_reg gC ?_
      try simp only [W, EE, Nat.reduceAdd, Nat.reduceBEq, hS.var 2 rfl]
      refine w_grdT h (fun hc h => ?_) (fun hc h => ?_)
      · try simp only [W, EE, reduceIte, Nat.reduceAdd, Nat.reduceBEq, hS.var 2 rfl, hc]
        refine seq_n hK15 ?_
        refine w_killE (s' := (.ptr i0 w0 0 0::u::u::.ptr ip2 wp2 0 0::u::u::u::u::u::u::u::u::u::u::u::u::u::u::u::u::u::u::u::u::u::.bool (decide (a0.LastY < 1000))::u::u::u::u::u::u::u::u::u::u::u::u::u::u::u::u::u::u::u::u::u::u::u::u::u::u::u::u::u::u::u::u::u::u::u::u::u::u::u::u::u::u::u::u::u::u::u::u::u::u::u::u::u::u::u::u::u::u::u::u::u::u::u::u::u::u::u::u::u::u::u::u::u::u::u::u::u::u::u::u::u::u::u::u::u::u::u::u::u::u::u::u::u::u::u::u::u::u::u::u::u::u::u::u::u::u::u::u::u::u::u::u::u::u::u::u::u::u::u::u::u::u::u::u::u::u::u::u::u::u::u::u::u::u::u::u::[])) rfl ?_
        exact cut_n hK14 ⟨_, (Option.some.inj h).symm, rfl, (hS.sel 6 [3, 4, 5, 2, 1] (by decide))⟩
      · try simp only [W, hc]
        refine seq_n hK15 ?_
        refine w_killE (s' := (.ptr i0 w0 0 0::u::u::.ptr ip2 wp2 0 0::u::u::u::u::u::u::u::u::u::u::u::u::u::u::u::u::u::u::u::u::u::.bool false::u::u::u::u::u::u::u::u::u::u::u::u::u::u::u::u::u::u::u::u::u::u::u::u::u::u::u::u::u::u::u::u::u::u::u::u::u::u::u::u::u::u::u::u::u::u::u::u::u::u::u::u::u::u::u::u::u::u::u::u::u::u::u::u::u::u::u::u::u::u::u::u::u::u::u::u::u::u::u::u::u::u::u::u::u::u::u::u::u::u::u::u::u::u::u::u::u::u::u::u::u::u::u::u::u::u::u::u::u::u::u::u::u::u::u::u::u::u::u::u::u::u::u::u::u::u::u::u::u::u::u::u::u::u::u::u::[])) rfl ?_
        exact cut_n hK14 ⟨_, (Option.some.inj h).symm, rfl, (hS.sel 6 [3, 4, 5, 2, 1] (by decide))⟩
    · obtain ⟨x11, ey, rfl, hS⟩ := hq; obtain rfl := ey.symm
      replace h := g13
      try dsimp only at h
      refine seq_n hK10 ?_
      refine w_if ?_
      simp only [W]
      refine w_cnd h (fun hc h => ?_) (fun hc h => ?_)
      · refine w_seq fun K16 hK16 => ?_
        refine w_reg gC ?_
        try simp only [W, EE, Nat.reduceAdd, Nat.reduceBEq, hS.var 3 rfl]
        refine w_stv (a := .int .i64 (IntKind.i64.wrap (a0.LastY + 1))) (y' := .agg [.int .i64 a0.StateA, .int .i64 a0.StateB, .int .i64 a0.X, .int .i64 a0.Y, .int .i64 a0.OfX, .int .i64 a0.OfY, .int .i64 a0.LastX, .int .i64 (IntKind.i64.wrap (a0.LastY + 1)), m108, m109, m110]) 3 hS rfl rfl rfl rfl rfl rfl rfl rfl fun H hS => ?_
        try simp only [W]
        refine seq_n hK16 ?_
        refine w_seq fun K17 hK17 => ?_
        refine w_drawL gC [(11, [1, 2, 3, 4]), (14, [2]), (17, [])] (by kernel_rfl) rfl (by kernel_rfl) ?_
        try simp only [W, EE, reduceIte, Nat.reduceAdd, Nat.reduceBEq, hS.var 3 rfl, hS.var 4 rfl, tabAt, qAt, Nat.reduceEqDiff]
        refine w_stv (a := .int .i64 1) (y' := .agg [.int .i64 a0.StateA, .int .i64 1, .int .i64 a0.X, .int .i64 a0.Y, .int .i64 a0.OfX, .int .i64 a0.OfY, .int .i64 a0.LastX, .int .i64 (IntKind.i64.wrap (a0.LastY + 1)), m108, m109, m110]) 3 hS rfl rfl rfl rfl rfl rfl rfl rfl fun H hS => ?_
        refine goK_late ?_
        refine lateG_s (by first | rfl | (simp [evalOp, W, EE, EN, rdAt, mkT, subL, AV.cells, hS.var 3 rfl, hS.var 4 rfl]; done)) ?_
        refine lateG_s (by first | rfl | (simp [evalOp, W, EE, EN, rdAt, mkT, subL, AV.cells, hS.var 3 rfl, hS.var 4 rfl]; done)) ?_
        refine lateG_s (by first | rfl | (simp [evalOp, W, EE, hS.var 4 rfl]; done)) ?_
        refine lateG_s (by first | rfl | (simp [evalOp, W, EE, rdAt, mkT, subL, AV.cells, hS.var 4 rfl]; done)) ?_
        refine lateG_n ?_
        try simp only [W, EE, Nat.reduceAdd, Nat.reduceBEq, hS.var 3 rfl]
        refine w_stv (a := .int .i64 a1.X) (y' := .agg [.int .i64 a0.StateA, .int .i64 1, .int .i64 a0.X, .int .i64 a0.Y, .int .i64 a1.X, .int .i64 a0.OfY, .int .i64 a0.LastX, .int .i64 (IntKind.i64.wrap (a0.LastY + 1)), m108, m109, m110]) 3 hS rfl rfl rfl rfl rfl rfl rfl rfl fun H hS => ?_
        refine goK_late ?_
        refine lateG_s (by first | rfl | (simp [evalOp, W, EE, EN, rdAt, mkT, subL, AV.cells, hS.var 3 rfl, hS.var 4 rfl]; done)) ?_
        refine lateG_n ?_
        try simp only [W, EE, Nat.reduceAdd, Nat.reduceBEq, hS.var 3 rfl]
        refine w_stv (a := .int .i64 (IntKind.i64.wrap (a0.LastY + 1))) (y' := .agg [.int .i64 a0.StateA, .int .i64 1, .int .i64 a0.X, .int .i64 (IntKind.i64.wrap (a0.LastY + 1)), .int .i64 a1.X, .int .i64 a0.OfY, .int .i64 a0.LastX, .int .i64 (IntKind.i64.wrap (a0.LastY + 1)), m108, m109, m110]) 3 hS rfl rfl rfl rfl rfl rfl rfl rfl fun H hS => ?_
        try simp only [W]
        refine seq_n hK17 ?_
        refine w_drawL gC [(10, [])] (by kernel_rfl) rfl (by kernel_rfl) ?_
        try simp only [W, EE, reduceIte, Nat.reduceAdd, Nat.reduceBEq, hS.var 3 rfl, tabAt, qAt, Nat.reduceEqDiff]
        refine w_bld rfl rfl rfl rfl rfl ?_
        try simp only [W]
        refine w_call h fun b18 hb18 h => ?_
        refine impl_Greet_goes_w hb18 (hS.sel 5 [3, 0, 1, 2, 4] (by decide)) qm108 qm109 qm110 fun v19 qv19 v20 qv20 v21 qv21 H hS => ?_
        try simp only [W]
        refine blk_n0 hK8 ?_
        refine fin_n0 hK0 ?_
        try obtain rfl := Option.some.inj h
        exact hP _ qv19 _ qv20 _ qv21 _ (hS.sel 5 [0, 1, 2, 3] (by decide))
      · refine w_skip ?_
        refine blk_n0 hK8 ?_
        refine fin_n0 hK0 ?_
        try obtain rfl := Option.some.inj h
        exact hP _ qm108 _ qm109 _ qm110 _ (hS.sel 5 [3, 0, 1, 2] (by decide))
  · refine w_seq fun K22 hK22 => ?_
    refine w_reg gC ?_
    try simp only [W, EE, Nat.reduceAdd]
    refine seq_n hK22 ?_
    refine w_if ?_
    simp only [W]
    refine w_cnd h (fun hc h => ?_) (fun hc h => ?_)
    · refine w_blk fun K23 hK23 => ?_
      refine w_seq fun K24 hK24 => ?_
      obtain ⟨y26, h, g27⟩ := Option.bind_eq_some_iff.1 h
      refine w_join gC (fun s H => ∃ x25 : Bool, y26 = (x25) ∧ s = (.ptr i0 w0 0 0::u::u::.ptr ip2 wp2 0 0::.ptr ip5 wp5 0 0::u::u::u::u::u::u::u::u::u::u::u::u::u::u::u::u::u::u::u::u::u::u::u::u::u::u::u::u::u::u::u::u::u::u::u::u::u::u::u::u::u::u::u::u::u::u::u::u::u::u::u::u::u::u::u::u::.bool x25::u::u::u::u::u::u::u::u::u::u::u::u::u::u::u::u::u::u::u::u::u::u::u::u::u::u::u::u::u::u::u::u::u::u::u::u::u::u::u::u::u::u::u::u::u::u::u::u::u::u::u::u::u::u::u::u::u::u::u::u::u::u::u::u::u::u::u::u::u::u::u::u::u::u::u::u::u::u::u::u::u::u::u::u::u::u::u::u::u::u::u::u::u::u::u::u::u::u::u::u::[]) ∧ Own H (⟨m108, 3, a0.Line.map e_Hello⟩::⟨m109, 3, a0.OpenedA.map e_Hello⟩::⟨m110, 3, a0.OpenedB.map e_Hello⟩::⟨.ptr i0 w0 0 0, 11, [.agg [.int .i64 a0.StateA, .int .i64 a0.StateB, .int .i64 a0.X, .int .i64 a0.Y, .int .i64 a0.OfX, .int .i64 a0.OfY, .int .i64 a0.LastX, .int .i64 a0.LastY, m108, m109, m110]]⟩::⟨.ptr ip2 wp2 0 0, 3, [.agg [.int .i64 a1.Kind, .int .i64 a1.X, .int .i64 a1.Y]]⟩::⟨.ptr ip5 wp5 0 0, 3, [.agg [.int .i64 3, .int .i64 a1.X, .int .i64 a1.Y]]⟩::F)) (fun K28 hK28 => ?_) (fun s H hq => ?_)
      · refine w_seq fun K29 hK29 => ?_
        refine w_draw0 gC (by kernel_rfl) ?_
        try simp only [W, EE, Nat.reduceAdd, Nat.reduceBEq, hS.var 2 rfl]
        refine w_grdT h (fun hc h => ?_) (fun hc h => ?_)
        · try simp only [W, EE, reduceIte, Nat.reduceAdd, Nat.reduceBEq, hS.var 2 rfl, hS.var 1 rfl, hc]
          refine seq_n hK29 ?_
          refine w_killE (s' := (.ptr i0 w0 0 0::u::u::.ptr ip2 wp2 0 0::.ptr ip5 wp5 0 0::u::u::u::u::u::u::u::u::u::u::u::u::u::u::u::u::u::u::u::u::u::u::u::u::u::u::u::u::u::u::u::u::u::u::u::u::u::u::u::u::u::u::u::u::u::u::u::u::u::u::u::u::u::u::u::u::.bool (a0.X == a1.X)::u::u::u::u::u::u::u::u::u::u::u::u::u::u::u::u::u::u::u::u::u::u::u::u::u::u::u::u::u::u::u::u::u::u::u::u::u::u::u::u::u::u::u::u::u::u::u::u::u::u::u::u::u::u::u::u::u::u::u::u::u::u::u::u::u::u::u::u::u::u::u::u::u::u::u::u::u::u::u::u::u::u::u::u::u::u::u::u::u::u::u::u::u::u::u::u::u::u::u::u::[])) rfl ?_
          exact cut_n hK28 ⟨_, (Option.some.inj h).symm, rfl, (hS.sel 6 [3, 4, 5, 2, 1, 0] (by decide))⟩
        · try simp only [W, hc]
          refine seq_n hK29 ?_
          refine w_killE (s' := (.ptr i0 w0 0 0::u::u::.ptr ip2 wp2 0 0::.ptr ip5 wp5 0 0::u::u::u::u::u::u::u::u::u::u::u::u::u::u::u::u::u::u::u::u::u::u::u::u::u::u::u::u::u::u::u::u::u::u::u::u::u::u::u::u::u::u::u::u::u::u::u::u::u::u::u::u::u::u::u::u::.bool false::u::u::u::u::u::u::u::u::u::u::u::u::u::u::u::u::u::u::u::u::u::u::u::u::u::u::u::u::u::u::u::u::u::u::u::u::u::u::u::u::u::u::u::u::u::u::u::u::u::u::u::u::u::u::u::u::u::u::u::u::u::u::u::u::u::u::u::u::u::u::u::u::u::u::u::u::u::u::u::u::u::u::u::u::u::u::u::u::u::u::u::u::u::u::u::u::u::u::u::u::[])) rfl ?_
          exact cut_n hK28 ⟨_, (Option.some.inj h).symm, rfl, (hS.sel 6 [3, 4, 5, 2, 1, 0] (by decide))⟩
      · obtain ⟨x25, ey, rfl, hS⟩ := hq; obtain rfl := ey.symm
        replace h := g27
        try dsimp only at h
        refine seq_n hK24 ?_
        refine w_if ?_
        simp only [W]
        refine w_cnd h (fun hc h => ?_) (fun hc h => ?_)
        · refine w_seq fun K30 hK30 => ?_
          refine w_drawL gC [(6, [1, 2, 3]), (9, [])] (by kernel_rfl) rfl (by kernel_rfl) ?_
          try simp only [W, EE, reduceIte, Nat.reduceAdd, Nat.reduceBEq, hS.var 3 rfl, hS.var 4 rfl, tabAt, qAt, Nat.reduceEqDiff]
          refine w_stv (a := .int .i64 2) (y' := .agg [.int .i64 2, .int .i64 a0.StateB, .int .i64 a0.X, .int .i64 a0.Y, .int .i64 a0.OfX, .int .i64 a0.OfY, .int .i64 a0.LastX, .int .i64 a0.LastY, m108, m109, m110]) 3 hS rfl rfl rfl rfl rfl rfl rfl rfl fun H hS => ?_
          refine goK_late ?_
          refine lateG_s (by first | rfl | (simp [evalOp, W, EE, EN, rdAt, mkT, subL, AV.cells, hS.var 3 rfl, hS.var 4 rfl, hS.var 5 rfl]; done)) ?_
          refine lateG_s (by first | rfl | (simp [evalOp, W, EE, hS.var 4 rfl]; done)) ?_
          refine lateG_s (by first | rfl | (simp [evalOp, W, EE, rdAt, mkT, subL, AV.cells, hS.var 4 rfl]; done)) ?_
          refine lateG_n ?_
          try simp only [W, EE, Nat.reduceAdd, Nat.reduceBEq, hS.var 3 rfl]
          refine w_stv (a := .int .i64 a1.Y) (y' := .agg [.int .i64 2, .int .i64 a0.StateB, .int .i64 a0.X, .int .i64 a0.Y, .int .i64 a0.OfX, .int .i64 a1.Y, .int .i64 a0.LastX, .int .i64 a0.LastY, m108, m109, m110]) 3 hS rfl rfl rfl rfl rfl rfl rfl rfl fun H hS => ?_
          try simp only [W]
          refine seq_n hK30 ?_
          refine w_seq fun K31 hK31 => ?_
          refine w_drawL gC [(7, [0]), (10, [])] (by kernel_rfl) rfl (by kernel_rfl) ?_
          try simp only [W, EE, reduceIte, Nat.reduceAdd, Nat.reduceLeDiff, Nat.reduceBEq, hS.var 3 rfl, hS.var 5 rfl, tabAt, qAt, Nat.reduceEqDiff]
          refine w_lit (el := ([(⟨3, a1.X, a1.Y⟩ : Hello)] : List Hello).map e_Hello) hS rfl rfl rfl rfl rfl rfl rfl fun v32 H qv32 hS => ?_
          try simp only [W, EE]
          refine w_appV (l := a0.OpenedA) (c := e_Hello) 2 hS rfl qm109 rfl rfl rfl (hS.elems 0 rfl qv32) (fun _ => rfl) rfl h fun v35 H x34 qv35 hm h hS => ?_
          refine goK_late ?_
          refine lateG_s (by first | rfl | (simp [evalOp, W, EE, EN, rdAt, mkT, subL, AV.cells, hS.var 4 rfl, hS.var 5 rfl, hS.var 6 rfl]; done)) ?_
          refine lateG_n ?_
          try simp only [W, EE, Nat.reduceAdd, Nat.reduceBEq, hS.var 4 rfl]
          refine w_stv (a := v35) (y' := .agg [.int .i64 2, .int .i64 a0.StateB, .int .i64 a0.X, .int .i64 a0.Y, .int .i64 a0.OfX, .int .i64 a1.Y, .int .i64 a0.LastX, .int .i64 a0.LastY, m108, v35, m110]) 4 hS rfl rfl rfl rfl (by rw [qv35.cells]; rfl) qv35.stora (qv35.wr _ _ (by simp)) rfl fun H hS => ?_
          try simp only [W]
          refine seq_n hK31 ?_
          refine w_reg gC ?_
          try simp only [W, EE, reduceIte, Nat.reduceAdd, Nat.reduceLeDiff, hS.var 6 rfl]
          refine w_call h fun b37 hb37 h => ?_
          refine impl_Greet_goes_w hb37 (hS.sel 7 [4, 1, 2, 3, 0, 5, 6] (by decide)) qm108 qv35 qm110 fun v38 qv38 v39 qv39 v40 qv40 H hS => ?_
          try simp only [W]
          refine blk_n0 hK23 ?_
          refine blk_n0 hK8 ?_
          refine fin_n0 hK0 ?_
          try obtain rfl := Option.some.inj h
          exact hP _ qv38 _ qv39 _ qv40 _ (hS.sel 7 [0, 1, 2, 3] (by decide))
        · refine w_seq fun K41 hK41 => ?_
          obtain ⟨y43, h, g44⟩ := Option.bind_eq_some_iff.1 h
          refine w_join gC (fun s H => ∃ x42 : Bool, y43 = (x42) ∧ s = (.ptr i0 w0 0 0::u::u::u::.ptr ip5 wp5 0 0::u::u::u::u::u::u::u::u::u::u::u::u::u::u::u::u::u::u::u::u::u::u::u::u::u::u::u::u::u::u::u::u::u::u::u::u::u::u::u::u::u::u::u::u::u::u::u::u::u::u::u::u::u::u::u::u::u::u::u::u::u::u::u::u::u::u::u::u::u::u::u::u::u::u::u::u::u::u::u::u::u::u::u::u::u::u::u::u::u::u::u::u::.bool x42::u::u::u::u::u::u::u::u::u::u::u::u::u::u::u::u::u::u::u::u::u::u::u::u::u::u::u::u::u::u::u::u::u::u::u::u::u::u::u::u::u::u::u::u::u::u::u::u::u::u::u::u::u::u::u::u::u::u::u::u::u::u::u::u::[]) ∧ Own H (⟨m108, 3, a0.Line.map e_Hello⟩::⟨m109, 3, a0.OpenedA.map e_Hello⟩::⟨m110, 3, a0.OpenedB.map e_Hello⟩::⟨.ptr i0 w0 0 0, 11, [.agg [.int .i64 a0.StateA, .int .i64 a0.StateB, .int .i64 a0.X, .int .i64 a0.Y, .int .i64 a0.OfX, .int .i64 a0.OfY, .int .i64 a0.LastX, .int .i64 a0.LastY, m108, m109, m110]]⟩::⟨.ptr ip5 wp5 0 0, 3, [.agg [.int .i64 3, .int .i64 a1.X, .int .i64 a1.Y]]⟩::F)) (fun K45 hK45 => ?_) (fun s H hq => ?_)
          · refine w_seq fun K46 hK46 => ?_
            refine w_draw0 gC (by kernel_rfl) ?_
            try simp only [W, EE, Nat.reduceAdd, Nat.reduceBEq, hS.var 3 rfl]
            refine w_grdT h (fun hc h => ?_) (fun hc h => ?_)
            · try simp only [W, EE, reduceIte, Nat.reduceAdd, Nat.reduceBEq, hS.var 3 rfl, hS.var 4 rfl, hc]
              refine w_grdT h (fun hc h => ?_) (fun hc h => ?_)
              · try simp only [W, EE, reduceIte, Nat.reduceAdd, Nat.reduceBEq, hS.var 3 rfl, hS.var 4 rfl, hc]
                refine seq_n hK46 ?_
                refine w_killE (s' := (.ptr i0 w0 0 0::u::u::u::.ptr ip5 wp5 0 0::u::u::u::u::u::u::u::u::u::u::u::u::u::u::u::u::u::u::u::u::u::u::u::u::u::u::u::u::u::u::u::u::u::u::u::u::u::u::u::u::u::u::u::u::u::u::u::u::u::u::u::u::u::u::u::u::u::u::u::u::u::u::u::u::u::u::u::u::u::u::u::u::u::u::u::u::u::u::u::u::u::u::u::u::u::u::u::u::u::u::u::u::.bool (a0.OfY == a1.Y)::u::u::u::u::u::u::u::u::u::u::u::u::u::u::u::u::u::u::u::u::u::u::u::u::u::u::u::u::u::u::u::u::u::u::u::u::u::u::u::u::u::u::u::u::u::u::u::u::u::u::u::u::u::u::u::u::u::u::u::u::u::u::u::u::[])) rfl ?_
                exact cut_n hK45 ⟨_, (Option.some.inj h).symm, rfl, (hS.sel 6 [0, 1, 2, 3, 5] (by decide))⟩
              · try simp only [W, hc]
                refine seq_n hK46 ?_
                refine w_killE (s' := (.ptr i0 w0 0 0::u::u::u::.ptr ip5 wp5 0 0::u::u::u::u::u::u::u::u::u::u::u::u::u::u::u::u::u::u::u::u::u::u::u::u::u::u::u::u::u::u::u::u::u::u::u::u::u::u::u::u::u::u::u::u::u::u::u::u::u::u::u::u::u::u::u::u::u::u::u::u::u::u::u::u::u::u::u::u::u::u::u::u::u::u::u::u::u::u::u::u::u::u::u::u::u::u::u::u::u::u::u::u::.bool false::u::u::u::u::u::u::u::u::u::u::u::u::u::u::u::u::u::u::u::u::u::u::u::u::u::u::u::u::u::u::u::u::u::u::u::u::u::u::u::u::u::u::u::u::u::u::u::u::u::u::u::u::u::u::u::u::u::u::u::u::u::u::u::u::[])) rfl ?_
                exact cut_n hK45 ⟨_, (Option.some.inj h).symm, rfl, (hS.sel 6 [0, 1, 2, 3, 5] (by decide))⟩
            · try simp only [W, hc]
              refine seq_n hK46 ?_
              refine w_killE (s' := (.ptr i0 w0 0 0::u::u::u::.ptr ip5 wp5 0 0::u::u::u::u::u::u::u::u::u::u::u::u::u::u::u::u::u::u::u::u::u::u::u::u::u::u::u::u::u::u::u::u::u::u::u::u::u::u::u::u::u::u::u::u::u::u::u::u::u::u::u::u::u::u::u::u::u::u::u::u::u::u::u::u::u::u::u::u::u::u::u::u::u::u::u::u::u::u::u::u::u::u::u::u::u::u::u::u::u::u::u::u::.bool false::u::u::u::u::u::u::u::u::u::u::u::u::u::u::u::u::u::u::u::u::u::u::u::u::u::u::u::u::u::u::u::u::u::u::u::u::u::u::u::u::u::u::u::u::u::u::u::u::u::u::u::u::u::u::u::u::u::u::u::u::u::u::u::u::[])) rfl ?_
              exact cut_n hK45 ⟨_, (Option.some.inj h).symm, rfl, (hS.sel 6 [0, 1, 2, 3, 5] (by decide))⟩
          · obtain ⟨x42, ey, rfl, hS⟩ := hq; obtain rfl := ey.symm
            replace h := g44
            try dsimp only at h
            refine seq_n hK41 ?_
            refine w_if ?_
            simp only [W]
            refine w_cnd h (fun hc h => ?_) (fun hc h => ?_)
            · refine w_reg gC ?_
              try simp only [W, EE, reduceIte, Nat.reduceAdd, Nat.reduceLeDiff, hS.var 4 rfl]
              refine w_call h fun b47 hb47 h => ?_
              refine impl_Greet_goes_w hb47 (hS.sel 5 [3, 0, 1, 2, 4] (by decide)) qm108 qm109 qm110 fun v48 qv48 v49 qv49 v50 qv50 H hS => ?_
              try simp only [W]
              refine blk_n0 hK23 ?_
              refine blk_n0 hK8 ?_
              refine fin_n0 hK0 ?_
              try obtain rfl := Option.some.inj h
              exact hP _ qv48 _ qv49 _ qv50 _ (hS.sel 5 [0, 1, 2, 3] (by decide))
            · refine w_skip ?_
              refine blk_n0 hK23 ?_
              refine blk_n0 hK8 ?_
              refine fin_n0 hK0 ?_
              try obtain rfl := Option.some.inj h
              exact hP _ qm108 _ qm109 _ qm110 _ (hS.sel 5 [3, 0, 1, 2] (by decide))
    · refine w_seq fun K51 hK51 => ?_
      refine w_reg gC ?_
      try simp only [W, EE, Nat.reduceAdd]
      refine seq_n hK51 ?_
      refine w_if ?_
      simp only [W]
      refine w_cnd h (fun hc h => ?_) (fun hc h => ?_)
      · refine w_seq fun K52 hK52 => ?_
        obtain ⟨y54, h, g55⟩ := Option.bind_eq_some_iff.1 h
        refine w_join gC (fun s H => ∃ x53 : Bool, y54 = (x53) ∧ s = (.ptr i0 w0 0 0::u::u::u::.ptr ip5 wp5 0 0::u::u::u::u::u::u::u::u::u::u::u::u::u::u::u::u::u::u::u::u::u::u::u::u::u::u::u::u::u::u::u::u::u::u::u::u::u::u::u::u::u::u::u::u::u::u::u::u::u::u::u::u::u::u::u::u::u::u::u::u::u::u::u::u::u::u::u::u::u::u::u::u::u::u::u::u::u::u::u::u::u::u::u::u::u::u::u::u::u::u::u::u::u::u::u::u::u::u::u::u::u::u::u::u::u::u::u::u::u::u::u::u::u::u::u::u::u::u::u::u::u::u::u::u::u::u::u::u::u::u::u::u::u::u::u::u::u::u::u::u::u::u::u::.bool x53::u::u::u::u::u::u::u::u::u::u::u::u::u::[]) ∧ Own H (⟨m108, 3, a0.Line.map e_Hello⟩::⟨m109, 3, a0.OpenedA.map e_Hello⟩::⟨m110, 3, a0.OpenedB.map e_Hello⟩::⟨.ptr i0 w0 0 0, 11, [.agg [.int .i64 a0.StateA, .int .i64 a0.StateB, .int .i64 a0.X, .int .i64 a0.Y, .int .i64 a0.OfX, .int .i64 a0.OfY, .int .i64 a0.LastX, .int .i64 a0.LastY, m108, m109, m110]]⟩::⟨.ptr ip5 wp5 0 0, 3, [.agg [.int .i64 3, .int .i64 a1.X, .int .i64 a1.Y]]⟩::F)) (fun K56 hK56 => ?_) (fun s H hq => ?_)
        · refine w_seq fun K57 hK57 => ?_
          refine w_draw0 gC (by kernel_rfl) ?_
          try simp only [W, EE, Nat.reduceAdd, Nat.reduceBEq, hS.var 2 rfl]
          refine w_grdT h (fun hc h => ?_) (fun hc h => ?_)
          · try simp only [W, EE, reduceIte, Nat.reduceAdd, Nat.reduceBEq, hS.var 2 rfl, hS.var 1 rfl, hc]
            refine w_grdT h (fun hc h => ?_) (fun hc h => ?_)
            · try simp only [W, EE, reduceIte, Nat.reduceAdd, Nat.reduceBEq, hS.var 2 rfl, hS.var 1 rfl, hc]
              refine seq_n hK57 ?_
              refine w_killE (s' := (.ptr i0 w0 0 0::u::u::u::.ptr ip5 wp5 0 0::u::u::u::u::u::u::u::u::u::u::u::u::u::u::u::u::u::u::u::u::u::u::u::u::u::u::u::u::u::u::u::u::u::u::u::u::u::u::u::u::u::u::u::u::u::u::u::u::u::u::u::u::u::u::u::u::u::u::u::u::u::u::u::u::u::u::u::u::u::u::u::u::u::u::u::u::u::u::u::u::u::u::u::u::u::u::u::u::u::u::u::u::u::u::u::u::u::u::u::u::u::u::u::u::u::u::u::u::u::u::u::u::u::u::u::u::u::u::u::u::u::u::u::u::u::u::u::u::u::u::u::u::u::u::u::u::u::u::u::u::u::u::u::.bool (a0.Y == a1.Y)::u::u::u::u::u::u::u::u::u::u::u::u::u::[])) rfl ?_
              exact cut_n hK56 ⟨_, (Option.some.inj h).symm, rfl, (hS.sel 6 [3, 4, 5, 2, 0] (by decide))⟩
            · try simp only [W, hc]
              refine seq_n hK57 ?_
              refine w_killE (s' := (.ptr i0 w0 0 0::u::u::u::.ptr ip5 wp5 0 0::u::u::u::u::u::u::u::u::u::u::u::u::u::u::u::u::u::u::u::u::u::u::u::u::u::u::u::u::u::u::u::u::u::u::u::u::u::u::u::u::u::u::u::u::u::u::u::u::u::u::u::u::u::u::u::u::u::u::u::u::u::u::u::u::u::u::u::u::u::u::u::u::u::u::u::u::u::u::u::u::u::u::u::u::u::u::u::u::u::u::u::u::u::u::u::u::u::u::u::u::u::u::u::u::u::u::u::u::u::u::u::u::u::u::u::u::u::u::u::u::u::u::u::u::u::u::u::u::u::u::u::u::u::u::u::u::u::u::u::u::u::u::u::.bool false::u::u::u::u::u::u::u::u::u::u::u::u::u::[])) rfl ?_
              exact cut_n hK56 ⟨_, (Option.some.inj h).symm, rfl, (hS.sel 6 [3, 4, 5, 2, 0] (by decide))⟩
          · try simp only [W, hc]
            refine seq_n hK57 ?_
            refine w_killE (s' := (.ptr i0 w0 0 0::u::u::u::.ptr ip5 wp5 0 0::u::u::u::u::u::u::u::u::u::u::u::u::u::u::u::u::u::u::u::u::u::u::u::u::u::u::u::u::u::u::u::u::u::u::u::u::u::u::u::u::u::u::u::u::u::u::u::u::u::u::u::u::u::u::u::u::u::u::u::u::u::u::u::u::u::u::u::u::u::u::u::u::u::u::u::u::u::u::u::u::u::u::u::u::u::u::u::u::u::u::u::u::u::u::u::u::u::u::u::u::u::u::u::u::u::u::u::u::u::u::u::u::u::u::u::u::u::u::u::u::u::u::u::u::u::u::u::u::u::u::u::u::u::u::u::u::u::u::u::u::u::u::u::.bool false::u::u::u::u::u::u::u::u::u::u::u::u::u::[])) rfl ?_
            exact cut_n hK56 ⟨_, (Option.some.inj h).symm, rfl, (hS.sel 6 [3, 4, 5, 2, 0] (by decide))⟩
        · obtain ⟨x53, ey, rfl, hS⟩ := hq; obtain rfl := ey.symm
          replace h := g55
          try dsimp only at h
          refine seq_n hK52 ?_
          refine w_if ?_
          simp only [W]
          refine w_cnd h (fun hc h => ?_) (fun hc h => ?_)
          · refine w_seq fun K58 hK58 => ?_
            refine w_reg gC ?_
            try simp only [W, EE, Nat.reduceAdd, Nat.reduceBEq, hS.var 3 rfl]
            refine w_stv (a := .int .i64 2) (y' := .agg [.int .i64 a0.StateA, .int .i64 2, .int .i64 a0.X, .int .i64 a0.Y, .int .i64 a0.OfX, .int .i64 a0.OfY, .int .i64 a0.LastX, .int .i64 a0.LastY, m108, m109, m110]) 3 hS rfl rfl rfl rfl rfl rfl rfl rfl fun H hS => ?_
            try simp only [W]
            refine seq_n hK58 ?_
            refine w_drawL gC [(7, [0]), (10, [])] (by kernel_rfl) rfl (by kernel_rfl) ?_
            try simp only [W, EE, reduceIte, Nat.reduceAdd, Nat.reduceLeDiff, Nat.reduceBEq, hS.var 3 rfl, hS.var 4 rfl, tabAt, qAt, Nat.reduceEqDiff]
            refine w_lit (el := ([(⟨3, a1.X, a1.Y⟩ : Hello)] : List Hello).map e_Hello) hS rfl rfl rfl rfl rfl rfl rfl fun v59 H qv59 hS => ?_
            try simp only [W, EE]
            refine w_appV (l := a0.OpenedB) (c := e_Hello) 3 hS rfl qm110 rfl rfl rfl (hS.elems 0 rfl qv59) (fun _ => rfl) rfl h fun v62 H x61 qv62 hm h hS => ?_
            refine goK_late ?_
            refine lateG_s (by first | rfl | (simp [evalOp, W, EE, EN, rdAt, mkT, subL, AV.cells, hS.var 4 rfl, hS.var 5 rfl]; done)) ?_
            refine lateG_n ?_
            try simp only [W, EE, Nat.reduceAdd, Nat.reduceBEq, hS.var 4 rfl]
            refine w_stv (a := v62) (y' := .agg [.int .i64 a0.StateA, .int .i64 2, .int .i64 a0.X, .int .i64 a0.Y, .int .i64 a0.OfX, .int .i64 a0.OfY, .int .i64 a0.LastX, .int .i64 a0.LastY, m108, m109, v62]) 4 hS rfl rfl rfl rfl (by rw [qv62.cells]; rfl) qv62.stora (qv62.wr _ _ (by simp)) rfl fun H hS => ?_
            try simp only [W]
            refine blk_n0 hK8 ?_
            refine fin_n0 hK0 ?_
            try obtain rfl := Option.some.inj h
            exact hP _ qm108 _ qm109 _ qv62 _ (hS.sel 6 [4, 1, 2, 3] (by decide))
          · refine w_skip ?_
            refine blk_n0 hK8 ?_
            refine fin_n0 hK0 ?_
            try obtain rfl := Option.some.inj h
            exact hP _ qm108 _ qm109 _ qm110 _ (hS.sel 5 [3, 0, 1, 2] (by decide))
      · refine w_skip ?_
        refine blk_n0 hK8 ?_
        refine fin_n0 hK0 ?_
        try obtain rfl := Option.some.inj h
        exact hP _ qm108 _ qm109 _ qm110 _ (hS.sel 6 [2, 3, 4, 5] (by decide))
theorem impl_Greet_step_w {a0 : Greet} {a1 : GreetStep} {i0 : Nat} {w0 : Nat} {m108 : AV} {m109 : AV} {m110 : AV} {r : (Bool × Greet)} (h : impl_Greet_step a0 a1 = some r) {F : List It} {H : Heap} (hS : Own H (⟨.ptr i0 w0 0 0, 11, [.agg [.int .i64 a0.StateA, .int .i64 a0.StateB, .int .i64 a0.X, .int .i64 a0.Y, .int .i64 a0.OfX, .int .i64 a0.OfY, .int .i64 a0.LastX, .int .i64 a0.LastY, m108, m109, m110]]⟩::⟨m108, 3, a0.Line.map e_Hello⟩::⟨m109, 3, a0.OpenedA.map e_Hello⟩::⟨m110, 3, a0.OpenedB.map e_Hello⟩::F)) (qm108 : isSl m108) (qm109 : isSl m109) (qm110 : isSl m110) {P : AV → Heap → Prop} (hP : ∀ nm108 : AV, isSl nm108 → ∀ nm109 : AV, isSl nm109 → ∀ nm110 : AV, isSl nm110 → ∀ H', Own H' (⟨.ptr i0 w0 0 0, 11, [.agg [.int .i64 r.2.StateA, .int .i64 r.2.StateB, .int .i64 r.2.X, .int .i64 r.2.Y, .int .i64 r.2.OfX, .int .i64 r.2.OfY, .int .i64 r.2.LastX, .int .i64 r.2.LastY, nm108, nm109, nm110]]⟩::⟨nm108, 3, r.2.Line.map e_Hello⟩::⟨nm109, 3, r.2.OpenedA.map e_Hello⟩::⟨nm110, 3, r.2.OpenedB.map e_Hello⟩::F) → P (.bool r.1) H') : ACall C 154 [.ptr i0 w0 0 0, .agg [.int .i64 a1.Kind, .int .i64 a1.K]] H P := by
  refine acall_of gC (res := [.tmp 4]) (n := 175) rfl rfl rfl rfl fun K0 hK0 => ?_
  simp only [W, Nat.reduceSub, Nat.reduceAdd, List.replicate]
  unfold impl_Greet_step at h
  refine w_seq fun K1 hK1 => ?_
  refine w_reg gC ?_
  try simp only [W, Nat.reduceAdd]
  refine w_box hS rfl rfl rfl rfl fun ip2 wp2 H hS => ?_
  try simp only [W]
  refine seq_n hK1 ?_
  refine w_seq fun K4 hK4 => ?_
  refine w_seq fun K5 hK5 => ?_
  refine w_reg gC ?_
  try simp only [W, EE, Nat.reduceAdd, Nat.reduceBEq, hS.var 0 rfl]
  refine seq_n hK5 ?_
  obtain ⟨y7, h, g8⟩ := Option.bind_eq_some_iff.1 h
  refine w_join gC (fun s H => y7 = LR.next () ∧ s = (.ptr i0 w0 0 0::u::u::.ptr ip2 wp2 0 0::u::u::u::u::u::u::u::u::u::u::u::u::u::u::u::u::u::u::u::u::u::u::u::u::u::u::u::u::u::u::u::u::u::u::u::u::u::u::u::u::u::u::u::u::u::u::u::u::u::u::u::u::u::u::u::u::u::u::u::u::u::u::u::u::u::u::u::u::u::u::u::u::u::u::u::u::u::u::u::u::u::u::u::u::u::u::u::u::u::u::u::u::u::u::u::u::u::u::u::u::u::u::u::u::u::u::u::u::u::u::u::u::u::u::u::u::u::u::u::u::u::u::u::u::u::u::u::u::u::u::u::u::u::u::u::u::u::u::u::u::u::u::u::u::u::u::u::u::u::u::u::u::u::u::u::u::u::u::u::u::u::u::u::u::u::u::u::u::u::u::u::[]) ∧ Own H (⟨m108, 3, a0.Line.map e_Hello⟩::⟨m109, 3, a0.OpenedA.map e_Hello⟩::⟨m110, 3, a0.OpenedB.map e_Hello⟩::⟨.ptr i0 w0 0 0, 11, [.agg [.int .i64 a0.StateA, .int .i64 a0.StateB, .int .i64 a0.X, .int .i64 a0.Y, .int .i64 a0.OfX, .int .i64 a0.OfY, .int .i64 a0.LastX, .int .i64 a0.LastY, m108, m109, m110]]⟩::⟨.ptr ip2 wp2 0 0, 2, [.agg [.int .i64 a1.Kind, .int .i64 a1.K]]⟩::F)) (fun K9 hK9 => ?_) (fun s H hq => ?_)
  · refine w_blk fun K6 hK6 => ?_
    refine w_seq fun K10 hK10 => ?_
    refine w_seq fun K11 hK11 => ?_
    refine w_reg gC ?_
    try simp only [W, EE, Nat.reduceAdd]
    refine seq_n hK11 ?_
    obtain ⟨y13, h, g14⟩ := Option.bind_eq_some_iff.1 h
    refine w_join gC (fun s H => ∃ x12 : Bool, y13 = (x12) ∧ s = (.ptr i0 w0 0 0::u::u::.ptr ip2 wp2 0 0::u::u::u::.int .i64 a1.Kind::.bool x12::u::u::u::u::u::u::u::u::u::u::u::u::u::u::u::u::u::u::u::u::u::u::u::u::u::u::u::u::u::u::u::u::u::u::u::u::u::u::u::u::u::u::u::u::u::u::u::u::u::u::u::u::u::u::u::u::u::u::u::u::u::u::u::u::u::u::u::u::u::u::u::u::u::u::u::u::u::u::u::u::u::u::u::u::u::u::u::u::u::u::u::u::u::u::u::u::u::u::u::u::u::u::u::u::u::u::u::u::u::u::u::u::u::u::u::u::u::u::u::u::u::u::u::u::u::u::u::u::u::u::u::u::u::u::u::u::u::u::u::u::u::u::u::u::u::u::u::u::u::u::u::u::u::u::u::u::u::u::u::u::u::u::u::u::u::u::[]) ∧ Own H (⟨m108, 3, a0.Line.map e_Hello⟩::⟨m109, 3, a0.OpenedA.map e_Hello⟩::⟨m110, 3, a0.OpenedB.map e_Hello⟩::⟨.ptr i0 w0 0 0, 11, [.agg [.int .i64 a0.StateA, .int .i64 a0.StateB, .int .i64 a0.X, .int .i64 a0.Y, .int .i64 a0.OfX, .int .i64 a0.OfY, .int .i64 a0.LastX, .int .i64 a0.LastY, m108, m109, m110]]⟩::⟨.ptr ip2 wp2 0 0, 2, [.agg [.int .i64 a1.Kind, .int .i64 a1.K]]⟩::F)) (fun K15 hK15 => ?_) (fun s H hq => ?_)
    · refine w_seq fun K16 hK16 => ?_
      refine w_if ?_
      simp only [W]
      refine w_cnd h (fun hc h => ?_) (fun hc h => ?_)
      · refine w_skip ?_
        refine seq_n hK16 ?_
        refine w_killE (s' := (.ptr i0 w0 0 0::u::u::.ptr ip2 wp2 0 0::u::u::u::.int .i64 a1.Kind::.bool (a1.Kind == 1)::u::u::u::u::u::u::u::u::u::u::u::u::u::u::u::u::u::u::u::u::u::u::u::u::u::u::u::u::u::u::u::u::u::u::u::u::u::u::u::u::u::u::u::u::u::u::u::u::u::u::u::u::u::u::u::u::u::u::u::u::u::u::u::u::u::u::u::u::u::u::u::u::u::u::u::u::u::u::u::u::u::u::u::u::u::u::u::u::u::u::u::u::u::u::u::u::u::u::u::u::u::u::u::u::u::u::u::u::u::u::u::u::u::u::u::u::u::u::u::u::u::u::u::u::u::u::u::u::u::u::u::u::u::u::u::u::u::u::u::u::u::u::u::u::u::u::u::u::u::u::u::u::u::u::u::u::u::u::u::u::u::u::u::u::u::u::[])) rfl ?_
        exact cut_n hK15 ⟨_, (Option.some.inj h).symm, rfl, (hS.sel 5 [2, 3, 4, 1, 0] (by decide))⟩
      · refine w_reg gC ?_
        try simp only [W, EE, Nat.reduceAdd]
        refine seq_n hK16 ?_
        refine w_killE (s' := (.ptr i0 w0 0 0::u::u::.ptr ip2 wp2 0 0::u::u::u::.int .i64 a1.Kind::.bool (a1.Kind == 5)::u::u::u::u::u::u::u::u::u::u::u::u::u::u::u::u::u::u::u::u::u::u::u::u::u::u::u::u::u::u::u::u::u::u::u::u::u::u::u::u::u::u::u::u::u::u::u::u::u::u::u::u::u::u::u::u::u::u::u::u::u::u::u::u::u::u::u::u::u::u::u::u::u::u::u::u::u::u::u::u::u::u::u::u::u::u::u::u::u::u::u::u::u::u::u::u::u::u::u::u::u::u::u::u::u::u::u::u::u::u::u::u::u::u::u::u::u::u::u::u::u::u::u::u::u::u::u::u::u::u::u::u::u::u::u::u::u::u::u::u::u::u::u::u::u::u::u::u::u::u::u::u::u::u::u::u::u::u::u::u::u::u::u::u::u::u::[])) rfl ?_
        exact cut_n hK15 ⟨_, (Option.some.inj h).symm, rfl, (hS.sel 5 [2, 3, 4, 1, 0] (by decide))⟩
    · obtain ⟨x12, ey, rfl, hS⟩ := hq; obtain rfl := ey.symm
      replace h := g14
      try dsimp only at h
      refine seq_n hK10 ?_
      obtain ⟨y17, h, g18⟩ := Option.bind_eq_some_iff.1 h
      refine w_join gC (fun s H => y17 = LR.next () ∧ s = (.ptr i0 w0 0 0::u::u::.ptr ip2 wp2 0 0::u::u::u::.int .i64 a1.Kind::.bool x12::u::u::u::u::u::u::u::u::u::u::u::u::u::u::u::u::u::u::u::u::u::u::u::u::u::u::u::u::u::u::u::u::u::u::u::u::u::u::u::u::u::u::u::u::u::u::u::u::u::u::u::u::u::u::u::u::u::u::u::u::u::u::u::u::u::u::u::u::u::u::u::u::u::u::u::u::u::u::u::u::u::u::u::u::u::u::u::u::u::u::u::u::u::u::u::u::u::u::u::u::u::u::u::u::u::u::u::u::u::u::u::u::u::u::u::u::u::u::u::u::u::u::u::u::u::u::u::u::u::u::u::u::u::u::u::u::u::u::u::u::u::u::u::u::u::u::u::u::u::u::u::u::u::u::u::u::u::u::u::u::u::u::u::u::u::u::[]) ∧ Own H (⟨m108, 3, a0.Line.map e_Hello⟩::⟨m109, 3, a0.OpenedA.map e_Hello⟩::⟨m110, 3, a0.OpenedB.map e_Hello⟩::⟨.ptr i0 w0 0 0, 11, [.agg [.int .i64 a0.StateA, .int .i64 a0.StateB, .int .i64 a0.X, .int .i64 a0.Y, .int .i64 a0.OfX, .int .i64 a0.OfY, .int .i64 a0.LastX, .int .i64 a0.LastY, m108, m109, m110]]⟩::⟨.ptr ip2 wp2 0 0, 2, [.agg [.int .i64 a1.Kind, .int .i64 a1.K]]⟩::F)) (fun K19 hK19 => ?_) (fun s H hq => ?_)
      · refine w_seq fun K20 hK20 => ?_
        refine w_if ?_
        simp only [W]
        refine w_cnd h (fun hc h => ?_) (fun hc h => ?_)
        · refine w_seq fun K21 hK21 => ?_
          refine w_reg gC ?_
          try simp only [W, EE, Nat.reduceAdd, Nat.reduceBEq, hS.var 4 rfl]
          refine seq_n hK21 ?_
          refine w_if ?_
          simp only [W]
          refine w_cnd h (fun hc h => ?_) (fun hc h => ?_)
          · refine w_seq fun K22 hK22 => ?_
            refine w_reg gC ?_
            try simp only [W, Nat.reduceAdd]
            refine seq_n hK22 ?_
            refine w_ret ?_
            refine seq_r hK20 ?_
            try obtain rfl := Option.some.inj h
            obtain rfl := Option.some.inj g18
            have h : (some (LR.done (false, a0)) : Option (LR Unit (Bool × Greet))) = some (LR.done (false, a0)) := rfl
            refine cut_r hK19 ?_
            refine blk_r hK6 ?_
            try obtain rfl := Option.some.inj h
            obtain rfl := Option.some.inj g8
            have h : (some (false, a0) : Option (Bool × Greet)) = some (false, a0) := rfl
            refine cut_r hK9 ?_
            refine seq_r hK4 ?_
            refine fin_r1 hK0 rfl ?_
            try obtain rfl := Option.some.inj h
            exact hP _ qm108 _ qm109 _ qm110 _ (hS.sel 5 [3, 0, 1, 2] (by decide))
          · refine w_skip ?_
            refine seq_n hK20 ?_
            refine w_killE (s' := (.ptr i0 w0 0 0::u::u::.ptr ip2 wp2 0 0::u::u::u::.int .i64 a1.Kind::.bool x12::u::u::u::u::u::u::u::u::u::u::u::u::u::u::u::u::u::u::u::u::u::u::u::u::u::u::u::u::u::u::u::u::u::u::u::u::u::u::u::u::u::u::u::u::u::u::u::u::u::u::u::u::u::u::u::u::u::u::u::u::u::u::u::u::u::u::u::u::u::u::u::u::u::u::u::u::u::u::u::u::u::u::u::u::u::u::u::u::u::u::u::u::u::u::u::u::u::u::u::u::u::u::u::u::u::u::u::u::u::u::u::u::u::u::u::u::u::u::u::u::u::u::u::u::u::u::u::u::u::u::u::u::u::u::u::u::u::u::u::u::u::u::u::u::u::u::u::u::u::u::u::u::u::u::u::u::u::u::u::u::u::u::u::u::u::u::[])) rfl ?_
            exact cut_n hK19 ⟨(Option.some.inj h).symm, rfl, hS⟩
        · refine w_seq fun K27 hK27 => ?_
          refine w_seq fun K28 hK28 => ?_
          refine w_reg gC ?_
          try simp only [W, EE, Nat.reduceAdd]
          refine seq_n hK28 ?_
          obtain ⟨y30, h, g31⟩ := Option.bind_eq_some_iff.1 h
          refine w_join gC (fun s H => ∃ x29 : Bool, y30 = (x29) ∧ s = (.ptr i0 w0 0 0::u::u::.ptr ip2 wp2 0 0::u::u::u::.int .i64 a1.Kind::.bool x12::u::u::u::u::u::.bool x29::u::u::u::u::u::u::u::u::u::u::u::u::u::u::u::u::u::u::u::u::u::u::u::u::u::u::u::u::u::u::u::u::u::u::u::u::u::u::u::u::u::u::u::u::u::u::u::u::u::u::u::u::u::u::u::u::u::u::u::u::u::u::u::u::u::u::u::u::u::u::u::u::u::u::u::u::u::u::u::u::u::u::u::u::u::u::u::u::u::u::u::u::u::u::u::u::u::u::u::u::u::u::u::u::u::u::u::u::u::u::u::u::u::u::u::u::u::u::u::u::u::u::u::u::u::u::u::u::u::u::u::u::u::u::u::u::u::u::u::u::u::u::u::u::u::u::u::u::u::u::u::u::u::u::u::u::u::u::u::u::[]) ∧ Own H (⟨m108, 3, a0.Line.map e_Hello⟩::⟨m109, 3, a0.OpenedA.map e_Hello⟩::⟨m110, 3, a0.OpenedB.map e_Hello⟩::⟨.ptr i0 w0 0 0, 11, [.agg [.int .i64 a0.StateA, .int .i64 a0.StateB, .int .i64 a0.X, .int .i64 a0.Y, .int .i64 a0.OfX, .int .i64 a0.OfY, .int .i64 a0.LastX, .int .i64 a0.LastY, m108, m109, m110]]⟩::⟨.ptr ip2 wp2 0 0, 2, [.agg [.int .i64 a1.Kind, .int .i64 a1.K]]⟩::F)) (fun K32 hK32 => ?_) (fun s H hq => ?_)
          · refine w_seq fun K33 hK33 => ?_
            refine w_if ?_
            simp only [W]
            refine w_cnd h (fun hc h => ?_) (fun hc h => ?_)
            · refine w_skip ?_
              refine seq_n hK33 ?_
              refine w_killE (s' := (.ptr i0 w0 0 0::u::u::.ptr ip2 wp2 0 0::u::u::u::.int .i64 a1.Kind::.bool x12::u::u::u::u::u::.bool (a1.Kind == 2)::u::u::u::u::u::u::u::u::u::u::u::u::u::u::u::u::u::u::u::u::u::u::u::u::u::u::u::u::u::u::u::u::u::u::u::u::u::u::u::u::u::u::u::u::u::u::u::u::u::u::u::u::u::u::u::u::u::u::u::u::u::u::u::u::u::u::u::u::u::u::u::u::u::u::u::u::u::u::u::u::u::u::u::u::u::u::u::u::u::u::u::u::u::u::u::u::u::u::u::u::u::u::u::u::u::u::u::u::u::u::u::u::u::u::u::u::u::u::u::u::u::u::u::u::u::u::u::u::u::u::u::u::u::u::u::u::u::u::u::u::u::u::u::u::u::u::u::u::u::u::u::u::u::u::u::u::u::u::u::u::[])) rfl ?_
              exact cut_n hK32 ⟨_, (Option.some.inj h).symm, rfl, hS⟩
            · refine w_seq fun K34 hK34 => ?_
              refine w_reg gC ?_
              try simp only [W, EE, Nat.reduceAdd]
              refine seq_n hK34 ?_
              obtain ⟨y36, h, g37⟩ := Option.bind_eq_some_iff.1 h
              refine w_join gC (fun s H => ∃ x35 : Bool, y36 = (x35) ∧ s = (.ptr i0 w0 0 0::u::u::.ptr ip2 wp2 0 0::u::u::u::.int .i64 a1.Kind::.bool x12::u::u::u::u::u::.bool x35::u::u::u::u::u::u::u::u::u::u::u::u::u::u::u::u::u::u::u::u::u::u::u::u::u::u::u::u::u::u::u::u::u::u::u::u::u::u::u::u::u::u::u::u::u::u::u::u::u::u::u::u::u::u::u::u::u::u::u::u::u::u::u::u::u::u::u::u::u::u::u::u::u::u::u::u::u::u::u::u::u::u::u::u::u::u::u::u::u::u::u::u::u::u::u::u::u::u::u::u::u::u::u::u::u::u::u::u::u::u::u::u::u::u::u::u::u::u::u::u::u::u::u::u::u::u::u::u::u::u::u::u::u::u::u::u::u::u::u::u::u::u::u::u::u::u::u::u::u::u::u::u::u::u::u::u::u::u::u::u::[]) ∧ Own H (⟨m108, 3, a0.Line.map e_Hello⟩::⟨m109, 3, a0.OpenedA.map e_Hello⟩::⟨m110, 3, a0.OpenedB.map e_Hello⟩::⟨.ptr i0 w0 0 0, 11, [.agg [.int .i64 a0.StateA, .int .i64 a0.StateB, .int .i64 a0.X, .int .i64 a0.Y, .int .i64 a0.OfX, .int .i64 a0.OfY, .int .i64 a0.LastX, .int .i64 a0.LastY, m108, m109, m110]]⟩::⟨.ptr ip2 wp2 0 0, 2, [.agg [.int .i64 a1.Kind, .int .i64 a1.K]]⟩::F)) (fun K38 hK38 => ?_) (fun s H hq => ?_)
              · refine w_seq fun K39 hK39 => ?_
                refine w_if ?_
                simp only [W]
                refine w_cnd h (fun hc h => ?_) (fun hc h => ?_)
                · refine w_skip ?_
                  refine seq_n hK39 ?_
                  refine w_killE (s' := (.ptr i0 w0 0 0::u::u::.ptr ip2 wp2 0 0::u::u::u::.int .i64 a1.Kind::.bool x12::u::u::u::u::u::.bool (a1.Kind == 3)::u::u::u::u::u::u::u::u::u::u::u::u::u::u::u::u::u::u::u::u::u::u::u::u::u::u::u::u::u::u::u::u::u::u::u::u::u::u::u::u::u::u::u::u::u::u::u::u::u::u::u::u::u::u::u::u::u::u::u::u::u::u::u::u::u::u::u::u::u::u::u::u::u::u::u::u::u::u::u::u::u::u::u::u::u::u::u::u::u::u::u::u::u::u::u::u::u::u::u::u::u::u::u::u::u::u::u::u::u::u::u::u::u::u::u::u::u::u::u::u::u::u::u::u::u::u::u::u::u::u::u::u::u::u::u::u::u::u::u::u::u::u::u::u::u::u::u::u::u::u::u::u::u::u::u::u::u::u::u::u::[])) rfl ?_
                  exact cut_n hK38 ⟨_, (Option.some.inj h).symm, rfl, hS⟩
                · refine w_reg gC ?_
                  try simp only [W, EE, Nat.reduceAdd]
                  refine seq_n hK39 ?_
                  refine w_killE (s' := (.ptr i0 w0 0 0::u::u::.ptr ip2 wp2 0 0::u::u::u::.int .i64 a1.Kind::.bool x12::u::u::u::u::u::.bool (a1.Kind == 4)::u::u::u::u::u::u::u::u::u::u::u::u::u::u::u::u::u::u::u::u::u::u::u::u::u::u::u::u::u::u::u::u::u::u::u::u::u::u::u::u::u::u::u::u::u::u::u::u::u::u::u::u::u::u::u::u::u::u::u::u::u::u::u::u::u::u::u::u::u::u::u::u::u::u::u::u::u::u::u::u::u::u::u::u::u::u::u::u::u::u::u::u::u::u::u::u::u::u::u::u::u::u::u::u::u::u::u::u::u::u::u::u::u::u::u::u::u::u::u::u::u::u::u::u::u::u::u::u::u::u::u::u::u::u::u::u::u::u::u::u::u::u::u::u::u::u::u::u::u::u::u::u::u::u::u::u::u::u::u::u::[])) rfl ?_
                  exact cut_n hK38 ⟨_, (Option.some.inj h).symm, rfl, hS⟩
              · obtain ⟨x35, ey, rfl, hS⟩ := hq; obtain rfl := ey.symm
                replace h := g37
                try dsimp only at h
                refine seq_n hK33 ?_
                refine w_killE (s' := (.ptr i0 w0 0 0::u::u::.ptr ip2 wp2 0 0::u::u::u::.int .i64 a1.Kind::.bool x12::u::u::u::u::u::.bool x35::u::u::u::u::u::u::u::u::u::u::u::u::u::u::u::u::u::u::u::u::u::u::u::u::u::u::u::u::u::u::u::u::u::u::u::u::u::u::u::u::u::u::u::u::u::u::u::u::u::u::u::u::u::u::u::u::u::u::u::u::u::u::u::u::u::u::u::u::u::u::u::u::u::u::u::u::u::u::u::u::u::u::u::u::u::u::u::u::u::u::u::u::u::u::u::u::u::u::u::u::u::u::u::u::u::u::u::u::u::u::u::u::u::u::u::u::u::u::u::u::u::u::u::u::u::u::u::u::u::u::u::u::u::u::u::u::u::u::u::u::u::u::u::u::u::u::u::u::u::u::u::u::u::u::u::u::u::u::u::u::[])) rfl ?_
                exact cut_n hK32 ⟨_, (Option.some.inj h).symm, rfl, hS⟩
          · obtain ⟨x29, ey, rfl, hS⟩ := hq; obtain rfl := ey.symm
            replace h := g31
            try dsimp only at h
            refine seq_n hK27 ?_
            obtain ⟨y40, h, g41⟩ := Option.bind_eq_some_iff.1 h
            refine w_join gC (fun s H => y40 = LR.next () ∧ s = (.ptr i0 w0 0 0::u::u::.ptr ip2 wp2 0 0::u::u::u::.int .i64 a1.Kind::.bool x12::u::u::u::u::u::.bool x29::u::u::u::u::u::u::u::u::u::u::u::u::u::u::u::u::u::u::u::u::u::u::u::u::u::u::u::u::u::u::u::u::u::u::u::u::u::u::u::u::u::u::u::u::u::u::u::u::u::u::u::u::u::u::u::u::u::u::u::u::u::u::u::u::u::u::u::u::u::u::u::u::u::u::u::u::u::u::u::u::u::u::u::u::u::u::u::u::u::u::u::u::u::u::u::u::u::u::u::u::u::u::u::u::u::u::u::u::u::u::u::u::u::u::u::u::u::u::u::u::u::u::u::u::u::u::u::u::u::u::u::u::u::u::u::u::u::u::u::u::u::u::u::u::u::u::u::u::u::u::u::u::u::u::u::u::u::u::u::u::[]) ∧ Own H (⟨m108, 3, a0.Line.map e_Hello⟩::⟨m109, 3, a0.OpenedA.map e_Hello⟩::⟨m110, 3, a0.OpenedB.map e_Hello⟩::⟨.ptr i0 w0 0 0, 11, [.agg [.int .i64 a0.StateA, .int .i64 a0.StateB, .int .i64 a0.X, .int .i64 a0.Y, .int .i64 a0.OfX, .int .i64 a0.OfY, .int .i64 a0.LastX, .int .i64 a0.LastY, m108, m109, m110]]⟩::⟨.ptr ip2 wp2 0 0, 2, [.agg [.int .i64 a1.Kind, .int .i64 a1.K]]⟩::F)) (fun K42 hK42 => ?_) (fun s H hq => ?_)
            · refine w_seq fun K43 hK43 => ?_
              refine w_if ?_
              simp only [W]
              refine w_cnd h (fun hc h => ?_) (fun hc h => ?_)
              · refine w_seq fun K44 hK44 => ?_
                refine w_draw0 gC (by kernel_rfl) ?_
                try simp only [W, EE, Nat.reduceAdd, Nat.reduceBEq, hS.var 3 rfl, hS.var 4 rfl]
                refine w_len 0 hS rfl qm108 rfl ?_
                try simp only [W, EE]
                refine w_callS (rsh := [[.sc]]) (ys := [.int .i64 a1.K, .int .i64 0, .int .i64 (IntKind.i64.wrap ((a0.Line.length : Int) - 1))]) h rfl (by rfl) fun b45 hb45 h => ⟨.bool b45, impl_in_w hb45 (Own.nil _) fun H hS => TV_ok rfl (TV_p rfl (TV_n rfl)), ⟨rfl, rfl, fun _ => rfl⟩, ?_⟩
                try simp only [W]
                refine seq_n hK44 ?_
                refine w_if ?_
                simp only [W]
                refine w_cnd h (fun hc h => ?_) (fun hc h => ?_)
                · refine w_seq fun K46 hK46 => ?_
                  refine w_reg gC ?_
                  try simp only [W, Nat.reduceAdd]
                  refine seq_n hK46 ?_
                  refine w_ret ?_
                  refine seq_r hK43 ?_
                  try obtain rfl := Option.some.inj h
                  obtain rfl := Option.some.inj g41
                  have h : (some (LR.done (LR.done (false, a0))) : Option (LR Unit (LR Unit (Bool × Greet)))) = some (LR.done (LR.done (false, a0))) := rfl
                  refine cut_r hK42 ?_
                  refine seq_r hK20 ?_
                  try obtain rfl := Option.some.inj h
                  obtain rfl := Option.some.inj g18
                  have h : (some (LR.done (false, a0)) : Option (LR Unit (Bool × Greet))) = some (LR.done (false, a0)) := rfl
                  refine cut_r hK19 ?_
                  refine blk_r hK6 ?_
                  try obtain rfl := Option.some.inj h
                  obtain rfl := Option.some.inj g8
                  have h : (some (false, a0) : Option (Bool × Greet)) = some (false, a0) := rfl
                  refine cut_r hK9 ?_
                  refine seq_r hK4 ?_
                  refine fin_r1 hK0 rfl ?_
                  try obtain rfl := Option.some.inj h
                  exact hP _ qm108 _ qm109 _ qm110 _ (hS.sel 5 [3, 0, 1, 2] (by decide))
                · refine w_skip ?_
                  refine seq_n hK43 ?_
                  refine w_killE (s' := (.ptr i0 w0 0 0::u::u::.ptr ip2 wp2 0 0::u::u::u::.int .i64 a1.Kind::.bool x12::u::u::u::u::u::.bool x29::u::u::u::u::u::u::u::u::u::u::u::u::u::u::u::u::u::u::u::u::u::u::u::u::u::u::u::u::u::u::u::u::u::u::u::u::u::u::u::u::u::u::u::u::u::u::u::u::u::u::u::u::u::u::u::u::u::u::u::u::u::u::u::u::u::u::u::u::u::u::u::u::u::u::u::u::u::u::u::u::u::u::u::u::u::u::u::u::u::u::u::u::u::u::u::u::u::u::u::u::u::u::u::u::u::u::u::u::u::u::u::u::u::u::u::u::u::u::u::u::u::u::u::u::u::u::u::u::u::u::u::u::u::u::u::u::u::u::u::u::u::u::u::u::u::u::u::u::u::u::u::u::u::u::u::u::u::u::u::u::[])) rfl ?_
                  exact cut_n hK42 ⟨(Option.some.inj h).symm, rfl, hS⟩
              · refine w_skip ?_
                refine seq_n hK43 ?_
                refine w_killE (s' := (.ptr i0 w0 0 0::u::u::.ptr ip2 wp2 0 0::u::u::u::.int .i64 a1.Kind::.bool x12::u::u::u::u::u::.bool x29::u::u::u::u::u::u::u::u::u::u::u::u::u::u::u::u::u::u::u::u::u::u::u::u::u::u::u::u::u::u::u::u::u::u::u::u::u::u::u::u::u::u::u::u::u::u::u::u::u::u::u::u::u::u::u::u::u::u::u::u::u::u::u::u::u::u::u::u::u::u::u::u::u::u::u::u::u::u::u::u::u::u::u::u::u::u::u::u::u::u::u::u::u::u::u::u::u::u::u::u::u::u::u::u::u::u::u::u::u::u::u::u::u::u::u::u::u::u::u::u::u::u::u::u::u::u::u::u::u::u::u::u::u::u::u::u::u::u::u::u::u::u::u::u::u::u::u::u::u::u::u::u::u::u::u::u::u::u::u::u::[])) rfl ?_
                exact cut_n hK42 ⟨(Option.some.inj h).symm, rfl, hS⟩
            · obtain ⟨rfl, rfl, hS⟩ := hq
              replace h := g41
              try dsimp only at h
              refine seq_n hK20 ?_
              refine w_killE (s' := (.ptr i0 w0 0 0::u::u::.ptr ip2 wp2 0 0::u::u::u::.int .i64 a1.Kind::.bool x12::u::u::u::u::u::u::u::u::u::u::u::u::u::u::u::u::u::u::u::u::u::u::u::u::u::u::u::u::u::u::u::u::u::u::u::u::u::u::u::u::u::u::u::u::u::u::u::u::u::u::u::u::u::u::u::u::u::u::u::u::u::u::u::u::u::u::u::u::u::u::u::u::u::u::u::u::u::u::u::u::u::u::u::u::u::u::u::u::u::u::u::u::u::u::u::u::u::u::u::u::u::u::u::u::u::u::u::u::u::u::u::u::u::u::u::u::u::u::u::u::u::u::u::u::u::u::u::u::u::u::u::u::u::u::u::u::u::u::u::u::u::u::u::u::u::u::u::u::u::u::u::u::u::u::u::u::u::u::u::u::u::u::u::u::u::u::[])) rfl ?_
              exact cut_n hK19 ⟨(Option.some.inj h).symm, rfl, hS⟩
      · obtain ⟨rfl, rfl, hS⟩ := hq
        replace h := g18
        try dsimp only at h
        refine blk_n hK6 ?_
        exact cut_n hK9 ⟨(Option.some.inj h).symm, rfl, hS⟩
  · obtain ⟨rfl, rfl, hS⟩ := hq
    replace h := g8
    try dsimp only at h
    refine seq_n hK4 ?_
    refine w_seq fun K53 hK53 => ?_
    refine w_seq fun K54 hK54 => ?_
    refine w_reg gC ?_
    try simp only [W, EE, Nat.reduceAdd, Nat.reduceBEq, hS.var 4 rfl]
    refine seq_n hK54 ?_
    obtain ⟨y70, h, g71⟩ := Option.bind_eq_some_iff.1 h
    refine w_join gC (fun s H => ∃ x56 : Int, ∃ x57 : Int, ∃ x58 : Int, ∃ x59 : Int, ∃ x60 : Int, ∃ x61 : Int, ∃ x62 : Int, ∃ x63 : Int, ∃ x64 : List Hello, ∃ x66 : List Hello, ∃ x68 : List Hello, y70 = LR.next (x56, x57, x58, x59, x60, x61, x62, x63, x64, x66, x68) ∧ ∃ v65 : AV, isSl v65 ∧ ∃ v67 : AV, isSl v67 ∧ ∃ v69 : AV, isSl v69 ∧ s = (.ptr i0 w0 0 0::u::u::u::u::u::u::u::u::u::u::u::u::u::u::u::u::u::u::u::u::u::u::u::u::u::u::u::u::u::u::u::u::u::u::u::u::u::u::u::u::u::u::u::u::u::u::u::u::u::u::u::u::u::u::u::u::u::u::u::u::u::u::u::u::u::u::u::u::u::u::u::u::u::u::u::u::u::u::u::u::u::u::u::u::u::u::u::u::u::u::u::u::u::u::u::u::u::u::u::u::u::u::u::u::u::u::u::u::u::u::u::u::u::u::u::u::u::u::u::u::u::u::u::u::u::u::u::u::u::u::u::u::u::u::u::u::u::u::u::u::u::u::u::u::u::u::u::u::u::u::u::u::u::u::u::u::u::u::u::u::u::u::u::u::u::u::u::u::u::u::u::u::u::u::[]) ∧ Own H (⟨v65, 3, x64.map e_Hello⟩::⟨v67, 3, x66.map e_Hello⟩::⟨v69, 3, x68.map e_Hello⟩::⟨.ptr i0 w0 0 0, 11, [.agg [.int .i64 x56, .int .i64 x57, .int .i64 x58, .int .i64 x59, .int .i64 x60, .int .i64 x61, .int .i64 x62, .int .i64 x63, v65, v67, v69]]⟩::F)) (fun K72 hK72 => ?_) (fun s H hq => ?_)
    · refine w_blk fun K55 hK55 => ?_
      refine w_seq fun K73 hK73 => ?_
      refine w_reg gC ?_
      try simp only [W, EE, Nat.reduceAdd]
      refine seq_n hK73 ?_
      obtain ⟨y89, h, g90⟩ := Option.bind_eq_some_iff.1 h
      refine w_join gC (fun s H => ∃ x74 : Int, ∃ x75 : Int, ∃ x76 : Int, ∃ x77 : Int, ∃ x78 : Int, ∃ x79 : Int, ∃ x80 : Int, ∃ x81 : Int, ∃ x82 : List Hello, ∃ x85 : List Hello, ∃ x87 : List Hello, y89 = LR.next (x74, x75, x76, x77, x78, x79, x80, x81, x82, x85, x87) ∧ ∃ v83 : AV, isSl v83 ∧ ∃ v86 : AV, isSl v86 ∧ ∃ v88 : AV, isSl v88 ∧ s = (.ptr i0 w0 0 0::u::u::u::u::u::u::u::u::u::u::u::u::u::u::u::u::u::u::u::u::u::u::u::u::u::u::u::u::u::u::u::u::u::u::u::u::u::u::u::u::u::u::u::u::u::u::u::u::u::u::u::u::u::u::u::u::u::u::u::u::u::u::u::u::u::u::u::u::u::u::u::u::u::u::u::u::u::u::u::u::u::u::u::u::u::u::u::u::u::u::u::u::u::u::u::u::u::u::u::u::u::u::u::u::u::u::u::u::u::u::u::u::u::u::u::u::u::u::u::u::u::u::u::u::u::u::u::u::u::u::u::u::u::u::u::u::u::u::u::u::u::u::u::u::u::u::u::u::u::u::u::u::u::u::u::u::u::u::u::u::u::u::u::u::u::u::u::u::u::u::u::u::u::u::[]) ∧ Own H (⟨v83, 3, x82.map e_Hello⟩::⟨v86, 3, x85.map e_Hello⟩::⟨v88, 3, x87.map e_Hello⟩::⟨.ptr i0 w0 0 0, 11, [.agg [.int .i64 x74, .int .i64 x75, .int .i64 x76, .int .i64 x77, .int .i64 x78, .int .i64 x79, .int .i64 x80, .int .i64 x81, v83, v86, v88]]⟩::F)) (fun K91 hK91 => ?_) (fun s H hq => ?_)
      · refine w_seq fun K92 hK92 => ?_
        refine w_if ?_
        simp only [W]
        refine w_cnd h (fun hc h => ?_) (fun hc h => ?_)
        · refine w_seq fun K93 hK93 => ?_
          refine w_seq fun K94 hK94 => ?_
          refine w_reg gC ?_
          try simp only [W, EE, Nat.reduceAdd, Nat.reduceBEq, hS.var 3 rfl]
          refine seq_n hK94 ?_
          refine w_if ?_
          simp only [W]
          refine w_cnd h (fun hc h => ?_) (fun hc h => ?_)
          · refine w_seq fun K95 hK95 => ?_
            refine w_reg gC ?_
            try simp only [W, Nat.reduceAdd]
            refine seq_n hK95 ?_
            refine w_ret ?_
            refine seq_r hK93 ?_
            refine seq_r hK92 ?_
            try obtain rfl := Option.some.inj h
            obtain rfl := Option.some.inj g90
            have h : (some (LR.done (false, a0)) : Option (LR (Int × Int × Int × Int × Int × Int × Int × Int × (List Hello) × (List Hello) × (List Hello)) (Bool × Greet))) = some (LR.done (false, a0)) := rfl
            refine cut_r hK91 ?_
            refine blk_r hK55 ?_
            try obtain rfl := Option.some.inj h
            obtain rfl := Option.some.inj g71
            have h : (some (false, a0) : Option (Bool × Greet)) = some (false, a0) := rfl
            refine cut_r hK72 ?_
            refine seq_r hK53 ?_
            refine fin_r1 hK0 rfl ?_
            try obtain rfl := Option.some.inj h
            exact hP _ qm108 _ qm109 _ qm110 _ (hS.sel 5 [3, 0, 1, 2] (by decide))
          · refine w_skip ?_
            refine seq_n hK93 ?_
            refine w_seq fun K100 hK100 => ?_
            refine w_reg gC ?_
            try simp only [W, EE, Nat.reduceAdd, Nat.reduceBEq, hS.var 3 rfl]
            refine w_stv (a := .int .i64 (IntKind.i64.wrap (a0.LastX + 1))) (y' := .agg [.int .i64 a0.StateA, .int .i64 a0.StateB, .int .i64 a0.X, .int .i64 a0.Y, .int .i64 a0.OfX, .int .i64 a0.OfY, .int .i64 (IntKind.i64.wrap (a0.LastX + 1)), .int .i64 a0.LastY, m108, m109, m110]) 3 hS rfl rfl rfl rfl rfl rfl rfl rfl fun H hS => ?_
            try simp only [W]
            refine seq_n hK100 ?_
            refine w_seq fun K101 hK101 => ?_
            refine w_reg gC ?_
            try simp only [W, EE, Nat.reduceAdd, Nat.reduceBEq, hS.var 3 rfl]
            refine w_stv (a := .int .i64 1) (y' := .agg [.int .i64 1, .int .i64 a0.StateB, .int .i64 a0.X, .int .i64 a0.Y, .int .i64 a0.OfX, .int .i64 a0.OfY, .int .i64 (IntKind.i64.wrap (a0.LastX + 1)), .int .i64 a0.LastY, m108, m109, m110]) 3 hS rfl rfl rfl rfl rfl rfl rfl rfl fun H hS => ?_
            try simp only [W, EE, Nat.reduceAdd, Nat.reduceBEq, hS.var 3 rfl]
            refine w_stv (a := .int .i64 (IntKind.i64.wrap (a0.LastX + 1))) (y' := .agg [.int .i64 1, .int .i64 a0.StateB, .int .i64 (IntKind.i64.wrap (a0.LastX + 1)), .int .i64 a0.Y, .int .i64 a0.OfX, .int .i64 a0.OfY, .int .i64 (IntKind.i64.wrap (a0.LastX + 1)), .int .i64 a0.LastY, m108, m109, m110]) 3 hS rfl rfl rfl rfl rfl rfl rfl rfl fun H hS => ?_
            try simp only [W, EE, Nat.reduceAdd, Nat.reduceBEq, hS.var 3 rfl]
            refine w_stv (a := .int .i64 0) (y' := .agg [.int .i64 1, .int .i64 a0.StateB, .int .i64 (IntKind.i64.wrap (a0.LastX + 1)), .int .i64 a0.Y, .int .i64 a0.OfX, .int .i64 0, .int .i64 (IntKind.i64.wrap (a0.LastX + 1)), .int .i64 a0.LastY, m108, m109, m110]) 3 hS rfl rfl rfl rfl rfl rfl rfl rfl fun H hS => ?_
            try simp only [W]
            refine seq_n hK101 ?_
            refine w_reg gC ?_
            try simp only [W, EE, Nat.reduceAdd, Nat.reduceBEq, hS.var 3 rfl]
            refine w_bld rfl rfl rfl rfl rfl ?_
            try simp only [W]
            refine w_call h fun b102 hb102 h => ?_
            refine impl_Greet_goes_w hb102 (hS.sel 5 [3, 0, 1, 2, 4] (by decide)) qm108 qm109 qm110 fun v103 qv103 v104 qv104 v105 qv105 H hS => ?_
            try simp only [W]
            refine seq_n hK92 ?_
            refine w_killE (s' := (.ptr i0 w0 0 0::u::u::u::u::u::u::u::u::u::u::u::u::u::u::u::u::u::u::u::u::u::u::u::u::u::u::u::u::u::u::u::u::u::u::u::u::u::u::u::u::u::u::u::u::u::u::u::u::u::u::u::u::u::u::u::u::u::u::u::u::u::u::u::u::u::u::u::u::u::u::u::u::u::u::u::u::u::u::u::u::u::u::u::u::u::u::u::u::u::u::u::u::u::u::u::u::u::u::u::u::u::u::u::u::u::u::u::u::u::u::u::u::u::u::u::u::u::u::u::u::u::u::u::u::u::u::u::u::u::u::u::u::u::u::u::u::u::u::u::u::u::u::u::u::u::u::u::u::u::u::u::u::u::u::u::u::u::u::u::u::u::u::u::u::u::u::u::u::u::u::u::u::u::u::[])) rfl ?_
            exact cut_n hK91 ⟨_, _, _, _, _, _, _, _, _, _, _, (Option.some.inj h).symm, _, qv103, _, qv104, _, qv105, rfl, (hS.sel 5 [1, 2, 3, 0] (by decide))⟩
        · refine w_seq fun K106 hK106 => ?_
          refine w_seq fun K107 hK107 => ?_
          refine w_reg gC ?_
          try simp only [W, EE, Nat.reduceAdd]
          refine seq_n hK107 ?_
          obtain ⟨y109, h, g110⟩ := Option.bind_eq_some_iff.1 h
          refine w_join gC (fun s H => ∃ x108 : Bool, y109 = (x108) ∧ s = (.ptr i0 w0 0 0::u::u::.ptr ip2 wp2 0 0::u::u::u::u::u::u::u::u::u::u::u::u::u::u::u::u::u::u::u::u::u::u::u::u::u::.int .i64 a1.Kind::u::u::u::u::u::u::u::u::u::u::u::u::u::u::u::u::u::u::u::u::u::u::u::u::u::u::u::u::u::u::u::u::u::u::.bool x108::u::u::u::u::u::u::u::u::u::u::u::u::u::u::u::u::u::u::u::u::u::u::u::u::u::u::u::u::u::u::u::u::u::u::u::u::u::u::u::u::u::u::u::u::u::u::u::u::u::u::u::u::u::u::u::u::u::u::u::u::u::u::u::u::u::u::u::u::u::u::u::u::u::u::u::u::u::u::u::u::u::u::u::u::u::u::u::u::u::u::u::u::u::u::u::u::u::u::u::u::u::u::u::u::u::u::u::u::u::u::[]) ∧ Own H (⟨m108, 3, a0.Line.map e_Hello⟩::⟨m109, 3, a0.OpenedA.map e_Hello⟩::⟨m110, 3, a0.OpenedB.map e_Hello⟩::⟨.ptr i0 w0 0 0, 11, [.agg [.int .i64 a0.StateA, .int .i64 a0.StateB, .int .i64 a0.X, .int .i64 a0.Y, .int .i64 a0.OfX, .int .i64 a0.OfY, .int .i64 a0.LastX, .int .i64 a0.LastY, m108, m109, m110]]⟩::⟨.ptr ip2 wp2 0 0, 2, [.agg [.int .i64 a1.Kind, .int .i64 a1.K]]⟩::F)) (fun K111 hK111 => ?_) (fun s H hq => ?_)
          · refine w_seq fun K112 hK112 => ?_
            refine w_if ?_
            simp only [W]
            refine w_cnd h (fun hc h => ?_) (fun hc h => ?_)
            · refine w_skip ?_
              refine seq_n hK112 ?_
              refine w_killE (s' := (.ptr i0 w0 0 0::u::u::.ptr ip2 wp2 0 0::u::u::u::u::u::u::u::u::u::u::u::u::u::u::u::u::u::u::u::u::u::u::u::u::u::.int .i64 a1.Kind::u::u::u::u::u::u::u::u::u::u::u::u::u::u::u::u::u::u::u::u::u::u::u::u::u::u::u::u::u::u::u::u::u::u::.bool (a1.Kind == 2)::u::u::u::u::u::u::u::u::u::u::u::u::u::u::u::u::u::u::u::u::u::u::u::u::u::u::u::u::u::u::u::u::u::u::u::u::u::u::u::u::u::u::u::u::u::u::u::u::u::u::u::u::u::u::u::u::u::u::u::u::u::u::u::u::u::u::u::u::u::u::u::u::u::u::u::u::u::u::u::u::u::u::u::u::u::u::u::u::u::u::u::u::u::u::u::u::u::u::u::u::u::u::u::u::u::u::u::u::u::u::[])) rfl ?_
              exact cut_n hK111 ⟨_, (Option.some.inj h).symm, rfl, hS⟩
            · refine w_reg gC ?_
              try simp only [W, EE, Nat.reduceAdd]
              refine seq_n hK112 ?_
              refine w_killE (s' := (.ptr i0 w0 0 0::u::u::.ptr ip2 wp2 0 0::u::u::u::u::u::u::u::u::u::u::u::u::u::u::u::u::u::u::u::u::u::u::u::u::u::.int .i64 a1.Kind::u::u::u::u::u::u::u::u::u::u::u::u::u::u::u::u::u::u::u::u::u::u::u::u::u::u::u::u::u::u::u::u::u::u::.bool (a1.Kind == 3)::u::u::u::u::u::u::u::u::u::u::u::u::u::u::u::u::u::u::u::u::u::u::u::u::u::u::u::u::u::u::u::u::u::u::u::u::u::u::u::u::u::u::u::u::u::u::u::u::u::u::u::u::u::u::u::u::u::u::u::u::u::u::u::u::u::u::u::u::u::u::u::u::u::u::u::u::u::u::u::u::u::u::u::u::u::u::u::u::u::u::u::u::u::u::u::u::u::u::u::u::u::u::u::u::u::u::u::u::u::u::[])) rfl ?_
              exact cut_n hK111 ⟨_, (Option.some.inj h).symm, rfl, hS⟩
          · obtain ⟨x108, ey, rfl, hS⟩ := hq; obtain rfl := ey.symm
            replace h := g110
            try dsimp only at h
            refine seq_n hK106 ?_
            obtain ⟨y128, h, g129⟩ := Option.bind_eq_some_iff.1 h
            refine w_join gC (fun s H => ∃ x113 : Int, ∃ x114 : Int, ∃ x115 : Int, ∃ x116 : Int, ∃ x117 : Int, ∃ x118 : Int, ∃ x119 : Int, ∃ x120 : Int, ∃ x121 : List Hello, ∃ x124 : List Hello, ∃ x126 : List Hello, y128 = LR.next (x113, x114, x115, x116, x117, x118, x119, x120, x121, x124, x126) ∧ ∃ v122 : AV, isSl v122 ∧ ∃ v125 : AV, isSl v125 ∧ ∃ v127 : AV, isSl v127 ∧ s = (.ptr i0 w0 0 0::u::u::.ptr ip2 wp2 0 0::u::u::u::u::u::u::u::u::u::u::u::u::u::u::u::u::u::u::u::u::u::u::u::u::u::.int .i64 a1.Kind::u::u::u::u::u::u::u::u::u::u::u::u::u::u::u::u::u::u::u::u::u::u::u::u::u::u::u::u::u::u::u::u::u::u::.bool x108::u::u::u::u::u::u::u::u::u::u::u::u::u::u::u::u::u::u::u::u::u::u::u::u::u::u::u::u::u::u::u::u::u::u::u::u::u::u::u::u::u::u::u::u::u::u::u::u::u::u::u::u::u::u::u::u::u::u::u::u::u::u::u::u::u::u::u::u::u::u::u::u::u::u::u::u::u::u::u::u::u::u::u::u::u::u::u::u::u::u::u::u::u::u::u::u::u::u::u::u::u::u::u::u::u::u::u::u::u::u::[]) ∧ Own H (⟨v122, 3, x121.map e_Hello⟩::⟨v125, 3, x124.map e_Hello⟩::⟨v127, 3, x126.map e_Hello⟩::⟨.ptr i0 w0 0 0, 11, [.agg [.int .i64 x113, .int .i64 x114, .int .i64 x115, .int .i64 x116, .int .i64 x117, .int .i64 x118, .int .i64 x119, .int .i64 x120, v122, v125, v127]]⟩::⟨.ptr ip2 wp2 0 0, 2, [.agg [.int .i64 a1.Kind, .int .i64 a1.K]]⟩::F)) (fun K130 hK130 => ?_) (fun s H hq => ?_)
            · refine w_seq fun K131 hK131 => ?_
              refine w_if ?_
              simp only [W]
              refine w_cnd h (fun hc h => ?_) (fun hc h => ?_)
              · refine w_seq fun K132 hK132 => ?_
                refine w_drawL gC [(9, [])] (by kernel_rfl) rfl (by kernel_rfl) ?_
                try simp only [W, EE, reduceIte, Nat.reduceAdd, Nat.reduceBEq, hS.var 3 rfl, hS.var 4 rfl, tabAt, qAt, Nat.reduceEqDiff]
                refine w_ow 0 hS rfl rfl rfl rfl rfl h (fun b133 in134 wn134 on134 hb133 h en134 => ?_) qm108.ne
                obtain ⟨kn134, hbn134, hen134⟩ := hS.elem 0 rfl en134 hb133
                try simp only [W, EE, EN, reduceIte, Nat.reduceAdd, Nat.reduceLeDiff, hbn134, hen134]
                refine w_alloc hS rfl rfl fun ip135 wp135 H hS => ?_
                try simp only [W]
                refine w_stv (a := .agg [.int .i64 b133.Kind, .int .i64 b133.X, .int .i64 b133.Y]) (y' := .agg [.int .i64 b133.Kind, .int .i64 b133.X, .int .i64 b133.Y]) 0 hS rfl rfl rfl rfl rfl rfl rfl rfl fun H hS => ?_
                try simp only [W]
                refine seq_n hK132 ?_
                refine w_seq fun K137 hK137 => ?_
                refine w_drawL gC [(10, [0]), (13, [])] (by kernel_rfl) rfl (by kernel_rfl) ?_
                try simp only [W, EE, reduceIte, Nat.reduceAdd, Nat.reduceBEq, hS.var 4 rfl, hS.var 5 rfl, tabAt, qAt, Nat.reduceEqDiff]
                refine w_call h fun b138 hb138 h => ?_
                refine slices_Delete_impl_Hello_w hb138 (hS.sel 6 [1, 0, 2, 3, 4, 5] (by decide)) qm108 fun v139 qv139 H hS => ?_
                refine goK_late ?_
                refine lateG_s (by first | rfl | (simp [evalOp, W, EE, EN, rdAt, mkT, subL, AV.cells, hS.var 1 rfl, hS.var 4 rfl, hS.var 5 rfl]; done)) ?_
                refine lateG_n ?_
                try simp only [W, EE, Nat.reduceAdd, Nat.reduceBEq, hS.var 4 rfl]
                refine w_stv (a := v139) (y' := .agg [.int .i64 a0.StateA, .int .i64 a0.StateB, .int .i64 a0.X, .int .i64 a0.Y, .int .i64 a0.OfX, .int .i64 a0.OfY, .int .i64 a0.LastX, .int .i64 a0.LastY, v139, m109, m110]) 4 hS rfl rfl rfl rfl (by rw [qv139.cells]; rfl) qv139.stora (qv139.wr _ _ (by simp)) rfl fun H hS => ?_
                try simp only [W]
                refine seq_n hK137 ?_
                refine w_seq fun K141 hK141 => ?_
                refine w_reg gC ?_
                try simp only [W, EE, Nat.reduceAdd, Nat.reduceBEq, hS.var 5 rfl]
                refine seq_n hK141 ?_
                obtain ⟨y156, h, g157⟩ := Option.bind_eq_some_iff.1 h
                refine w_join gC (fun s H => ∃ x142 : Int, ∃ x143 : Int, ∃ x144 : Int, ∃ x145 : Int, ∃ x146 : Int, ∃ x147 : Int, ∃ x148 : Int, ∃ x149 : Int, ∃ x150 : List Hello, ∃ x152 : List Hello, ∃ x154 : List Hello, y156 = (x142, x143, x144, x145, x146, x147, x148, x149, x150, x152, x154) ∧ ∃ v151 : AV, isSl v151 ∧ ∃ v153 : AV, isSl v153 ∧ ∃ v155 : AV, isSl v155 ∧ s = (.ptr i0 w0 0 0::u::u::.ptr ip2 wp2 0 0::u::u::u::u::u::u::u::u::u::u::u::u::u::u::u::u::u::u::u::u::u::u::u::u::u::.int .i64 a1.Kind::u::u::u::u::u::u::u::u::u::u::u::u::u::u::u::u::u::u::u::u::u::u::u::u::u::u::u::u::u::u::u::u::u::u::.bool x108::u::u::u::u::u::u::u::u::u::u::u::u::u::u::u::u::u::u::u::u::u::u::u::u::u::u::u::u::u::u::u::u::u::u::u::u::u::u::u::u::u::u::u::u::u::u::u::u::u::u::u::u::u::u::u::u::u::u::u::u::u::u::u::u::u::u::u::u::u::u::u::u::u::u::u::u::u::u::u::u::u::u::u::u::u::u::u::u::u::u::u::u::u::u::u::u::u::u::u::u::u::u::u::u::u::u::u::u::u::u::[]) ∧ Own H (⟨v151, 3, x150.map e_Hello⟩::⟨v153, 3, x152.map e_Hello⟩::⟨v155, 3, x154.map e_Hello⟩::⟨.ptr i0 w0 0 0, 11, [.agg [.int .i64 x142, .int .i64 x143, .int .i64 x144, .int .i64 x145, .int .i64 x146, .int .i64 x147, .int .i64 x148, .int .i64 x149, v151, v153, v155]]⟩::⟨.ptr ip2 wp2 0 0, 2, [.agg [.int .i64 a1.Kind, .int .i64 a1.K]]⟩::F)) (fun K158 hK158 => ?_) (fun s H hq => ?_)
                · refine w_seq fun K159 hK159 => ?_
                  refine w_if ?_
                  simp only [W]
                  refine w_cnd h (fun hc h => ?_) (fun hc h => ?_)
                  · refine w_reg gC ?_
                    try simp only [W, EE, reduceIte, Nat.reduceAdd, Nat.reduceLeDiff, hS.var 1 rfl]
                    refine w_call h fun b160 hb160 h => ?_
                    refine impl_Greet_take_w hb160 (hS.sel 6 [4, 0, 2, 3, 1, 5] (by decide)) qv139 qm109 qm110 fun v161 qv161 v162 qv162 v163 qv163 H hS => ?_
                    try simp only [W]
                    refine seq_n hK159 ?_
                    refine w_killE (s' := (.ptr i0 w0 0 0::u::u::.ptr ip2 wp2 0 0::u::u::u::u::u::u::u::u::u::u::u::u::u::u::u::u::u::u::u::u::u::u::u::u::u::.int .i64 a1.Kind::u::u::u::u::u::u::u::u::u::u::u::u::u::u::u::u::u::u::u::u::u::u::u::u::u::u::u::u::u::u::u::u::u::u::.bool x108::u::u::u::u::u::u::u::u::u::u::u::u::u::u::u::u::u::u::u::u::u::u::u::u::u::u::u::u::u::u::u::u::u::u::u::u::u::u::u::u::u::u::u::u::u::u::u::u::u::u::u::u::u::u::u::u::u::u::u::u::u::u::u::u::u::u::u::u::u::u::u::u::u::u::u::u::u::u::u::u::u::u::u::u::u::u::u::u::u::u::u::u::u::u::u::u::u::u::u::u::u::u::u::u::u::u::u::u::u::u::[])) rfl ?_
                    exact cut_n hK158 ⟨_, _, _, _, _, _, _, _, _, _, _, (Option.some.inj h).symm, _, qv161, _, qv162, _, qv163, rfl, (hS.sel 6 [1, 2, 3, 0, 5] (by decide))⟩
                  · refine w_skip ?_
                    refine seq_n hK159 ?_
                    refine w_killE (s' := (.ptr i0 w0 0 0::u::u::.ptr ip2 wp2 0 0::u::u::u::u::u::u::u::u::u::u::u::u::u::u::u::u::u::u::u::u::u::u::u::u::u::.int .i64 a1.Kind::u::u::u::u::u::u::u::u::u::u::u::u::u::u::u::u::u::u::u::u::u::u::u::u::u::u::u::u::u::u::u::u::u::u::.bool x108::u::u::u::u::u::u::u::u::u::u::u::u::u::u::u::u::u::u::u::u::u::u::u::u::u::u::u::u::u::u::u::u::u::u::u::u::u::u::u::u::u::u::u::u::u::u::u::u::u::u::u::u::u::u::u::u::u::u::u::u::u::u::u::u::u::u::u::u::u::u::u::u::u::u::u::u::u::u::u::u::u::u::u::u::u::u::u::u::u::u::u::u::u::u::u::u::u::u::u::u::u::u::u::u::u::u::u::u::u::u::[])) rfl ?_
                    exact cut_n hK158 ⟨_, _, _, _, _, _, _, _, _, _, _, (Option.some.inj h).symm, _, qv139, _, qm109, _, qm110, rfl, (hS.sel 6 [0, 2, 3, 4, 5] (by decide))⟩
                · obtain ⟨x142, x143, x144, x145, x146, x147, x148, x149, x150, x152, x154, rfl, v151, qv151, v153, qv153, v155, qv155, rfl, hS⟩ := hq
                  replace h := g157
                  try dsimp only at h
                  refine seq_n hK131 ?_
                  refine w_killE (s' := (.ptr i0 w0 0 0::u::u::.ptr ip2 wp2 0 0::u::u::u::u::u::u::u::u::u::u::u::u::u::u::u::u::u::u::u::u::u::u::u::u::u::.int .i64 a1.Kind::u::u::u::u::u::u::u::u::u::u::u::u::u::u::u::u::u::u::u::u::u::u::u::u::u::u::u::u::u::u::u::u::u::u::.bool x108::u::u::u::u::u::u::u::u::u::u::u::u::u::u::u::u::u::u::u::u::u::u::u::u::u::u::u::u::u::u::u::u::u::u::u::u::u::u::u::u::u::u::u::u::u::u::u::u::u::u::u::u::u::u::u::u::u::u::u::u::u::u::u::u::u::u::u::u::u::u::u::u::u::u::u::u::u::u::u::u::u::u::u::u::u::u::u::u::u::u::u::u::u::u::u::u::u::u::u::u::u::u::u::u::u::u::u::u::u::u::[])) rfl ?_
                  exact cut_n hK130 ⟨_, _, _, _, _, _, _, _, _, _, _, (Option.some.inj h).symm, _, qv151, _, qv153, _, qv155, rfl, hS⟩
              · refine w_seq fun K164 hK164 => ?_
                refine w_reg gC ?_
                try simp only [W, EE, Nat.reduceAdd]
                refine seq_n hK164 ?_
                obtain ⟨y174, h, g175⟩ := Option.bind_eq_some_iff.1 h
                refine w_join gC (fun s H => ∃ x165 : Int, ∃ x166 : Int, ∃ x167 : Int, ∃ x168 : Int, ∃ x169 : Int, ∃ x170 : Int, ∃ x171 : List Hello, y174 = LR.next (x165, x166, x167, x168, x169, x170, x171) ∧ ∃ v172 : AV, isSl v172 ∧ s = (.ptr i0 w0 0 0::u::u::.ptr ip2 wp2 0 0::u::u::u::u::u::u::u::u::u::u::u::u::u::u::u::u::u::u::u::u::u::u::u::u::u::.int .i64 a1.Kind::u::u::u::u::u::u::u::u::u::u::u::u::u::u::u::u::u::u::u::u::u::u::u::u::u::u::u::u::u::u::u::u::u::u::.bool x108::u::u::u::u::u::u::u::u::u::u::u::u::u::u::u::u::u::u::u::u::u::u::u::u::u::u::u::u::u::u::u::u::u::u::u::u::u::u::u::u::u::u::u::u::u::u::u::u::u::u::u::u::u::u::u::u::u::u::u::u::u::u::u::u::u::u::u::u::u::u::u::u::u::u::u::u::u::u::u::u::u::u::u::u::u::u::u::u::u::u::u::u::u::u::u::u::u::u::u::u::u::u::u::u::u::u::u::u::u::u::[]) ∧ Own H (⟨v172, 3, x171.map e_Hello⟩::⟨m109, 3, a0.OpenedA.map e_Hello⟩::⟨m110, 3, a0.OpenedB.map e_Hello⟩::⟨.ptr i0 w0 0 0, 11, [.agg [.int .i64 x165, .int .i64 x166, .int .i64 x167, .int .i64 x168, .int .i64 x169, .int .i64 x170, .int .i64 a0.LastX, .int .i64 a0.LastY, v172, m109, m110]]⟩::⟨.ptr ip2 wp2 0 0, 2, [.agg [.int .i64 a1.Kind, .int .i64 a1.K]]⟩::F)) (fun K176 hK176 => ?_) (fun s H hq => ?_)
                · refine w_seq fun K177 hK177 => ?_
                  refine w_if ?_
                  simp only [W]
                  refine w_cnd h (fun hc h => ?_) (fun hc h => ?_)
                  · refine w_seq fun K178 hK178 => ?_
                    refine w_seq fun K179 hK179 => ?_
                    refine w_reg gC ?_
                    try simp only [W, EE, Nat.reduceAdd, Nat.reduceBEq, hS.var 3 rfl]
                    refine w_len 0 hS rfl qm108 rfl ?_
                    try simp only [W, EE]
                    refine seq_n hK179 ?_
                    refine w_if ?_
                    simp only [W]
                    refine w_cnd h (fun hc h => ?_) (fun hc h => ?_)
                    · refine w_seq fun K180 hK180 => ?_
                      refine w_reg gC ?_
                      try simp only [W, Nat.reduceAdd]
                      refine seq_n hK180 ?_
                      refine w_ret ?_
                      refine seq_r hK178 ?_
                      refine seq_r hK177 ?_
                      try obtain rfl := Option.some.inj h
                      obtain rfl := Option.some.inj g175
                      have h : (some (LR.done (LR.done (LR.done (false, a0)))) : Option (LR (Int × Int × Int × Int × Int × Int × Int × Int × (List Hello) × (List Hello) × (List Hello)) (LR (Int × Int × Int × Int × Int × Int × Int × Int × (List Hello) × (List Hello) × (List Hello)) (LR (Int × Int × Int × Int × Int × Int × Int × Int × (List Hello) × (List Hello) × (List Hello)) (Bool × Greet))))) = some (LR.done (LR.done (LR.done (false, a0)))) := rfl
                      refine cut_r hK176 ?_
                      refine seq_r hK131 ?_
                      try obtain rfl := Option.some.inj h
                      obtain rfl := Option.some.inj g129
                      have h : (some (LR.done (LR.done (false, a0))) : Option (LR (Int × Int × Int × Int × Int × Int × Int × Int × (List Hello) × (List Hello) × (List Hello)) (LR (Int × Int × Int × Int × Int × Int × Int × Int × (List Hello) × (List Hello) × (List Hello)) (Bool × Greet)))) = some (LR.done (LR.done (false, a0))) := rfl
                      refine cut_r hK130 ?_
                      refine seq_r hK92 ?_
                      try obtain rfl := Option.some.inj h
                      obtain rfl := Option.some.inj g90
                      have h : (some (LR.done (false, a0)) : Option (LR (Int × Int × Int × Int × Int × Int × Int × Int × (List Hello) × (List Hello) × (List Hello)) (Bool × Greet))) = some (LR.done (false, a0)) := rfl
                      refine cut_r hK91 ?_
                      refine blk_r hK55 ?_
                      try obtain rfl := Option.some.inj h
                      obtain rfl := Option.some.inj g71
                      have h : (some (false, a0) : Option (Bool × Greet)) = some (false, a0) := rfl
                      refine cut_r hK72 ?_
                      refine seq_r hK53 ?_
                      refine fin_r1 hK0 rfl ?_
                      try obtain rfl := Option.some.inj h
                      exact hP _ qm108 _ qm109 _ qm110 _ (hS.sel 5 [3, 0, 1, 2] (by decide))
                    · refine w_skip ?_
                      refine seq_n hK178 ?_
                      refine w_drawL gC [(14, [0]), (17, [])] (by kernel_rfl) rfl (by kernel_rfl) ?_
                      try simp only [W, EE, reduceIte, Nat.reduceAdd, Nat.reduceBEq, hS.var 3 rfl, hS.var 4 rfl, tabAt, qAt, Nat.reduceEqDiff]
                      refine w_ow 0 hS rfl rfl rfl rfl rfl h (fun b189 in190 wn190 on190 hb189 h en190 => ?_) qm108.ne
                      obtain ⟨kn190, hbn190, hen190⟩ := hS.elem 0 rfl en190 hb189
                      try simp only [W, EE, EN, reduceIte, Nat.reduceAdd, Nat.reduceLeDiff, hbn190, hen190]
                      refine w_lit (el := ([b189] : List Hello).map e_Hello) hS rfl rfl rfl rfl rfl rfl rfl fun v191 H qv191 hS => ?_
                      try simp only [W, EE]
                      refine w_appV (l := a0.Line) (c := e_Hello) 1 hS rfl qm108 rfl rfl rfl (hS.elems 0 rfl qv191) (fun _ => rfl) rfl h fun v194 H x193 qv194 hm h hS => ?_
                      refine goK_late ?_
                      refine lateG_s (by first | rfl | (simp [evalOp, W, EE, EN, rdAt, mkT, subL, AV.cells, hS.var 4 rfl, hS.var 5 rfl]; done)) ?_
                      refine lateG_n ?_
                      try simp only [W, EE, Nat.reduceAdd, Nat.reduceBEq, hS.var 4 rfl]
                      refine w_stv (a := v194) (y' := .agg [.int .i64 a0.StateA, .int .i64 a0.StateB, .int .i64 a0.X, .int .i64 a0.Y, .int .i64 a0.OfX, .int .i64 a0.OfY, .int .i64 a0.LastX, .int .i64 a0.LastY, v194, m109, m110]) 4 hS rfl rfl rfl rfl (by rw [qv194.cells]; rfl) qv194.stora (qv194.wr _ _ (by simp)) rfl fun H hS => ?_
                      try simp only [W]
                      refine seq_n hK177 ?_
                      refine w_killE (s' := (.ptr i0 w0 0 0::u::u::.ptr ip2 wp2 0 0::u::u::u::u::u::u::u::u::u::u::u::u::u::u::u::u::u::u::u::u::u::u::u::u::u::.int .i64 a1.Kind::u::u::u::u::u::u::u::u::u::u::u::u::u::u::u::u::u::u::u::u::u::u::u::u::u::u::u::u::u::u::u::u::u::u::.bool x108::u::u::u::u::u::u::u::u::u::u::u::u::u::u::u::u::u::u::u::u::u::u::u::u::u::u::u::u::u::u::u::u::u::u::u::u::u::u::u::u::u::u::u::u::u::u::u::u::u::u::u::u::u::u::u::u::u::u::u::u::u::u::u::u::u::u::u::u::u::u::u::u::u::u::u::u::u::u::u::u::u::u::u::u::u::u::u::u::u::u::u::u::u::u::u::u::u::u::u::u::u::u::u::u::u::u::u::u::u::u::[])) rfl ?_
                      exact cut_n hK176 ⟨_, _, _, _, _, _, _, (Option.some.inj h).symm, _, qv194, rfl, (hS.sel 6 [1, 2, 3, 4, 5] (by decide))⟩
                  · refine w_seq fun K196 hK196 => ?_
                    refine w_reg gC ?_
                    try simp only [W, EE, Nat.reduceAdd]
                    refine seq_n hK196 ?_
                    obtain ⟨y203, h, g204⟩ := Option.bind_eq_some_iff.1 h
                    refine w_join gC (fun s H => ∃ x197 : Int, ∃ x198 : Int, ∃ x199 : Int, ∃ x200 : Int, ∃ x201 : Int, ∃ x202 : Int, y203 = LR.next (x197, x198, x199, x200, x201, x202) ∧ s = (.ptr i0 w0 0 0::u::u::.ptr ip2 wp2 0 0::u::u::u::u::u::u::u::u::u::u::u::u::u::u::u::u::u::u::u::u::u::u::u::u::u::.int .i64 a1.Kind::u::u::u::u::u::u::u::u::u::u::u::u::u::u::u::u::u::u::u::u::u::u::u::u::u::u::u::u::u::u::u::u::u::u::.bool x108::u::u::u::u::u::u::u::u::u::u::u::u::u::u::u::u::u::u::u::u::u::u::u::u::u::u::u::u::u::u::u::u::u::u::u::u::u::u::u::u::u::u::u::u::u::u::u::u::u::u::u::u::u::u::u::u::u::u::u::u::u::u::u::u::u::u::u::u::u::u::u::u::u::u::u::u::u::u::u::u::u::u::u::u::u::u::u::u::u::u::u::u::u::u::u::u::u::u::u::u::u::u::u::u::u::u::u::u::u::u::[]) ∧ Own H (⟨m108, 3, a0.Line.map e_Hello⟩::⟨m109, 3, a0.OpenedA.map e_Hello⟩::⟨m110, 3, a0.OpenedB.map e_Hello⟩::⟨.ptr i0 w0 0 0, 11, [.agg [.int .i64 x197, .int .i64 x198, .int .i64 x199, .int .i64 x200, .int .i64 x201, .int .i64 x202, .int .i64 a0.LastX, .int .i64 a0.LastY, m108, m109, m110]]⟩::⟨.ptr ip2 wp2 0 0, 2, [.agg [.int .i64 a1.Kind, .int .i64 a1.K]]⟩::F)) (fun K205 hK205 => ?_) (fun s H hq => ?_)
                    · refine w_seq fun K206 hK206 => ?_
                      refine w_if ?_
                      simp only [W]
                      refine w_cnd h (fun hc h => ?_) (fun hc h => ?_)
                      · refine w_seq fun K207 hK207 => ?_
                        refine w_seq fun K208 hK208 => ?_
                        refine w_reg gC ?_
                        try simp only [W, EE, Nat.reduceAdd, Nat.reduceBEq, hS.var 3 rfl]
                        refine seq_n hK208 ?_
                        refine w_if ?_
                        simp only [W]
                        refine w_cnd h (fun hc h => ?_) (fun hc h => ?_)
                        · refine w_seq fun K209 hK209 => ?_
                          refine w_reg gC ?_
                          try simp only [W, Nat.reduceAdd]
                          refine seq_n hK209 ?_
                          refine w_ret ?_
                          refine seq_r hK207 ?_
                          refine seq_r hK206 ?_
                          try obtain rfl := Option.some.inj h
                          obtain rfl := Option.some.inj g204
                          have h : (some (LR.done (LR.done (LR.done (LR.done (false, a0))))) : Option (LR (Int × Int × Int × Int × Int × Int × (List Hello)) (LR (Int × Int × Int × Int × Int × Int × Int × Int × (List Hello) × (List Hello) × (List Hello)) (LR (Int × Int × Int × Int × Int × Int × Int × Int × (List Hello) × (List Hello) × (List Hello)) (LR (Int × Int × Int × Int × Int × Int × Int × Int × (List Hello) × (List Hello) × (List Hello)) (Bool × Greet)))))) = some (LR.done (LR.done (LR.done (LR.done (false, a0))))) := rfl
                          refine cut_r hK205 ?_
                          refine seq_r hK177 ?_
                          try obtain rfl := Option.some.inj h
                          obtain rfl := Option.some.inj g175
                          have h : (some (LR.done (LR.done (LR.done (false, a0)))) : Option (LR (Int × Int × Int × Int × Int × Int × Int × Int × (List Hello) × (List Hello) × (List Hello)) (LR (Int × Int × Int × Int × Int × Int × Int × Int × (List Hello) × (List Hello) × (List Hello)) (LR (Int × Int × Int × Int × Int × Int × Int × Int × (List Hello) × (List Hello) × (List Hello)) (Bool × Greet))))) = some (LR.done (LR.done (LR.done (false, a0)))) := rfl
                          refine cut_r hK176 ?_
                          refine seq_r hK131 ?_
                          try obtain rfl := Option.some.inj h
                          obtain rfl := Option.some.inj g129
                          have h : (some (LR.done (LR.done (false, a0))) : Option (LR (Int × Int × Int × Int × Int × Int × Int × Int × (List Hello) × (List Hello) × (List Hello)) (LR (Int × Int × Int × Int × Int × Int × Int × Int × (List Hello) × (List Hello) × (List Hello)) (Bool × Greet)))) = some (LR.done (LR.done (false, a0))) := rfl
                          refine cut_r hK130 ?_
                          refine seq_r hK92 ?_
                          try obtain rfl := Option.some.inj h
                          obtain rfl := Option.some.inj g90
                          have h : (some (LR.done (false, a0)) : Option (LR (Int × Int × Int × Int × Int × Int × Int × Int × (List Hello) × (List Hello) × (List Hello)) (Bool × Greet))) = some (LR.done (false, a0)) := rfl
                          refine cut_r hK91 ?_
                          refine blk_r hK55 ?_
                          try obtain rfl := Option.some.inj h
                          obtain rfl := Option.some.inj g71
                          have h : (some (false, a0) : Option (Bool × Greet)) = some (false, a0) := rfl
                          refine cut_r hK72 ?_
                          refine seq_r hK53 ?_
                          refine fin_r1 hK0 rfl ?_
                          try obtain rfl := Option.some.inj h
                          exact hP _ qm108 _ qm109 _ qm110 _ (hS.sel 5 [3, 0, 1, 2] (by decide))
                        · refine w_skip ?_
                          refine seq_n hK207 ?_
                          refine w_reg gC ?_
                          try simp only [W, EE, Nat.reduceAdd, Nat.reduceBEq, hS.var 3 rfl]
                          refine w_stv (a := .int .i64 0) (y' := .agg [.int .i64 a0.StateA, .int .i64 0, .int .i64 a0.X, .int .i64 a0.Y, .int .i64 a0.OfX, .int .i64 a0.OfY, .int .i64 a0.LastX, .int .i64 a0.LastY, m108, m109, m110]) 3 hS rfl rfl rfl rfl rfl rfl rfl rfl fun H hS => ?_
                          try simp only [W, EE, Nat.reduceAdd, Nat.reduceBEq, hS.var 3 rfl]
                          refine w_stv (a := .int .i64 0) (y' := .agg [.int .i64 a0.StateA, .int .i64 0, .int .i64 a0.X, .int .i64 a0.Y, .int .i64 0, .int .i64 a0.OfY, .int .i64 a0.LastX, .int .i64 a0.LastY, m108, m109, m110]) 3 hS rfl rfl rfl rfl rfl rfl rfl rfl fun H hS => ?_
                          try simp only [W, EE, Nat.reduceAdd, Nat.reduceBEq, hS.var 3 rfl]
                          refine w_stv (a := .int .i64 0) (y' := .agg [.int .i64 a0.StateA, .int .i64 0, .int .i64 a0.X, .int .i64 0, .int .i64 0, .int .i64 a0.OfY, .int .i64 a0.LastX, .int .i64 a0.LastY, m108, m109, m110]) 3 hS rfl rfl rfl rfl rfl rfl rfl rfl fun H hS => ?_
                          try simp only [W]
                          refine seq_n hK206 ?_
                          refine w_killE (s' := (.ptr i0 w0 0 0::u::u::.ptr ip2 wp2 0 0::u::u::u::u::u::u::u::u::u::u::u::u::u::u::u::u::u::u::u::u::u::u::u::u::u::.int .i64 a1.Kind::u::u::u::u::u::u::u::u::u::u::u::u::u::u::u::u::u::u::u::u::u::u::u::u::u::u::u::u::u::u::u::u::u::u::.bool x108::u::u::u::u::u::u::u::u::u::u::u::u::u::u::u::u::u::u::u::u::u::u::u::u::u::u::u::u::u::u::u::u::u::u::u::u::u::u::u::u::u::u::u::u::u::u::u::u::u::u::u::u::u::u::u::u::u::u::u::u::u::u::u::u::u::u::u::u::u::u::u::u::u::u::u::u::u::u::u::u::u::u::u::u::u::u::u::u::u::u::u::u::u::u::u::u::u::u::u::u::u::u::u::u::u::u::u::u::u::u::[])) rfl ?_
                          exact cut_n hK205 ⟨_, _, _, _, _, _, (Option.some.inj h).symm, rfl, hS⟩
                      · refine w_seq fun K220 hK220 => ?_
                        refine w_reg gC ?_
                        try simp only [W, EE, Nat.reduceAdd]
                        refine seq_n hK220 ?_
                        obtain ⟨y227, h, g228⟩ := Option.bind_eq_some_iff.1 h
                        refine w_join gC (fun s H => ∃ x221 : Int, ∃ x222 : Int, ∃ x223 : Int, ∃ x224 : Int, ∃ x225 : Int, ∃ x226 : Int, y227 = LR.next (x221, x222, x223, x224, x225, x226) ∧ s = (.ptr i0 w0 0 0::u::u::.ptr ip2 wp2 0 0::u::u::u::u::u::u::u::u::u::u::u::u::u::u::u::u::u::u::u::u::u::u::u::u::u::.int .i64 a1.Kind::u::u::u::u::u::u::u::u::u::u::u::u::u::u::u::u::u::u::u::u::u::u::u::u::u::u::u::u::u::u::u::u::u::u::.bool x108::u::u::u::u::u::u::u::u::u::u::u::u::u::u::u::u::u::u::u::u::u::u::u::u::u::u::u::u::u::u::u::u::u::u::u::u::u::u::u::u::u::u::u::u::u::u::u::u::u::u::u::u::u::u::u::u::u::u::u::u::u::u::u::u::u::u::u::u::u::u::u::u::u::u::u::u::u::u::u::u::u::u::u::u::u::u::u::u::u::u::u::u::u::u::u::u::u::u::u::u::u::u::u::u::u::u::u::u::u::u::[]) ∧ Own H (⟨m108, 3, a0.Line.map e_Hello⟩::⟨m109, 3, a0.OpenedA.map e_Hello⟩::⟨m110, 3, a0.OpenedB.map e_Hello⟩::⟨.ptr i0 w0 0 0, 11, [.agg [.int .i64 x221, .int .i64 x222, .int .i64 x223, .int .i64 x224, .int .i64 x225, .int .i64 x226, .int .i64 a0.LastX, .int .i64 a0.LastY, m108, m109, m110]]⟩::⟨.ptr ip2 wp2 0 0, 2, [.agg [.int .i64 a1.Kind, .int .i64 a1.K]]⟩::F)) (fun K229 hK229 => ?_) (fun s H hq => ?_)
                        · refine w_seq fun K230 hK230 => ?_
                          refine w_if ?_
                          simp only [W]
                          refine w_cnd h (fun hc h => ?_) (fun hc h => ?_)
                          · refine w_seq fun K231 hK231 => ?_
                            refine w_reg gC ?_
                            try simp only [W, EE, Nat.reduceAdd, Nat.reduceBEq, hS.var 4 rfl]
                            refine seq_n hK231 ?_
                            obtain ⟨y239, h, g240⟩ := Option.bind_eq_some_iff.1 h
                            refine w_join gC (fun s H => ∃ x233 : Int, ∃ x234 : Int, ∃ x235 : Int, ∃ x236 : Int, ∃ x237 : Int, ∃ x238 : Int, y239 = LR.next (x233, x234, x235, x236, x237, x238) ∧ s = (.ptr i0 w0 0 0::u::u::.ptr ip2 wp2 0 0::u::u::u::u::u::u::u::u::u::u::u::u::u::u::u::u::u::u::u::u::u::u::u::u::u::.int .i64 a1.Kind::u::u::u::u::u::u::u::u::u::u::u::u::u::u::u::u::u::u::u::u::u::u::u::u::u::u::u::u::u::u::u::u::u::u::.bool x108::u::u::u::u::u::u::u::u::u::u::u::u::u::u::u::u::u::u::u::u::u::u::u::u::u::u::u::u::u::u::u::u::u::u::u::u::u::u::u::u::u::u::u::u::u::u::u::u::u::u::u::u::u::u::u::u::u::u::u::u::u::u::u::u::u::u::u::u::u::u::u::u::u::u::u::u::u::u::u::u::u::u::u::u::u::u::u::u::u::u::u::u::u::u::u::u::u::u::u::u::u::u::u::u::u::u::u::u::u::u::[]) ∧ Own H (⟨m108, 3, a0.Line.map e_Hello⟩::⟨m109, 3, a0.OpenedA.map e_Hello⟩::⟨m110, 3, a0.OpenedB.map e_Hello⟩::⟨.ptr i0 w0 0 0, 11, [.agg [.int .i64 x233, .int .i64 x234, .int .i64 x235, .int .i64 x236, .int .i64 x237, .int .i64 x238, .int .i64 a0.LastX, .int .i64 a0.LastY, m108, m109, m110]]⟩::⟨.ptr ip2 wp2 0 0, 2, [.agg [.int .i64 a1.Kind, .int .i64 a1.K]]⟩::F)) (fun K241 hK241 => ?_) (fun s H hq => ?_)
                            · refine w_blk fun K232 hK232 => ?_
                              refine w_seq fun K242 hK242 => ?_
                              refine w_reg gC ?_
                              try simp only [W, EE, Nat.reduceAdd]
                              refine seq_n hK242 ?_
                              obtain ⟨y249, h, g250⟩ := Option.bind_eq_some_iff.1 h
                              refine w_join gC (fun s H => ∃ x243 : Int, ∃ x244 : Int, ∃ x245 : Int, ∃ x246 : Int, ∃ x247 : Int, ∃ x248 : Int, y249 = LR.next (x243, x244, x245, x246, x247, x248) ∧ s = (.ptr i0 w0 0 0::u::u::.ptr ip2 wp2 0 0::u::u::u::u::u::u::u::u::u::u::u::u::u::u::u::u::u::u::u::u::u::u::u::u::u::.int .i64 a1.Kind::u::u::u::u::u::u::u::u::u::u::u::u::u::u::u::u::u::u::u::u::u::u::u::u::u::u::u::u::u::u::u::u::u::u::.bool x108::u::u::u::u::u::u::u::u::u::u::u::u::u::u::u::u::u::u::u::u::u::u::u::u::u::u::u::u::u::u::u::u::u::u::u::u::u::u::u::u::u::u::u::u::u::u::u::u::u::u::u::u::u::u::u::u::u::u::u::u::u::u::u::u::u::u::u::u::u::u::u::u::u::u::u::u::u::u::u::u::u::u::u::u::u::u::u::u::u::u::u::u::u::u::u::u::u::u::u::u::u::u::u::u::u::u::u::u::u::u::[]) ∧ Own H (⟨m108, 3, a0.Line.map e_Hello⟩::⟨m109, 3, a0.OpenedA.map e_Hello⟩::⟨m110, 3, a0.OpenedB.map e_Hello⟩::⟨.ptr i0 w0 0 0, 11, [.agg [.int .i64 x243, .int .i64 x244, .int .i64 x245, .int .i64 x246, .int .i64 x247, .int .i64 x248, .int .i64 a0.LastX, .int .i64 a0.LastY, m108, m109, m110]]⟩::⟨.ptr ip2 wp2 0 0, 2, [.agg [.int .i64 a1.Kind, .int .i64 a1.K]]⟩::F)) (fun K251 hK251 => ?_) (fun s H hq => ?_)
                              · refine w_seq fun K252 hK252 => ?_
                                refine w_if ?_
                                simp only [W]
                                refine w_cnd h (fun hc h => ?_) (fun hc h => ?_)
                                · refine w_reg gC ?_
                                  try simp only [W, EE, Nat.reduceAdd, Nat.reduceBEq, hS.var 3 rfl]
                                  refine w_stv (a := .int .i64 0) (y' := .agg [.int .i64 0, .int .i64 a0.StateB, .int .i64 a0.X, .int .i64 a0.Y, .int .i64 a0.OfX, .int .i64 a0.OfY, .int .i64 a0.LastX, .int .i64 a0.LastY, m108, m109, m110]) 3 hS rfl rfl rfl rfl rfl rfl rfl rfl fun H hS => ?_
                                  try simp only [W, EE, Nat.reduceAdd, Nat.reduceBEq, hS.var 3 rfl]
                                  refine w_stv (a := .int .i64 0) (y' := .agg [.int .i64 0, .int .i64 a0.StateB, .int .i64 0, .int .i64 a0.Y, .int .i64 a0.OfX, .int .i64 a0.OfY, .int .i64 a0.LastX, .int .i64 a0.LastY, m108, m109, m110]) 3 hS rfl rfl rfl rfl rfl rfl rfl rfl fun H hS => ?_
                                  try simp only [W, EE, Nat.reduceAdd, Nat.reduceBEq, hS.var 3 rfl]
                                  refine w_stv (a := .int .i64 0) (y' := .agg [.int .i64 0, .int .i64 a0.StateB, .int .i64 0, .int .i64 a0.Y, .int .i64 a0.OfX, .int .i64 0, .int .i64 a0.LastX, .int .i64 a0.LastY, m108, m109, m110]) 3 hS rfl rfl rfl rfl rfl rfl rfl rfl fun H hS => ?_
                                  try simp only [W]
                                  refine seq_n hK252 ?_
                                  refine w_killE (s' := (.ptr i0 w0 0 0::u::u::.ptr ip2 wp2 0 0::u::u::u::u::u::u::u::u::u::u::u::u::u::u::u::u::u::u::u::u::u::u::u::u::u::.int .i64 a1.Kind::u::u::u::u::u::u::u::u::u::u::u::u::u::u::u::u::u::u::u::u::u::u::u::u::u::u::u::u::u::u::u::u::u::u::.bool x108::u::u::u::u::u::u::u::u::u::u::u::u::u::u::u::u::u::u::u::u::u::u::u::u::u::u::u::u::u::u::u::u::u::u::u::u::u::u::u::u::u::u::u::u::u::u::u::u::u::u::u::u::u::u::u::u::u::u::u::u::u::u::u::u::u::u::u::u::u::u::u::u::u::u::u::u::u::u::u::u::u::u::u::u::u::u::u::u::u::u::u::u::u::u::u::u::u::u::u::u::u::u::u::u::u::u::u::u::u::u::[])) rfl ?_
                                  exact cut_n hK251 ⟨_, _, _, _, _, _, (Option.some.inj h).symm, rfl, hS⟩
                                · refine w_seq fun K253 hK253 => ?_
                                  refine w_reg gC ?_
                                  try simp only [W, EE, Nat.reduceAdd]
                                  refine seq_n hK253 ?_
                                  refine w_if ?_
                                  simp only [W]
                                  refine w_cnd h (fun hc h => ?_) (fun hc h => ?_)
                                  · refine w_reg gC ?_
                                    try simp only [W, EE, Nat.reduceAdd, Nat.reduceBEq, hS.var 3 rfl]
                                    refine w_stv (a := .int .i64 0) (y' := .agg [.int .i64 a0.StateA, .int .i64 0, .int .i64 a0.X, .int .i64 a0.Y, .int .i64 a0.OfX, .int .i64 a0.OfY, .int .i64 a0.LastX, .int .i64 a0.LastY, m108, m109, m110]) 3 hS rfl rfl rfl rfl rfl rfl rfl rfl fun H hS => ?_
                                    try simp only [W, EE, Nat.reduceAdd, Nat.reduceBEq, hS.var 3 rfl]
                                    refine w_stv (a := .int .i64 0) (y' := .agg [.int .i64 a0.StateA, .int .i64 0, .int .i64 a0.X, .int .i64 a0.Y, .int .i64 0, .int .i64 a0.OfY, .int .i64 a0.LastX, .int .i64 a0.LastY, m108, m109, m110]) 3 hS rfl rfl rfl rfl rfl rfl rfl rfl fun H hS => ?_
                                    try simp only [W, EE, Nat.reduceAdd, Nat.reduceBEq, hS.var 3 rfl]
                                    refine w_stv (a := .int .i64 0) (y' := .agg [.int .i64 a0.StateA, .int .i64 0, .int .i64 a0.X, .int .i64 0, .int .i64 0, .int .i64 a0.OfY, .int .i64 a0.LastX, .int .i64 a0.LastY, m108, m109, m110]) 3 hS rfl rfl rfl rfl rfl rfl rfl rfl fun H hS => ?_
                                    try simp only [W]
                                    refine seq_n hK252 ?_
                                    refine w_killE (s' := (.ptr i0 w0 0 0::u::u::.ptr ip2 wp2 0 0::u::u::u::u::u::u::u::u::u::u::u::u::u::u::u::u::u::u::u::u::u::u::u::u::u::.int .i64 a1.Kind::u::u::u::u::u::u::u::u::u::u::u::u::u::u::u::u::u::u::u::u::u::u::u::u::u::u::u::u::u::u::u::u::u::u::.bool x108::u::u::u::u::u::u::u::u::u::u::u::u::u::u::u::u::u::u::u::u::u::u::u::u::u::u::u::u::u::u::u::u::u::u::u::u::u::u::u::u::u::u::u::u::u::u::u::u::u::u::u::u::u::u::u::u::u::u::u::u::u::u::u::u::u::u::u::u::u::u::u::u::u::u::u::u::u::u::u::u::u::u::u::u::u::u::u::u::u::u::u::u::u::u::u::u::u::u::u::u::u::u::u::u::u::u::u::u::u::u::[])) rfl ?_
                                    exact cut_n hK251 ⟨_, _, _, _, _, _, (Option.some.inj h).symm, rfl, hS⟩
                                  · refine w_seq fun K254 hK254 => ?_
                                    refine w_reg gC ?_
                                    try simp only [W, Nat.reduceAdd]
                                    refine seq_n hK254 ?_
                                    refine w_ret ?_
                                    refine seq_r hK252 ?_
                                    try obtain rfl := Option.some.inj h
                                    obtain rfl := Option.some.inj g250
                                    have h : (some (LR.done (LR.done (LR.done (LR.done (LR.done (LR.done (LR.done (false, a0)))))))) : Option (LR (Int × Int × Int × Int × Int × Int) (LR (Int × Int × Int × Int × Int × Int) (LR (Int × Int × Int × Int × Int × Int) (LR (Int × Int × Int × Int × Int × Int × (List Hello)) (LR (Int × Int × Int × Int × Int × Int × Int × Int × (List Hello) × (List Hello) × (List Hello)) (LR (Int × Int × Int × Int × Int × Int × Int × Int × (List Hello) × (List Hello) × (List Hello)) (LR (Int × Int × Int × Int × Int × Int × Int × Int × (List Hello) × (List Hello) × (List Hello)) (Bool × Greet))))))))) = some (LR.done (LR.done (LR.done (LR.done (LR.done (LR.done (LR.done (false, a0)))))))) := rfl
                                    refine cut_r hK251 ?_
                                    refine blk_r hK232 ?_
                                    try obtain rfl := Option.some.inj h
                                    obtain rfl := Option.some.inj g240
                                    have h : (some (LR.done (LR.done (LR.done (LR.done (LR.done (LR.done (false, a0))))))) : Option (LR (Int × Int × Int × Int × Int × Int) (LR (Int × Int × Int × Int × Int × Int) (LR (Int × Int × Int × Int × Int × Int × (List Hello)) (LR (Int × Int × Int × Int × Int × Int × Int × Int × (List Hello) × (List Hello) × (List Hello)) (LR (Int × Int × Int × Int × Int × Int × Int × Int × (List Hello) × (List Hello) × (List Hello)) (LR (Int × Int × Int × Int × Int × Int × Int × Int × (List Hello) × (List Hello) × (List Hello)) (Bool × Greet)))))))) = some (LR.done (LR.done (LR.done (LR.done (LR.done (LR.done (false, a0))))))) := rfl
                                    refine cut_r hK241 ?_
                                    refine seq_r hK230 ?_
                                    try obtain rfl := Option.some.inj h
                                    obtain rfl := Option.some.inj g228
                                    have h : (some (LR.done (LR.done (LR.done (LR.done (LR.done (false, a0)))))) : Option (LR (Int × Int × Int × Int × Int × Int) (LR (Int × Int × Int × Int × Int × Int × (List Hello)) (LR (Int × Int × Int × Int × Int × Int × Int × Int × (List Hello) × (List Hello) × (List Hello)) (LR (Int × Int × Int × Int × Int × Int × Int × Int × (List Hello) × (List Hello) × (List Hello)) (LR (Int × Int × Int × Int × Int × Int × Int × Int × (List Hello) × (List Hello) × (List Hello)) (Bool × Greet))))))) = some (LR.done (LR.done (LR.done (LR.done (LR.done (false, a0)))))) := rfl
                                    refine cut_r hK229 ?_
                                    refine seq_r hK206 ?_
                                    try obtain rfl := Option.some.inj h
                                    obtain rfl := Option.some.inj g204
                                    have h : (some (LR.done (LR.done (LR.done (LR.done (false, a0))))) : Option (LR (Int × Int × Int × Int × Int × Int × (List Hello)) (LR (Int × Int × Int × Int × Int × Int × Int × Int × (List Hello) × (List Hello) × (List Hello)) (LR (Int × Int × Int × Int × Int × Int × Int × Int × (List Hello) × (List Hello) × (List Hello)) (LR (Int × Int × Int × Int × Int × Int × Int × Int × (List Hello) × (List Hello) × (List Hello)) (Bool × Greet)))))) = some (LR.done (LR.done (LR.done (LR.done (false, a0))))) := rfl
                                    refine cut_r hK205 ?_
                                    refine seq_r hK177 ?_
                                    try obtain rfl := Option.some.inj h
                                    obtain rfl := Option.some.inj g175
                                    have h : (some (LR.done (LR.done (LR.done (false, a0)))) : Option (LR (Int × Int × Int × Int × Int × Int × Int × Int × (List Hello) × (List Hello) × (List Hello)) (LR (Int × Int × Int × Int × Int × Int × Int × Int × (List Hello) × (List Hello) × (List Hello)) (LR (Int × Int × Int × Int × Int × Int × Int × Int × (List Hello) × (List Hello) × (List Hello)) (Bool × Greet))))) = some (LR.done (LR.done (LR.done (false, a0)))) := rfl
                                    refine cut_r hK176 ?_
                                    refine seq_r hK131 ?_
                                    try obtain rfl := Option.some.inj h
                                    obtain rfl := Option.some.inj g129
                                    have h : (some (LR.done (LR.done (false, a0))) : Option (LR (Int × Int × Int × Int × Int × Int × Int × Int × (List Hello) × (List Hello) × (List Hello)) (LR (Int × Int × Int × Int × Int × Int × Int × Int × (List Hello) × (List Hello) × (List Hello)) (Bool × Greet)))) = some (LR.done (LR.done (false, a0))) := rfl
                                    refine cut_r hK130 ?_
                                    refine seq_r hK92 ?_
                                    try obtain rfl := Option.some.inj h
                                    obtain rfl := Option.some.inj g90
                                    have h : (some (LR.done (false, a0)) : Option (LR (Int × Int × Int × Int × Int × Int × Int × Int × (List Hello) × (List Hello) × (List Hello)) (Bool × Greet))) = some (LR.done (false, a0)) := rfl
                                    refine cut_r hK91 ?_
                                    refine blk_r hK55 ?_
                                    try obtain rfl := Option.some.inj h
                                    obtain rfl := Option.some.inj g71
                                    have h : (some (false, a0) : Option (Bool × Greet)) = some (false, a0) := rfl
                                    refine cut_r hK72 ?_
                                    refine seq_r hK53 ?_
                                    refine fin_r1 hK0 rfl ?_
                                    try obtain rfl := Option.some.inj h
                                    exact hP _ qm108 _ qm109 _ qm110 _ (hS.sel 5 [3, 0, 1, 2] (by decide))
                              · obtain ⟨x243, x244, x245, x246, x247, x248, rfl, rfl, hS⟩ := hq
                                replace h := g250
                                try dsimp only at h
                                refine blk_n hK232 ?_
                                exact cut_n hK241 ⟨_, _, _, _, _, _, (Option.some.inj h).symm, rfl, hS⟩
                            · obtain ⟨x233, x234, x235, x236, x237, x238, rfl, rfl, hS⟩ := hq
                              replace h := g240
                              try dsimp only at h
                              refine seq_n hK230 ?_
                              refine w_killE (s' := (.ptr i0 w0 0 0::u::u::.ptr ip2 wp2 0 0::u::u::u::u::u::u::u::u::u::u::u::u::u::u::u::u::u::u::u::u::u::u::u::u::u::.int .i64 a1.Kind::u::u::u::u::u::u::u::u::u::u::u::u::u::u::u::u::u::u::u::u::u::u::u::u::u::u::u::u::u::u::u::u::u::u::.bool x108::u::u::u::u::u::u::u::u::u::u::u::u::u::u::u::u::u::u::u::u::u::u::u::u::u::u::u::u::u::u::u::u::u::u::u::u::u::u::u::u::u::u::u::u::u::u::u::u::u::u::u::u::u::u::u::u::u::u::u::u::u::u::u::u::u::u::u::u::u::u::u::u::u::u::u::u::u::u::u::u::u::u::u::u::u::u::u::u::u::u::u::u::u::u::u::u::u::u::u::u::u::u::u::u::u::u::u::u::u::u::[])) rfl ?_
                              exact cut_n hK229 ⟨_, _, _, _, _, _, (Option.some.inj h).symm, rfl, hS⟩
                          · refine w_seq fun K271 hK271 => ?_
                            refine w_reg gC ?_
                            try simp only [W, Nat.reduceAdd]
                            refine seq_n hK271 ?_
                            refine w_ret ?_
                            refine seq_r hK230 ?_
                            try obtain rfl := Option.some.inj h
                            obtain rfl := Option.some.inj g228
                            have h : (some (LR.done (LR.done (LR.done (LR.done (LR.done (false, a0)))))) : Option (LR (Int × Int × Int × Int × Int × Int) (LR (Int × Int × Int × Int × Int × Int × (List Hello)) (LR (Int × Int × Int × Int × Int × Int × Int × Int × (List Hello) × (List Hello) × (List Hello)) (LR (Int × Int × Int × Int × Int × Int × Int × Int × (List Hello) × (List Hello) × (List Hello)) (LR (Int × Int × Int × Int × Int × Int × Int × Int × (List Hello) × (List Hello) × (List Hello)) (Bool × Greet))))))) = some (LR.done (LR.done (LR.done (LR.done (LR.done (false, a0)))))) := rfl
                            refine cut_r hK229 ?_
                            refine seq_r hK206 ?_
                            try obtain rfl := Option.some.inj h
                            obtain rfl := Option.some.inj g204
                            have h : (some (LR.done (LR.done (LR.done (LR.done (false, a0))))) : Option (LR (Int × Int × Int × Int × Int × Int × (List Hello)) (LR (Int × Int × Int × Int × Int × Int × Int × Int × (List Hello) × (List Hello) × (List Hello)) (LR (Int × Int × Int × Int × Int × Int × Int × Int × (List Hello) × (List Hello) × (List Hello)) (LR (Int × Int × Int × Int × Int × Int × Int × Int × (List Hello) × (List Hello) × (List Hello)) (Bool × Greet)))))) = some (LR.done (LR.done (LR.done (LR.done (false, a0))))) := rfl
                            refine cut_r hK205 ?_
                            refine seq_r hK177 ?_
                            try obtain rfl := Option.some.inj h
                            obtain rfl := Option.some.inj g175
                            have h : (some (LR.done (LR.done (LR.done (false, a0)))) : Option (LR (Int × Int × Int × Int × Int × Int × Int × Int × (List Hello) × (List Hello) × (List Hello)) (LR (Int × Int × Int × Int × Int × Int × Int × Int × (List Hello) × (List Hello) × (List Hello)) (LR (Int × Int × Int × Int × Int × Int × Int × Int × (List Hello) × (List Hello) × (List Hello)) (Bool × Greet))))) = some (LR.done (LR.done (LR.done (false, a0)))) := rfl
                            refine cut_r hK176 ?_
                            refine seq_r hK131 ?_
                            try obtain rfl := Option.some.inj h
                            obtain rfl := Option.some.inj g129
                            have h : (some (LR.done (LR.done (false, a0))) : Option (LR (Int × Int × Int × Int × Int × Int × Int × Int × (List Hello) × (List Hello) × (List Hello)) (LR (Int × Int × Int × Int × Int × Int × Int × Int × (List Hello) × (List Hello) × (List Hello)) (Bool × Greet)))) = some (LR.done (LR.done (false, a0))) := rfl
                            refine cut_r hK130 ?_
                            refine seq_r hK92 ?_
                            try obtain rfl := Option.some.inj h
                            obtain rfl := Option.some.inj g90
                            have h : (some (LR.done (false, a0)) : Option (LR (Int × Int × Int × Int × Int × Int × Int × Int × (List Hello) × (List Hello) × (List Hello)) (Bool × Greet))) = some (LR.done (false, a0)) := rfl
                            refine cut_r hK91 ?_
                            refine blk_r hK55 ?_
                            try obtain rfl := Option.some.inj h
                            obtain rfl := Option.some.inj g71
                            have h : (some (false, a0) : Option (Bool × Greet)) = some (false, a0) := rfl
                            refine cut_r hK72 ?_
                            refine seq_r hK53 ?_
                            refine fin_r1 hK0 rfl ?_
                            try obtain rfl := Option.some.inj h
                            exact hP _ qm108 _ qm109 _ qm110 _ (hS.sel 5 [3, 0, 1, 2] (by decide))
                        · obtain ⟨x221, x222, x223, x224, x225, x226, rfl, rfl, hS⟩ := hq
                          replace h := g228
                          try dsimp only at h
                          refine seq_n hK206 ?_
                          refine w_killE (s' := (.ptr i0 w0 0 0::u::u::.ptr ip2 wp2 0 0::u::u::u::u::u::u::u::u::u::u::u::u::u::u::u::u::u::u::u::u::u::u::u::u::u::.int .i64 a1.Kind::u::u::u::u::u::u::u::u::u::u::u::u::u::u::u::u::u::u::u::u::u::u::u::u::u::u::u::u::u::u::u::u::u::u::.bool x108::u::u::u::u::u::u::u::u::u::u::u::u::u::u::u::u::u::u::u::u::u::u::u::u::u::u::u::u::u::u::u::u::u::u::u::u::u::u::u::u::u::u::u::u::u::u::u::u::u::u::u::u::u::u::u::u::u::u::u::u::u::u::u::u::u::u::u::u::u::u::u::u::u::u::u::u::u::u::u::u::u::u::u::u::u::u::u::u::u::u::u::u::u::u::u::u::u::u::u::u::u::u::u::u::u::u::u::u::u::u::[])) rfl ?_
                          exact cut_n hK205 ⟨_, _, _, _, _, _, (Option.some.inj h).symm, rfl, hS⟩
                    · obtain ⟨x197, x198, x199, x200, x201, x202, rfl, rfl, hS⟩ := hq
                      replace h := g204
                      try dsimp only at h
                      refine seq_n hK177 ?_
                      refine w_killE (s' := (.ptr i0 w0 0 0::u::u::.ptr ip2 wp2 0 0::u::u::u::u::u::u::u::u::u::u::u::u::u::u::u::u::u::u::u::u::u::u::u::u::u::.int .i64 a1.Kind::u::u::u::u::u::u::u::u::u::u::u::u::u::u::u::u::u::u::u::u::u::u::u::u::u::u::u::u::u::u::u::u::u::u::.bool x108::u::u::u::u::u::u::u::u::u::u::u::u::u::u::u::u::u::u::u::u::u::u::u::u::u::u::u::u::u::u::u::u::u::u::u::u::u::u::u::u::u::u::u::u::u::u::u::u::u::u::u::u::u::u::u::u::u::u::u::u::u::u::u::u::u::u::u::u::u::u::u::u::u::u::u::u::u::u::u::u::u::u::u::u::u::u::u::u::u::u::u::u::u::u::u::u::u::u::u::u::u::u::u::u::u::u::u::u::u::u::[])) rfl ?_
                      exact cut_n hK176 ⟨_, _, _, _, _, _, _, (Option.some.inj h).symm, _, qm108, rfl, hS⟩
                · obtain ⟨x165, x166, x167, x168, x169, x170, x171, rfl, v172, qv172, rfl, hS⟩ := hq
                  replace h := g175
                  try dsimp only at h
                  refine seq_n hK131 ?_
                  refine w_killE (s' := (.ptr i0 w0 0 0::u::u::.ptr ip2 wp2 0 0::u::u::u::u::u::u::u::u::u::u::u::u::u::u::u::u::u::u::u::u::u::u::u::u::u::.int .i64 a1.Kind::u::u::u::u::u::u::u::u::u::u::u::u::u::u::u::u::u::u::u::u::u::u::u::u::u::u::u::u::u::u::u::u::u::u::.bool x108::u::u::u::u::u::u::u::u::u::u::u::u::u::u::u::u::u::u::u::u::u::u::u::u::u::u::u::u::u::u::u::u::u::u::u::u::u::u::u::u::u::u::u::u::u::u::u::u::u::u::u::u::u::u::u::u::u::u::u::u::u::u::u::u::u::u::u::u::u::u::u::u::u::u::u::u::u::u::u::u::u::u::u::u::u::u::u::u::u::u::u::u::u::u::u::u::u::u::u::u::u::u::u::u::u::u::u::u::u::u::[])) rfl ?_
                  exact cut_n hK130 ⟨_, _, _, _, _, _, _, _, _, _, _, (Option.some.inj h).symm, _, qv172, _, qm109, _, qm110, rfl, hS⟩
            · obtain ⟨x113, x114, x115, x116, x117, x118, x119, x120, x121, x124, x126, rfl, v122, qv122, v125, qv125, v127, qv127, rfl, hS⟩ := hq
              replace h := g129
              try dsimp only at h
              refine seq_n hK92 ?_
              refine w_killE (s' := (.ptr i0 w0 0 0::u::u::u::u::u::u::u::u::u::u::u::u::u::u::u::u::u::u::u::u::u::u::u::u::u::u::u::u::u::u::u::u::u::u::u::u::u::u::u::u::u::u::u::u::u::u::u::u::u::u::u::u::u::u::u::u::u::u::u::u::u::u::u::u::u::u::u::u::u::u::u::u::u::u::u::u::u::u::u::u::u::u::u::u::u::u::u::u::u::u::u::u::u::u::u::u::u::u::u::u::u::u::u::u::u::u::u::u::u::u::u::u::u::u::u::u::u::u::u::u::u::u::u::u::u::u::u::u::u::u::u::u::u::u::u::u::u::u::u::u::u::u::u::u::u::u::u::u::u::u::u::u::u::u::u::u::u::u::u::u::u::u::u::u::u::u::u::u::u::u::u::u::u::u::[])) rfl ?_
              exact cut_n hK91 ⟨_, _, _, _, _, _, _, _, _, _, _, (Option.some.inj h).symm, _, qv122, _, qv125, _, qv127, rfl, (hS.sel 5 [0, 1, 2, 3] (by decide))⟩
      · obtain ⟨x74, x75, x76, x77, x78, x79, x80, x81, x82, x85, x87, rfl, v83, qv83, v86, qv86, v88, qv88, rfl, hS⟩ := hq
        replace h := g90
        try dsimp only at h
        refine blk_n hK55 ?_
        exact cut_n hK72 ⟨_, _, _, _, _, _, _, _, _, _, _, (Option.some.inj h).symm, _, qv83, _, qv86, _, qv88, rfl, hS⟩
    · obtain ⟨x56, x57, x58, x59, x60, x61, x62, x63, x64, x66, x68, rfl, v65, qv65, v67, qv67, v69, qv69, rfl, hS⟩ := hq
      replace h := g71
      try dsimp only at h
      refine seq_n hK53 ?_
      refine w_seq fun K284 hK284 => ?_
      refine w_reg gC ?_
      try simp only [W, EE, Nat.reduceAdd, Nat.reduceBEq, hS.var 3 rfl]
      refine w_len 1 hS rfl qv67 rfl ?_
      try simp only [W, EE]
      refine w_grdT h (fun hc h => ?_) (fun hc h => ?_)
      · try simp only [W, EE, Nat.reduceAdd, Nat.reduceBEq, hS.var 3 rfl, hc]
        refine w_len 2 hS rfl qv69 rfl ?_
        try simp only [W, EE, reduceIte]
        refine seq_n hK284 ?_
        refine w_ret ?_
        refine fin_r1 hK0 rfl ?_
        try obtain rfl := Option.some.inj h
        exact hP _ qv65 _ qv67 _ qv69 _ (hS.sel 4 [3, 0, 1, 2] (by decide))
      · try simp only [W, hc]
        refine seq_n hK284 ?_
        refine w_ret ?_
        refine fin_r1 hK0 rfl ?_
        try obtain rfl := Option.some.inj h
        exact hP _ qv65 _ qv67 _ qv69 _ (hS.sel 4 [3, 0, 1, 2] (by decide))
theorem impl_PlayGreet_w {a0 : List GreetStep} {r : (Greet × List Bool × Bool)} (h : impl_PlayGreet a0 = some r) {F : List It} {H : Heap} (hS : Own H (F)) {P : AV → Heap → Prop} (hP : ∀ v123 : AV, isSl v123 → ∀ v125 : AV, isSl v125 → ∀ v127 : AV, isSl v127 → ∀ v129 : AV, isSl v129 → ∀ H', Own H' (⟨v123, 3, r.1.Line.map e_Hello⟩::⟨v125, 3, r.1.OpenedA.map e_Hello⟩::⟨v127, 3, r.1.OpenedB.map e_Hello⟩::⟨v129, 1, r.2.1.map AV.bool⟩::F) → P (.tup [.agg [.int .i64 r.1.StateA, .int .i64 r.1.StateB, .int .i64 r.1.X, .int .i64 r.1.Y, .int .i64 r.1.OfX, .int .i64 r.1.OfY, .int .i64 r.1.LastX, .int .i64 r.1.LastY, v123, v125, v127], v129, .bool r.2.2]) H') : ACall C 57 [.fz (a0.map e_GreetStep)] H P := by
  refine acall_of gC (res := [.cell 2 85, .tmp 3, .tmp 4]) (n := 36) rfl rfl rfl rfl fun K0 hK0 => ?_
  simp only [W, Nat.reduceSub, Nat.reduceAdd, List.replicate]
  unfold impl_PlayGreet at h
  refine w_seq fun K1 hK1 => ?_
  refine w_reg gC ?_
  try simp only [W, Nat.reduceAdd]
  refine w_alloc hS rfl rfl fun ip2 wp2 H hS => ?_
  try simp only [W]
  refine seq_n hK1 ?_
  refine w_seq fun K4 hK4 => ?_
  refine w_seq fun K5 hK5 => ?_
  refine w_reg gC ?_
  try simp only [W, EE, Nat.reduceAdd]
  refine seq_n hK5 ?_
  refine w_if ?_
  simp only [W]
  refine w_cnd h (fun hc h => ?_) (fun hc h => ?_)
  · refine w_seq fun K6 hK6 => ?_
    refine w_reg gC ?_
    try simp only [W, EE, Nat.reduceAdd]
    refine w_bld rfl rfl rfl rfl rfl ?_
    try simp only [W]
    refine w_stv (a := .agg [.int .i64 0, .int .i64 0, .int .i64 0, .int .i64 0, .int .i64 0, .int .i64 0, .int .i64 0, .int .i64 0, .nil, .nil, .nil]) (y' := .agg [.int .i64 0, .int .i64 0, .int .i64 0, .int .i64 0, .int .i64 0, .int .i64 0, .int .i64 0, .int .i64 0, .nil, .nil, .nil]) 0 hS rfl rfl rfl rfl rfl rfl rfl rfl fun H hS => ?_
    try simp only [W]
    refine seq_n hK6 ?_
    refine w_ret ?_
    refine seq_r hK4 ?_
    refine fin_r hK0 (res_c rfl rfl (hS.var 0 rfl) rfl (res_tc rfl (res_tc rfl rfl))) ?_
    try obtain rfl := Option.some.inj h
    exact hP _ isSl_nil _ isSl_nil _ isSl_nil _ isSl_nil _ (((((hS.nil_ 1).nil_ 3).nil_ 3).nil_ 3).sel 5 [0, 1, 2, 3] (by decide))
  · refine w_skip ?_
    refine seq_n hK4 ?_
    refine w_seq fun K7 hK7 => ?_
    refine w_reg gC ?_
    try simp only [W, Nat.reduceAdd]
    refine w_call h fun b8 hb8 h => ?_
    refine impl_NewGreet_w hb8 hS fun v9 qv9 v11 qv11 v13 qv13 H hS => ?_
    try simp only [W]
    refine w_lit0 rfl rfl ?_
    try simp only [W]
    refine w_alloc hS rfl rfl fun ip15 wp15 H hS => ?_
    try simp only [W]
    refine w_stv (a := .agg [.int .i64 b8.StateA, .int .i64 b8.StateB, .int .i64 b8.X, .int .i64 b8.Y, .int .i64 b8.OfX, .int .i64 b8.OfY, .int .i64 b8.LastX, .int .i64 b8.LastY, v9, v11, v13]) (y' := .agg [.int .i64 b8.StateA, .int .i64 b8.StateB, .int .i64 b8.X, .int .i64 b8.Y, .int .i64 b8.OfX, .int .i64 b8.OfY, .int .i64 b8.LastX, .int .i64 b8.LastY, v9, v11, v13]) 0 hS rfl rfl rfl rfl rfl (by simp only [storA, List.all_cons, List.all_nil, qv9.stor, qv11.stor, qv13.stor]; rfl) rfl rfl fun H hS => ?_
    try simp only [W]
    refine seq_n hK7 ?_
    refine w_seq fun K17 hK17 => ?_
    refine w_seq fun K18 hK18 => ?_
    refine w_reg gC ?_
    try simp only [W, EE, Nat.reduceAdd]
    refine seq_n hK18 ?_
    obtain ⟨y56, hw57, g63⟩ := Option.bind_eq_some_iff.1 h
    refine w_join gC (fun s H => ∃ x40 : List Bool, ∃ x42 : Int, ∃ x43 : Int, ∃ x44 : Int, ∃ x45 : Int, ∃ x46 : Int, ∃ x47 : Int, ∃ x48 : Int, ∃ x49 : Int, ∃ x50 : List Hello, ∃ x52 : List Hello, ∃ x54 : List Hello, y56 = (x40, x42, x43, x44, x45, x46, x47, x48, x49, x50, x52, x54) ∧ ∃ v41 : AV, isSl v41 ∧ ∃ v51 : AV, isSl v51 ∧ ∃ v53 : AV, isSl v53 ∧ ∃ v55 : AV, isSl v55 ∧ s = [u, u, .ptr ip2 wp2 0 0, u, u, .ptr ip15 wp15 0 0, v41, u, u, u, u, u, u, u, u, u, u, u, u, u, u, u, u, u, u, u, u, u, u, u, u, u, u, u, u, u] ∧ Own H (⟨v41, 1, x40.map AV.bool⟩::⟨v51, 3, x50.map e_Hello⟩::⟨v53, 3, x52.map e_Hello⟩::⟨v55, 3, x54.map e_Hello⟩::⟨.ptr ip2 wp2 0 0, 11, [.agg [.int .i64 0, .int .i64 0, .int .i64 0, .int .i64 0, .int .i64 0, .int .i64 0, .int .i64 0, .int .i64 0, .nil, .nil, .nil]]⟩::⟨.ptr ip15 wp15 0 0, 11, [.agg [.int .i64 x42, .int .i64 x43, .int .i64 x44, .int .i64 x45, .int .i64 x46, .int .i64 x47, .int .i64 x48, .int .i64 x49, v51, v53, v55]]⟩::F)) (fun K58 hK58 => ?_) (fun s H hq => ?_)
    · refine w_blk fun K59 hK59 => ?_
      refine w_loop gC hw57 (fun x s H => match x with | (x19, x22, x23, x24, x25, x26, x27, x28, x29, x30, x31, x34, x37) => ∃ v20 : AV, isSl v20 ∧ ∃ v32 : AV, isSl v32 ∧ ∃ v35 : AV, isSl v35 ∧ ∃ v38 : AV, isSl v38 ∧ s = [u, u, .ptr ip2 wp2 0 0, u, u, .ptr ip15 wp15 0 0, v20, u, u, u, u, u, u, u, u, u, u, .fz (a0.map e_GreetStep), .int .i64 (a0.length : Int), .int .i64 x22, u, u, u, u, u, u, u, u, u, u, u, u, u, u, u, u] ∧ Own H (⟨v20, 1, x19.map AV.bool⟩::⟨v32, 3, x31.map e_Hello⟩::⟨v35, 3, x34.map e_Hello⟩::⟨v38, 3, x37.map e_Hello⟩::⟨.ptr ip2 wp2 0 0, 11, [.agg [.int .i64 0, .int .i64 0, .int .i64 0, .int .i64 0, .int .i64 0, .int .i64 0, .int .i64 0, .int .i64 0, .nil, .nil, .nil]]⟩::⟨.ptr ip15 wp15 0 0, 11, [.agg [.int .i64 x23, .int .i64 x24, .int .i64 x25, .int .i64 x26, .int .i64 x27, .int .i64 x28, .int .i64 x29, .int .i64 x30, v32, v35, v38]]⟩::F)) ⟨_, isSl_e0, _, qv9, _, qv11, _, qv13, rfl, ((hS.e0_ 1).sel 6 [0, 2, 3, 4, 5, 1] (by decide))⟩ (fun x y62 s H h hd61 hi K60 hK60 => ?_)
      obtain ⟨x19, x22, x23, x24, x25, x26, x27, x28, x29, x30, x31, x34, x37⟩ := x
      try dsimp only at hi
      obtain ⟨v20, qv20, v32, qv32, v35, qv35, v38, qv38, rfl, hS⟩ := hi
      simp only [impl_PlayGreet_l0] at h
      refine w_seq fun K64 hK64 => ?_
      refine w_reg gC ?_
      try simp only [W, EE, Nat.reduceAdd]
      refine seq_n hK64 ?_
      refine w_seq fun K65 hK65 => ?_
      refine w_if ?_
      simp only [W]
      refine w_cnd h (fun hc h => ?_) (fun hc h => ?_)
      · refine w_skip ?_
        refine seq_n hK65 ?_
        refine w_seq fun K66 hK66 => ?_
        refine w_blk fun K67 hK67 => ?_
        refine w_seq fun K68 hK68 => ?_
        refine w_reg gC ?_
        try simp only [W, EE, Nat.reduceAdd]
        refine w_fz rfl rfl rfl (fun _ => rfl) h fun b69 hb69 h => ?_
        try simp only [W, EE, EN, reduceIte, Nat.reduceAdd, Nat.reduceLeDiff]
        refine w_alloc hS rfl rfl fun ip70 wp70 H hS => ?_
        try simp only [W]
        refine w_stv (a := .agg [.int .i64 b69.Kind, .int .i64 b69.K]) (y' := .agg [.int .i64 b69.Kind, .int .i64 b69.K]) 0 hS rfl rfl rfl rfl rfl rfl rfl rfl fun H hS => ?_
        try simp only [W]
        refine seq_n hK68 ?_
        refine w_seq fun K72 hK72 => ?_
        refine w_reg gC ?_
        try simp only [W, EE, reduceIte, Nat.reduceAdd, Nat.reduceLeDiff, Nat.reduceBEq, hS.var 6 rfl, List.contains_cons, Nat.reduceBEq, Bool.or_self]
        refine w_callO (rsh := [[.sc, .sc, .sc, .sc, .sc, .sc, .sc, .sc, .sl [.sc, .sc, .sc], .sl [.sc, .sc, .sc], .sl [.sc, .sc, .sc]]]) (ys := [.agg [.int .i64 x23, .int .i64 x24, .int .i64 x25, .int .i64 x26, .int .i64 x27, .int .i64 x28, .int .i64 x29, .int .i64 x30, .fz (x31.map e_Hello), .fz (x34.map e_Hello), .fz (x37.map e_Hello)]]) h rfl (pv_c (sn_agg (sm_c rfl (sm_c rfl (sm_c rfl (sm_c rfl (sm_c rfl (sm_c rfl (sm_c rfl (sm_c rfl (sm_c (sn_ow hS 2 rfl qv32 (fun _ => rfl)) (sm_c (sn_ow hS 3 rfl qv35 (fun _ => rfl)) (sm_c (sn_ow hS 4 rfl qv38 (fun _ => rfl)) (sm_n _))))))))))))) pv_n) fun b73 hb73 h => ⟨.agg [.int .i64 b73.StateA, .int .i64 b73.StateB, .int .i64 b73.X, .int .i64 b73.Y, .int .i64 b73.OfX, .int .i64 b73.OfY, .int .i64 b73.LastX, .int .i64 b73.LastY, .own 3 (b73.Line.map e_Hello), .own 3 (b73.OpenedA.map e_Hello), .own 3 (b73.OpenedB.map e_Hello)], impl_Greet_copied_w hb73 (Own.nil _) fun v74 qv74 v75 qv75 v76 qv76 H hS => TV_ok rfl (TV_a (TC_sc rfl (TC_sc rfl (TC_sc rfl (TC_sc rfl (TC_sc rfl (TC_sc rfl (TC_sc rfl (TC_sc rfl (TC_ow 0 hS rfl qv74 (fun _ _ => by simp [takeE, takeT, takeC, plainA, e_Hello]) fun H hS => TC_ow 0 hS rfl qv75 (fun _ _ => by simp [takeE, takeT, takeC, plainA, e_Hello]) fun H hS => TC_ow 0 hS rfl qv76 (fun _ _ => by simp [takeE, takeT, takeC, plainA, e_Hello]) fun H hS => TC_nil (TV_n rfl))))))))))), (nf_a (nf_c rfl (nf_c rfl (nf_c rfl (nf_c rfl (nf_c rfl (nf_c rfl (nf_c rfl (nf_c rfl (nf_c (noFz_o _ (fun _ => rfl) _) (nf_c (noFz_o _ (fun _ => rfl) _) (nf_c (noFz_o _ (fun _ => rfl) _) nf_n)))))))))))), ?_⟩
        refine thaw_1 ?_
        refine TH_a ?_
        refine TH_p (fun _ => rfl) ?_
        refine TH_p (fun _ => rfl) ?_
        refine TH_p (fun _ => rfl) ?_
        refine TH_p (fun _ => rfl) ?_
        refine TH_p (fun _ => rfl) ?_
        refine TH_p (fun _ => rfl) ?_
        refine TH_p (fun _ => rfl) ?_
        refine TH_p (fun _ => rfl) ?_
        refine TH_o hS (fun _ _ => rfl) (fun _ => rfl) fun v78 H qv78 hS => ?_
        refine TH_o hS (fun _ _ => rfl) (fun _ => rfl) fun v80 H qv80 hS => ?_
        refine TH_o hS (fun _ _ => rfl) (fun _ => rfl) fun v82 H qv82 hS => ?_
        refine TH_n ?_
        refine TH_n ?_
        try simp only [List.headD_cons]
        try simp only [W]
        refine w_alloc hS rfl rfl fun ip83 wp83 H hS => ?_
        try simp only [W]
        refine w_stv (a := .agg [.int .i64 b73.StateA, .int .i64 b73.StateB, .int .i64 b73.X, .int .i64 b73.Y, .int .i64 b73.OfX, .int .i64 b73.OfY, .int .i64 b73.LastX, .int .i64 b73.LastY, v78, v80, v82]) (y' := .agg [.int .i64 b73.StateA, .int .i64 b73.StateB, .int .i64 b73.X, .int .i64 b73.Y, .int .i64 b73.OfX, .int .i64 b73.OfY, .int .i64 b73.LastX, .int .i64 b73.LastY, v78, v80, v82]) 0 hS rfl rfl rfl rfl rfl (by simp only [storA, List.all_cons, List.all_nil, qv78.stor, qv80.stor, qv82.stor]; rfl) rfl rfl fun H hS => ?_
        try simp only [W]
        refine seq_n hK72 ?_
        refine w_seq fun K85 hK85 => ?_
        refine w_reg gC ?_
        try simp only [W, EE, reduceIte, Nat.reduceAdd, Nat.reduceLeDiff, hS.var 4 rfl]
        refine w_call h fun b86 hb86 h => ?_
        obtain ⟨b87, b88⟩ := b86
        try dsimp only at h
        refine impl_Greet_step_w hb86 (hS.sel 11 [0, 3, 2, 1, 4, 5, 6, 7, 8, 9, 10] (by decide)) qv78 qv80 qv82 fun v89 qv89 v90 qv90 v91 qv91 H hS => ?_
        try simp only [W]
        refine seq_n hK85 ?_
        refine w_seq fun K92 hK92 => ?_
        refine w_seq fun K93 hK93 => ?_
        refine w_reg gC ?_
        try simp only [W, Nat.reduceAdd]
        refine seq_n hK93 ?_
        obtain ⟨y111, h, g112⟩ := Option.bind_eq_some_iff.1 h
        refine w_join gC (fun s H => ∃ x94 : Int, ∃ x95 : Int, ∃ x96 : Int, ∃ x97 : Int, ∃ x98 : Int, ∃ x99 : Int, ∃ x100 : Int, ∃ x101 : Int, ∃ x102 : List Hello, ∃ x105 : List Hello, ∃ x108 : List Hello, y111 = (x94, x95, x96, x97, x98, x99, x100, x101, x102, x105, x108) ∧ ∃ v103 : AV, isSl v103 ∧ ∃ v106 : AV, isSl v106 ∧ ∃ v109 : AV, isSl v109 ∧ s = [u, u, .ptr ip2 wp2 0 0, u, u, .ptr ip15 wp15 0 0, v20, u, u, u, .bool b87, u, u, u, u, u, u, .fz (a0.map e_GreetStep), .int .i64 (a0.length : Int), .int .i64 x22, u, u, u, u, u, u, u, u, u, u, u, u, u, u, u, u] ∧ Own H (⟨v20, 1, x19.map AV.bool⟩::⟨v103, 3, x102.map e_Hello⟩::⟨v106, 3, x105.map e_Hello⟩::⟨v109, 3, x108.map e_Hello⟩::⟨.ptr ip2 wp2 0 0, 11, [.agg [.int .i64 0, .int .i64 0, .int .i64 0, .int .i64 0, .int .i64 0, .int .i64 0, .int .i64 0, .int .i64 0, .nil, .nil, .nil]]⟩::⟨.ptr ip15 wp15 0 0, 11, [.agg [.int .i64 x94, .int .i64 x95, .int .i64 x96, .int .i64 x97, .int .i64 x98, .int .i64 x99, .int .i64 x100, .int .i64 x101, v103, v106, v109]]⟩::F)) (fun K113 hK113 => ?_) (fun s H hq => ?_)
        · refine w_seq fun K114 hK114 => ?_
          refine w_if ?_
          simp only [W]
          refine w_cnd h (fun hc h => ?_) (fun hc h => ?_)
          · refine w_reg gC ?_
            try simp only [W, EE, reduceIte, Nat.reduceAdd, Nat.reduceLeDiff, hS.var 0 rfl]
            refine w_stv (a := .agg [.int .i64 b88.StateA, .int .i64 b88.StateB, .int .i64 b88.X, .int .i64 b88.Y, .int .i64 b88.OfX, .int .i64 b88.OfY, .int .i64 b88.LastX, .int .i64 b88.LastY, v89, v90, v91]) (y' := .agg [.int .i64 b88.StateA, .int .i64 b88.StateB, .int .i64 b88.X, .int .i64 b88.Y, .int .i64 b88.OfX, .int .i64 b88.OfY, .int .i64 b88.LastX, .int .i64 b88.LastY, v89, v90, v91]) 10 hS rfl rfl rfl rfl rfl (by simp only [storA, List.all_cons, List.all_nil, qv89.stor, qv90.stor, qv91.stor]; rfl) rfl rfl fun H hS => ?_
            try simp only [W]
            refine seq_n hK114 ?_
            refine w_kill ?_
            exact cut_n hK113 ⟨_, _, _, _, _, _, _, _, _, _, _, (Option.some.inj h).symm, _, qv89, _, qv90, _, qv91, rfl, (hS.sel 11 [5, 1, 2, 3, 9, 10] (by decide))⟩
          · refine w_skip ?_
            refine seq_n hK114 ?_
            refine w_kill ?_
            exact cut_n hK113 ⟨_, _, _, _, _, _, _, _, _, _, _, (Option.some.inj h).symm, _, qv32, _, qv35, _, qv38, rfl, (hS.sel 11 [5, 6, 7, 8, 9, 10] (by decide))⟩
        · obtain ⟨x94, x95, x96, x97, x98, x99, x100, x101, x102, x105, x108, rfl, v103, qv103, v106, qv106, v109, qv109, rfl, hS⟩ := hq
          replace h := g112
          try dsimp only at h
          refine seq_n hK92 ?_
          refine w_reg gC ?_
          try simp only [W, Nat.reduceAdd]
          refine w_lit (el := ([b87] : List Bool).map AV.bool) hS rfl rfl rfl rfl rfl rfl rfl fun v115 H qv115 hS => ?_
          try simp only [W, EE]
          refine w_appV (l := x19) (c := AV.bool) 1 hS rfl qv20 rfl rfl rfl (hS.elems 0 rfl qv115) (fun _ => rfl) rfl h fun v118 H x117 qv118 hm h hS => ?_
          try simp only [W]
          refine blk_n0 hK67 ?_
          refine seq_n hK66 ?_
          refine w_reg gC ?_
          try simp only [W, EE, Nat.reduceAdd]
          exact lp_n hK60 h ⟨_, qv118, _, qv103, _, qv106, _, qv109, rfl, (hS.sel 7 [1, 2, 3, 4, 5, 6] (by decide))⟩
      · refine w_exit ?_
        refine seq_x hK65 ?_
        try obtain rfl := Option.some.inj h
        obtain rfl := hd61 _ rfl
        have h : (some (x19, x23, x24, x25, x26, x27, x28, x29, x30, x31, x34, x37) : Option ((List Bool) × Int × Int × Int × Int × Int × Int × Int × Int × (List Hello) × (List Hello) × (List Hello))) = some (x19, x23, x24, x25, x26, x27, x28, x29, x30, x31, x34, x37) := rfl
        refine lp_x hK60 ?_
        refine blk_e hK59 ?_
        exact cut_n hK58 ⟨_, _, _, _, _, _, _, _, _, _, _, _, (Option.some.inj h).symm, _, qv20, _, qv32, _, qv35, _, qv38, rfl, hS⟩
    · obtain ⟨x40, x42, x43, x44, x45, x46, x47, x48, x49, x50, x52, x54, rfl, v41, qv41, v51, qv51, v53, qv53, v55, qv55, rfl, hS⟩ := hq
      replace h := g63
      try dsimp only at h
      refine seq_n hK17 ?_
      refine w_seq fun K122 hK122 => ?_
      refine w_reg gC ?_
      try simp only [W, EE, reduceIte, Nat.reduceAdd, Nat.reduceLeDiff, hS.var 5 rfl]
      refine w_stv (a := .agg [.int .i64 x42, .int .i64 x43, .int .i64 x44, .int .i64 x45, .int .i64 x46, .int .i64 x47, .int .i64 x48, .int .i64 x49, v51, v53, v55]) (y' := .agg [.int .i64 x42, .int .i64 x43, .int .i64 x44, .int .i64 x45, .int .i64 x46, .int .i64 x47, .int .i64 x48, .int .i64 x49, v51, v53, v55]) 4 hS rfl rfl rfl rfl rfl (by simp only [storA, List.all_cons, List.all_nil, qv51.stor, qv53.stor, qv55.stor]; rfl) rfl rfl fun H hS => ?_
      try simp only [W]
      refine seq_n hK122 ?_
      refine w_ret ?_
      refine fin_r hK0 (res_c rfl rfl (hS.var 4 rfl) rfl (res_tc rfl (res_tc rfl rfl))) ?_
      try obtain rfl := Option.some.inj h
      exact hP _ qv51 _ qv53 _ qv55 _ qv41 _ (hS.sel 6 [1, 2, 3, 0] (by decide))
theorem spec_NewGreet_w {r : (Greet)} (h : spec_NewGreet = some r) {F : List It} {H : Heap} (hS : Own H (F)) {P : AV → Heap → Prop} (hP : ∀ v5 : AV, isSl v5 → ∀ v7 : AV, isSl v7 → ∀ v9 : AV, isSl v9 → ∀ H', Own H' (⟨v5, 3, r.Line.map e_Hello⟩::⟨v7, 3, r.OpenedA.map e_Hello⟩::⟨v9, 3, r.OpenedB.map e_Hello⟩::F) → P (.agg [.int .i64 r.StateA, .int .i64 r.StateB, .int .i64 r.X, .int .i64 r.Y, .int .i64 r.OfX, .int .i64 r.OfY, .int .i64 r.LastX, .int .i64 r.LastY, v5, v7, v9]) H') : ACall C 155 [] H P := by
  refine acall_of gC (res := [.cell 0 85]) (n := 2) rfl rfl rfl rfl fun K0 hK0 => ?_
  simp only [W, Nat.reduceSub, List.replicate]
  unfold spec_NewGreet at h
  refine w_seq fun K1 hK1 => ?_
  refine w_reg gC ?_
  try simp only [W, Nat.reduceAdd]
  refine w_alloc hS rfl rfl fun ip2 wp2 H hS => ?_
  try simp only [W]
  refine seq_n hK1 ?_
  refine w_seq fun K4 hK4 => ?_
  refine w_reg gC ?_
  try simp only [W, EE, Nat.reduceAdd]
  refine w_bld rfl rfl rfl rfl rfl ?_
  try simp only [W]
  refine w_stv (a := .agg [.int .i64 0, .int .i64 0, .int .i64 0, .int .i64 0, .int .i64 0, .int .i64 0, .int .i64 100, .int .i64 0, .nil, .nil, .nil]) (y' := .agg [.int .i64 0, .int .i64 0, .int .i64 0, .int .i64 0, .int .i64 0, .int .i64 0, .int .i64 100, .int .i64 0, .nil, .nil, .nil]) 0 hS rfl rfl rfl rfl rfl rfl rfl rfl fun H hS => ?_
  try simp only [W]
  refine seq_n hK4 ?_
  refine w_ret ?_
  refine fin_r hK0 (res_c rfl rfl (hS.var 0 rfl) rfl rfl) ?_
  try obtain rfl := Option.some.inj h
  exact hP _ isSl_nil _ isSl_nil _ isSl_nil _ ((((hS.nil_ 3).nil_ 3).nil_ 3).sel 4 [0, 1, 2] (by decide))
theorem spec_l15Own_w {a0 : Greet} {r : (Greet)} (h : spec_l15Own a0 = some r) {F : List It} {H : Heap} (hS : Own H (F)) {P : AV → Heap → Prop} (hP : ∀ v22 : AV, isSl v22 → ∀ v24 : AV, isSl v24 → ∀ v26 : AV, isSl v26 → ∀ H', Own H' (⟨v22, 3, r.Line.map e_Hello⟩::⟨v24, 3, r.OpenedA.map e_Hello⟩::⟨v26, 3, r.OpenedB.map e_Hello⟩::F) → P (.agg [.int .i64 r.StateA, .int .i64 r.StateB, .int .i64 r.X, .int .i64 r.Y, .int .i64 r.OfX, .int .i64 r.OfY, .int .i64 r.LastX, .int .i64 r.LastY, v22, v24, v26]) H') : ACall C 157 [.agg [.int .i64 a0.StateA, .int .i64 a0.StateB, .int .i64 a0.X, .int .i64 a0.Y, .int .i64 a0.OfX, .int .i64 a0.OfY, .int .i64 a0.LastX, .int .i64 a0.LastY, .fz (a0.Line.map e_Hello), .fz (a0.OpenedA.map e_Hello), .fz (a0.OpenedB.map e_Hello)]] H P := by
  refine acall_of gC (res := [.cell 2 85]) (n := 19) rfl rfl rfl rfl fun K0 hK0 => ?_
  simp only [W, Nat.reduceSub, Nat.reduceAdd, List.replicate]
  unfold spec_l15Own at h
  refine w_seq fun K1 hK1 => ?_
  refine w_reg gC ?_
  try simp only [W, Nat.reduceAdd]
  refine w_box hS rfl rfl rfl rfl fun ip2 wp2 H hS => ?_
  try simp only [W]
  refine w_alloc hS rfl rfl fun ip4 wp4 H hS => ?_
  try simp only [W]
  refine seq_n hK1 ?_
  refine w_seq fun K6 hK6 => ?_
  refine w_reg gC ?_
  try simp only [W, Nat.reduceAdd]
  refine w_lit0 rfl rfl ?_
  try simp only [W, EE, Nat.reduceAdd, Nat.reduceBEq, hS.var 1 rfl]
  have hS := hS.e0_ 3
  refine w_appV (l := ([] : List Hello)) (c := e_Hello) 0 hS rfl isSl_e0 rfl rfl rfl rfl (fun _ => rfl) rfl h fun v9 H x8 qv9 hm h hS => ?_
  try simp only [W, EE, Nat.reduceAdd, Nat.reduceBEq, hS.var 2 rfl]
  refine w_stv (a := v9) (y' := .agg [.int .i64 a0.StateA, .int .i64 a0.StateB, .int .i64 a0.X, .int .i64 a0.Y, .int .i64 a0.OfX, .int .i64 a0.OfY, .int .i64 a0.LastX, .int .i64 a0.LastY, v9, .fz (a0.OpenedA.map e_Hello), .fz (a0.OpenedB.map e_Hello)]) 2 hS rfl rfl rfl rfl (by rw [qv9.cells]; rfl) qv9.stora (qv9.wr _ _ (by simp)) rfl fun H hS => ?_
  try simp only [W]
  refine seq_n hK6 ?_
  refine w_seq fun K11 hK11 => ?_
  refine w_reg gC ?_
  try simp only [W, Nat.reduceAdd]
  refine w_lit0 rfl rfl ?_
  try simp only [W, EE, Nat.reduceAdd, Nat.reduceBEq, hS.var 2 rfl]
  have hS := hS.e0_ 3
  refine w_appV (l := ([] : List Hello)) (c := e_Hello) 0 hS rfl isSl_e0 rfl rfl rfl rfl (fun _ => rfl) rfl h fun v14 H x13 qv14 hm h hS => ?_
  try simp only [W, EE, Nat.reduceAdd, Nat.reduceBEq, hS.var 3 rfl]
  refine w_stv (a := v14) (y' := .agg [.int .i64 a0.StateA, .int .i64 a0.StateB, .int .i64 a0.X, .int .i64 a0.Y, .int .i64 a0.OfX, .int .i64 a0.OfY, .int .i64 a0.LastX, .int .i64 a0.LastY, v9, v14, .fz (a0.OpenedB.map e_Hello)]) 3 hS rfl rfl rfl rfl (by rw [qv14.cells]; rfl) qv14.stora (qv14.wr _ _ (by simp)) rfl fun H hS => ?_
  try simp only [W]
  refine seq_n hK11 ?_
  refine w_seq fun K16 hK16 => ?_
  refine w_reg gC ?_
  try simp only [W, Nat.reduceAdd]
  refine w_lit0 rfl rfl ?_
  try simp only [W, EE, Nat.reduceAdd, Nat.reduceBEq, hS.var 3 rfl]
  have hS := hS.e0_ 3
  refine w_appV (l := ([] : List Hello)) (c := e_Hello) 0 hS rfl isSl_e0 rfl rfl rfl rfl (fun _ => rfl) rfl h fun v19 H x18 qv19 hm h hS => ?_
  try simp only [W, EE, Nat.reduceAdd, Nat.reduceBEq, hS.var 4 rfl]
  refine w_stv (a := v19) (y' := .agg [.int .i64 a0.StateA, .int .i64 a0.StateB, .int .i64 a0.X, .int .i64 a0.Y, .int .i64 a0.OfX, .int .i64 a0.OfY, .int .i64 a0.LastX, .int .i64 a0.LastY, v9, v14, v19]) 4 hS rfl rfl rfl rfl (by rw [qv19.cells]; rfl) qv19.stora (qv19.wr _ _ (by simp)) rfl fun H hS => ?_
  try simp only [W]
  refine seq_n hK16 ?_
  refine w_seq fun K21 hK21 => ?_
  refine w_reg gC ?_
  try simp only [W, EE, reduceIte, Nat.reduceAdd, Nat.reduceLeDiff, hS.var 4 rfl]
  refine w_stv (a := .agg [.int .i64 a0.StateA, .int .i64 a0.StateB, .int .i64 a0.X, .int .i64 a0.Y, .int .i64 a0.OfX, .int .i64 a0.OfY, .int .i64 a0.LastX, .int .i64 a0.LastY, v9, v14, v19]) (y' := .agg [.int .i64 a0.StateA, .int .i64 a0.StateB, .int .i64 a0.X, .int .i64 a0.Y, .int .i64 a0.OfX, .int .i64 a0.OfY, .int .i64 a0.LastX, .int .i64 a0.LastY, v9, v14, v19]) 3 hS rfl rfl rfl rfl rfl (by simp only [storA, List.all_cons, List.all_nil, qv9.stor, qv14.stor, qv19.stor]; rfl) rfl rfl fun H hS => ?_
  try simp only [W]
  refine seq_n hK21 ?_
  refine w_ret ?_
  refine fin_r hK0 (res_c rfl rfl (hS.var 3 rfl) rfl rfl) ?_
  try obtain rfl := Option.some.inj h
  exact hP _ qv9 _ qv14 _ qv19 _ (hS.sel 5 [2, 1, 0] (by decide))
theorem spec_l15Write_w {a0 : Greet} {a1 : Hello} {m8 : AV} {m9 : AV} {m10 : AV} {r : (Greet)} (h : spec_l15Write a0 a1 = some r) {F : List It} {H : Heap} (hS : Own H (⟨m8, 3, a0.Line.map e_Hello⟩::⟨m9, 3, a0.OpenedA.map e_Hello⟩::⟨m10, 3, a0.OpenedB.map e_Hello⟩::F)) (qm8 : isSl m8) (qm9 : isSl m9) (qm10 : isSl m10) {P : AV → Heap → Prop} (hP : ∀ v23 : AV, isSl v23 → ∀ v25 : AV, isSl v25 → ∀ v27 : AV, isSl v27 → ∀ H', Own H' (⟨v23, 3, r.Line.map e_Hello⟩::⟨v25, 3, r.OpenedA.map e_Hello⟩::⟨v27, 3, r.OpenedB.map e_Hello⟩::F) → P (.agg [.int .i64 r.StateA, .int .i64 r.StateB, .int .i64 r.X, .int .i64 r.Y, .int .i64 r.OfX, .int .i64 r.OfY, .int .i64 r.LastX, .int .i64 r.LastY, v23, v25, v27]) H') : ACall C 239 [.agg [.int .i64 a0.StateA, .int .i64 a0.StateB, .int .i64 a0.X, .int .i64 a0.Y, .int .i64 a0.OfX, .int .i64 a0.OfY, .int .i64 a0.LastX, .int .i64 a0.LastY, m8, m9, m10], .agg [.int .i64 a1.Kind, .int .i64 a1.X, .int .i64 a1.Y]] H P := by
  refine acall_of gC (res := [.cell 4 85]) (n := 16) rfl rfl rfl rfl fun K0 hK0 => ?_
  simp only [W, Nat.reduceSub, Nat.reduceAdd, List.replicate]
  unfold spec_l15Write at h
  refine w_seq fun K1 hK1 => ?_
  refine w_reg gC ?_
  try simp only [W, Nat.reduceAdd]
  refine w_box hS rfl rfl rfl (by simp only [W, storA, List.all_cons, List.all_nil, qm8.stor, qm9.stor, qm10.stor]; rfl) fun ip2 wp2 H hS => ?_
  try simp only [W]
  refine w_box hS rfl rfl rfl rfl fun ip4 wp4 H hS => ?_
  try simp only [W]
  refine w_alloc hS rfl rfl fun ip6 wp6 H hS => ?_
  try simp only [W]
  refine seq_n hK1 ?_
  refine w_seq fun K8 hK8 => ?_
  refine w_seq fun K9 hK9 => ?_
  refine w_reg gC ?_
  try simp only [W, EE, Nat.reduceAdd, Nat.reduceBEq, hS.var 2 rfl]
  refine w_len 3 hS rfl qm8 rfl ?_
  try simp only [W, EE]
  refine seq_n hK9 ?_
  obtain ⟨y13, h, g14⟩ := Option.bind_eq_some_iff.1 h
  refine w_join gC (fun s H => ∃ x10 : List Hello, y13 = (x10) ∧ ∃ v11 : AV, isSl v11 ∧ s = [u, u, .ptr ip2 wp2 0 0, u, .ptr ip6 wp6 0 0, u, u, u, u, u, u, u, u, u, u, u] ∧ Own H (⟨v11, 3, x10.map e_Hello⟩::⟨m9, 3, a0.OpenedA.map e_Hello⟩::⟨m10, 3, a0.OpenedB.map e_Hello⟩::⟨.ptr ip2 wp2 0 0, 11, [.agg [.int .i64 a0.StateA, .int .i64 a0.StateB, .int .i64 a0.X, .int .i64 a0.Y, .int .i64 a0.OfX, .int .i64 a0.OfY, .int .i64 a0.LastX, .int .i64 a0.LastY, v11, m9, m10]]⟩::⟨.ptr ip6 wp6 0 0, 11, [.agg [.int .i64 0, .int .i64 0, .int .i64 0, .int .i64 0, .int .i64 0, .int .i64 0, .int .i64 0, .int .i64 0, .nil, .nil, .nil]]⟩::F)) (fun K15 hK15 => ?_) (fun s H hq => ?_)
  · refine w_seq fun K16 hK16 => ?_
    refine w_if ?_
    simp only [W]
    refine w_cnd h (fun hc h => ?_) (fun hc h => ?_)
    · refine w_reg gC ?_
      try simp only [W, EE, reduceIte, Nat.reduceAdd, Nat.reduceLeDiff, Nat.reduceBEq, hS.var 2 rfl, hS.var 1 rfl]
      refine w_lit (el := ([a1] : List Hello).map e_Hello) hS rfl rfl rfl rfl rfl rfl rfl fun v17 H qv17 hS => ?_
      try simp only [W, EE]
      refine w_appV (l := a0.Line) (c := e_Hello) 4 hS rfl qm8 rfl rfl rfl (hS.elems 0 rfl qv17) (fun _ => rfl) rfl h fun v20 H x19 qv20 hm h hS => ?_
      try simp only [W, EE, Nat.reduceAdd, Nat.reduceBEq, hS.var 3 rfl]
      refine w_stv (a := v20) (y' := .agg [.int .i64 a0.StateA, .int .i64 a0.StateB, .int .i64 a0.X, .int .i64 a0.Y, .int .i64 a0.OfX, .int .i64 a0.OfY, .int .i64 a0.LastX, .int .i64 a0.LastY, v20, m9, m10]) 3 hS rfl rfl rfl rfl (by rw [qv20.cells]; rfl) qv20.stora (qv20.wr _ _ (by simp)) rfl fun H hS => ?_
      try simp only [W]
      refine seq_n hK16 ?_
      refine w_kill ?_
      exact cut_n hK15 ⟨_, (Option.some.inj h).symm, _, qv20, rfl, (hS.sel 7 [4, 5, 6, 3, 1] (by decide))⟩
    · refine w_skip ?_
      refine seq_n hK16 ?_
      refine w_kill ?_
      exact cut_n hK15 ⟨_, (Option.some.inj h).symm, _, qm8, rfl, (hS.sel 6 [3, 4, 5, 2, 0] (by decide))⟩
  · obtain ⟨x10, ey, v11, qv11, rfl, hS⟩ := hq; obtain rfl := ey.symm
    replace h := g14
    try dsimp only at h
    refine seq_n hK8 ?_
    refine w_seq fun K22 hK22 => ?_
    refine w_reg gC ?_
    try simp only [W, EE, reduceIte, Nat.reduceAdd, Nat.reduceLeDiff, hS.var 3 rfl]
    refine w_stv (a := .agg [.int .i64 a0.StateA, .int .i64 a0.StateB, .int .i64 a0.X, .int .i64 a0.Y, .int .i64 a0.OfX, .int .i64 a0.OfY, .int .i64 a0.LastX, .int .i64 a0.LastY, v11, m9, m10]) (y' := .agg [.int .i64 a0.StateA, .int .i64 a0.StateB, .int .i64 a0.X, .int .i64 a0.Y, .int .i64 a0.OfX, .int .i64 a0.OfY, .int .i64 a0.LastX, .int .i64 a0.LastY, v11, m9, m10]) 4 hS rfl rfl rfl rfl rfl (by simp only [storA, List.all_cons, List.all_nil, qv11.stor, qm9.stor, qm10.stor]; rfl) rfl rfl fun H hS => ?_
    try simp only [W]
    refine seq_n hK22 ?_
    refine w_ret ?_
    refine fin_r hK0 (res_c rfl rfl (hS.var 4 rfl) rfl rfl) ?_
    try obtain rfl := Option.some.inj h
    exact hP _ qv11 _ qm9 _ qm10 _ (hS.sel 5 [0, 1, 2] (by decide))
theorem spec_l15CloseB_w {a0 : Greet} {m8 : AV} {m9 : AV} {m10 : AV} {r : (Greet)} (h : spec_l15CloseB a0 = some r) {F : List It} {H : Heap} (hS : Own H (⟨m8, 3, a0.Line.map e_Hello⟩::⟨m9, 3, a0.OpenedA.map e_Hello⟩::⟨m10, 3, a0.OpenedB.map e_Hello⟩::F)) (qm8 : isSl m8) (qm9 : isSl m9) (qm10 : isSl m10) {P : AV → Heap → Prop} (hP : ∀ v10 : AV, isSl v10 → ∀ v12 : AV, isSl v12 → ∀ v14 : AV, isSl v14 → ∀ H', Own H' (⟨v10, 3, r.Line.map e_Hello⟩::⟨v12, 3, r.OpenedA.map e_Hello⟩::⟨v14, 3, r.OpenedB.map e_Hello⟩::F) → P (.agg [.int .i64 r.StateA, .int .i64 r.StateB, .int .i64 r.X, .int .i64 r.Y, .int .i64 r.OfX, .int .i64 r.OfY, .int .i64 r.LastX, .int .i64 r.LastY, v10, v12, v14]) H') : ACall C 240 [.agg [.int .i64 a0.StateA, .int .i64 a0.StateB, .int .i64 a0.X, .int .i64 a0.Y, .int .i64 a0.OfX, .int .i64 a0.OfY, .int .i64 a0.LastX, .int .i64 a0.LastY, m8, m9, m10]] H P := by
  refine acall_of gC (res := [.cell 2 85]) (n := 7) rfl rfl rfl rfl fun K0 hK0 => ?_
  simp only [W, Nat.reduceSub, Nat.reduceAdd, List.replicate]
  unfold spec_l15CloseB at h
  refine w_seq fun K1 hK1 => ?_
  refine w_reg gC ?_
  try simp only [W, Nat.reduceAdd]
  refine w_box hS rfl rfl rfl (by simp only [W, storA, List.all_cons, List.all_nil, qm8.stor, qm9.stor, qm10.stor]; rfl) fun ip2 wp2 H hS => ?_
  try simp only [W]
  refine w_alloc hS rfl rfl fun ip4 wp4 H hS => ?_
  try simp only [W]
  refine seq_n hK1 ?_
  refine w_seq fun K6 hK6 => ?_
  refine w_reg gC ?_
  try simp only [W, EE, Nat.reduceAdd, Nat.reduceBEq, hS.var 1 rfl]
  refine w_stv (a := .int .i64 0) (y' := .agg [.int .i64 a0.StateA, .int .i64 0, .int .i64 a0.X, .int .i64 a0.Y, .int .i64 a0.OfX, .int .i64 a0.OfY, .int .i64 a0.LastX, .int .i64 a0.LastY, m8, m9, m10]) 1 hS rfl rfl rfl rfl rfl rfl rfl rfl fun H hS => ?_
  try simp only [W]
  refine seq_n hK6 ?_
  refine w_seq fun K7 hK7 => ?_
  refine w_reg gC ?_
  try simp only [W, EE, Nat.reduceAdd, Nat.reduceBEq, hS.var 1 rfl]
  refine w_stv (a := .int .i64 0) (y' := .agg [.int .i64 a0.StateA, .int .i64 0, .int .i64 a0.X, .int .i64 a0.Y, .int .i64 0, .int .i64 a0.OfY, .int .i64 a0.LastX, .int .i64 a0.LastY, m8, m9, m10]) 1 hS rfl rfl rfl rfl rfl rfl rfl rfl fun H hS => ?_
  try simp only [W]
  refine seq_n hK7 ?_
  refine w_seq fun K8 hK8 => ?_
  refine w_reg gC ?_
  try simp only [W, EE, Nat.reduceAdd, Nat.reduceBEq, hS.var 1 rfl]
  refine w_stv (a := .int .i64 0) (y' := .agg [.int .i64 a0.StateA, .int .i64 0, .int .i64 a0.X, .int .i64 0, .int .i64 0, .int .i64 a0.OfY, .int .i64 a0.LastX, .int .i64 a0.LastY, m8, m9, m10]) 1 hS rfl rfl rfl rfl rfl rfl rfl rfl fun H hS => ?_
  try simp only [W]
  refine seq_n hK8 ?_
  refine w_seq fun K9 hK9 => ?_
  refine w_reg gC ?_
  try simp only [W, EE, reduceIte, Nat.reduceAdd, Nat.reduceLeDiff, hS.var 1 rfl]
  refine w_stv (a := .agg [.int .i64 a0.StateA, .int .i64 0, .int .i64 a0.X, .int .i64 0, .int .i64 0, .int .i64 a0.OfY, .int .i64 a0.LastX, .int .i64 a0.LastY, m8, m9, m10]) (y' := .agg [.int .i64 a0.StateA, .int .i64 0, .int .i64 a0.X, .int .i64 0, .int .i64 0, .int .i64 a0.OfY, .int .i64 a0.LastX, .int .i64 a0.LastY, m8, m9, m10]) 0 hS rfl rfl rfl rfl rfl (by simp only [storA, List.all_cons, List.all_nil, qm8.stor, qm9.stor, qm10.stor]; rfl) rfl rfl fun H hS => ?_
  try simp only [W]
  refine seq_n hK9 ?_
  refine w_ret ?_
  refine fin_r hK0 (res_c rfl rfl (hS.var 0 rfl) rfl rfl) ?_
  try obtain rfl := Option.some.inj h
  exact hP _ qm8 _ qm9 _ qm10 _ (hS.sel 5 [2, 3, 4] (by decide))
theorem spec_l15Opened_w {a0 : List Hello} {a1 : Int} {a2 : Int} {m0 : AV} {r : (List Hello)} (h : spec_l15Opened a0 a1 a2 = some r) {F : List It} {H : Heap} (hS : Own H (⟨m0, 3, a0.map e_Hello⟩::F)) (qm0 : isSl m0) {P : AV → Heap → Prop} (hP : ∀ v11 : AV, isSl v11 → ∀ H', Own H' (⟨v11, 3, r.map e_Hello⟩::F) → P (v11) H') : ACall C 266 [m0, .int .i64 a1, .int .i64 a2] H P := by
  refine acall_of gC (res := [.tmp 6]) (n := 17) rfl rfl rfl rfl fun K0 hK0 => ?_
  simp only [W, Nat.reduceSub, Nat.reduceAdd, List.replicate]
  unfold spec_l15Opened at h
  refine w_seq fun K1 hK1 => ?_
  refine w_reg gC ?_
  try simp only [W, Nat.reduceAdd]
  refine seq_n hK1 ?_
  refine w_seq fun K2 hK2 => ?_
  refine w_seq fun K3 hK3 => ?_
  refine w_reg gC ?_
  try simp only [W, EE, Nat.reduceAdd]
  refine w_len 0 hS rfl qm0 rfl ?_
  try simp only [W, EE]
  refine seq_n hK3 ?_
  refine w_if ?_
  simp only [W]
  refine w_cnd h (fun hc h => ?_) (fun hc h => ?_)
  · refine w_seq fun K4 hK4 => ?_
    refine w_reg gC ?_
    try simp only [W, Nat.reduceAdd]
    refine seq_n hK4 ?_
    refine w_ret ?_
    refine seq_r hK2 ?_
    refine fin_r1 hK0 rfl ?_
    try obtain rfl := Option.some.inj h
    exact hP _ qm0 _ hS
  · refine w_skip ?_
    refine seq_n hK2 ?_
    refine w_seq fun K5 hK5 => ?_
    refine w_reg gC ?_
    try simp only [W, EE, Nat.reduceAdd]
    refine w_bld rfl rfl rfl rfl rfl ?_
    try simp only [W]
    refine w_lit (el := ([(⟨3, a1, a2⟩ : Hello)] : List Hello).map e_Hello) hS rfl rfl rfl rfl rfl rfl rfl fun v6 H qv6 hS => ?_
    try simp only [W, EE]
    refine w_appV (l := a0) (c := e_Hello) 1 hS rfl qm0 rfl rfl rfl (hS.elems 0 rfl qv6) (fun _ => rfl) rfl h fun v9 H x8 qv9 hm h hS => ?_
    try simp only [W]
    refine seq_n hK5 ?_
    refine w_ret ?_
    refine fin_r1 hK0 rfl ?_
    try obtain rfl := Option.some.inj h
    exact hP _ qv9 _ (hS.sel 2 [1] (by decide))
end Go.VxW
