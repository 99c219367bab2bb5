import Derived.Test.YtcgnkhdeckgaaaaVgF
import Derived.Test.YtcgnkhdeckgaaaaProg
import Derived.Test.YtcgnkhdeckgaaaaVaE
import Derived.KernelRfl
open Go Go.VS
set_option maxRecDepth 8000
set_option maxHeartbeats 4000000
namespace Go.VxW
def e_Case (x : Case) : AV := .agg [.int .i64 x.End, .bool x.Asks, .int .i64 x.Final, .int .i64 x.Said]
def e_Slip (x : Slip) : AV := .agg [.int .i64 x.Kind, .int .i64 x.Case, .int .i64 x.What]
def e_Court (x : Court) : AV := .agg [.int .i64 x.Now, .fz (x.Cases.map e_Case), .fz (x.Line.map e_Slip)]
def e_CourtStep (x : CourtStep) : AV := .agg [.int .i64 x.Kind, .int .i64 x.K]
def e_L1Cur (x : L1Cur) : AV := .agg [.fz (x.Code.map (AV.int .u8)), .int .i64 x.At, .int .u64 x.Seed]
def E : TEnv := fun t => match t with
  | 3 => some { sz := 1, agg := false, zero := [AV.int IntKind.i64 0], bytes := 8, und := UD.it IntKind.i64, eqok := true }
  | 4 => some { sz := 1, agg := false, zero := [AV.bool false], bytes := 1, und := UD.bl, eqok := true }
  | 5 => some { sz := 1, agg := false, zero := [AV.int IntKind.u8 0], bytes := 1, und := UD.it IntKind.u8, eqok := true }
  | 22 => some { sz := 1, agg := false, zero := [AV.nil], bytes := 24, und := UD.sl 3, eqok := true }
  | 41 => some { sz := 1, agg := false, zero := [AV.nil], bytes := 24, und := UD.sl 5, eqok := true }
  | 62 => some { sz := 1, agg := false, zero := [AV.nil], bytes := 24, und := UD.sl 108, eqok := true }
  | 65 => some { sz := 1, agg := false, zero := [AV.nil], bytes := 24, und := UD.sl 78, eqok := true }
  | 66 => some { sz := 1, agg := false, zero := [AV.nil], bytes := 24, und := UD.sl 161, eqok := true }
  | 68 => some { sz := 3, agg := true, zero := [AV.int IntKind.i64 0, AV.nil, AV.nil], bytes := 56, und := UD.st [(0, 3), (1, 65), (2, 66)], eqok := true }
  | 69 => some { sz := 1, agg := false, zero := [AV.nil], bytes := 24, und := UD.sl 4, eqok := true }
  | 78 => some { sz := 4, agg := true, zero := [AV.int IntKind.i64 0, AV.bool false, AV.int IntKind.i64 0, AV.int IntKind.i64 0], bytes := 32, und := UD.st [(0, 3), (1, 4), (2, 3), (3, 3)], eqok := true }
  | 108 => some { sz := 2, agg := true, zero := [AV.int IntKind.i64 0, AV.int IntKind.i64 0], bytes := 16, und := UD.st [(0, 3), (1, 3)], eqok := true }
  | 147 => some { sz := 1, agg := false, zero := [AV.nilp], bytes := 8, und := UD.pt, eqok := true }
  | 148 => some { sz := 1, agg := false, zero := [AV.int IntKind.u64 0], bytes := 8, und := UD.it IntKind.u64, eqok := true }
  | 150 => some { sz := 3, agg := true, zero := [AV.nil, AV.int IntKind.i64 0, AV.int IntKind.u64 0], bytes := 40, und := UD.st [(0, 41), (1, 3), (2, 148)], eqok := true }
  | 161 => some { sz := 3, agg := true, zero := [AV.int IntKind.i64 0, AV.int IntKind.i64 0, AV.int IntKind.i64 0], bytes := 24, und := UD.st [(0, 3), (1, 3), (2, 3)], eqok := true }
  | 163 => some { sz := 1, agg := false, zero := [AV.undef], bytes := 8, und := UD.ot, eqok := true }
  | 215 => some { sz := 1, agg := false, zero := [AV.nilp], bytes := 8, und := UD.pt, eqok := true }
  | 223 => some { sz := 1, agg := false, zero := [AV.undef], bytes := 8, und := UD.ot, eqok := true }
  | _ => none
def pol : FuncId → FPol := fun f => match f with
  | 12 => { rsh := [[.sc]], loops := [(0, { keep := [1, 7, 94, 95, 96] })], blocks := [(0, [1])], regs := [(4, [], [2]), (5, [], [2]), (19, [], [1]), (20, [], [1]), (26, [], [1]), (27, [], [1])], frz := [(6, [], some [1, 5, 7, 8, 72]), (9, [], some [1, 5, 7, 92]), (15, [], some [1, 7, 94, 95, 96, 131])], cnds := [(73, [1])] }
  | 48 => { rsh := [[.sc, .sl [.sc, .sc, .sc, .sc], .sl [.sc, .sc, .sc]], [.sl [.sc]], [.sc]], loops := [(0, { keep := [4, 7, 9, 27, 28, 29] })], blocks := [(0, [4, 7, 9])], regs := [(8, [3, 8], [1]), (13, [], [1])], frz := [(2, [], some [1, 4, 7, 25])], cnds := [(40, [4, 7, 9, 13, 27, 28, 29])] }
  | 50 => { rsh := [[.sc]], loops := [(0, { keep := [2, 3, 32, 33] }), (2, { keep := [2, 3, 50, 51] })], blocks := [(0, [2, 3]), (2, [])], frz := [(1, [], some [2, 3, 29])] }
  | 51 => { rsh := [[.sc], [.sc]] }
  | 53 => { rsh := [[.sc]], loops := [(0, { keep := [1, 22, 23, 24] })], blocks := [(0, [1])], frz := [(1, [], some [1, 20]), (6, [], some [1, 22, 23, 24, 61])] }
  | 54 => { rsh := [[.sc, .sl [.sc, .sc, .sc, .sc], .sl [.sc, .sc, .sc]], [.sc], [.sc]], loops := [(0, { keep := [2, 5, 6, 7] })], blocks := [(0, [2, 5, 6])] }
  | 55 => { rsh := [[.sc], [.sc]] }
  | 84 => { rsh := [[.sc, .sl [.sc, .sc, .sc, .sc], .sl [.sc, .sc, .sc]], [.sc, .sc]], regs := [(6, [4, 5], [])] }
  | 85 => { rsh := [[.sc, .sl [.sc, .sc, .sc, .sc], .sl [.sc, .sc, .sc]], [.sc]], frz := [(2, [], some [4, 6, 16])] }
  | 86 => { rsh := [[.sc, .sl [.sc, .sc, .sc, .sc], .sl [.sc, .sc, .sc]], [.sc]], regs := [(3, [3, 8], [1]), (6, [], [1])] }
  | 87 => { rsh := [[.sc]], loops := [(0, { keep := [1, 8, 9, 10] }), (2, { keep := [1, 56, 57, 58] })], blocks := [(0, [1]), (2, [1])], frz := [(4, [], some [1, 8, 9, 10, 53]), (10, [], some [1, 6, 56, 57, 58, 78]), (12, [], some [1, 56, 57, 58, 108])] }
  | 88 => { rsh := [[.sc, .sl [.sc, .sc, .sc, .sc], .sl [.sc, .sc, .sc]]] }
  | 89 => { rsh := [[.sc, .sl [.sc, .sc, .sc, .sc], .sl [.sc, .sc, .sc]], [.sc], [.sc]], loops := [(0, { keep := [2, 5, 6, 7] })], blocks := [(0, [2, 5, 6])], regs := [(13, [], [1])] }
  | 90 => { rsh := [[.sc], [.sc]] }
  | 91 => { rsh := [[.sc], [.sc]], loops := [(0, { keep := [10, 11, 12] })], blocks := [(0, [])], frz := [(6, [], some [10, 11, 12, 25])] }
  | 92 => { rsh := [[.sl [.sc]]] }
  | 93 => { rsh := [[.sc, .sl [.sc, .sc, .sc, .sc], .sl [.sc, .sc, .sc]], [.sc]], loops := [(0, { keep := [2, 4, 8, 9, 10] })], blocks := [(0, [2, 4])] }
  | 94 => { rsh := [[.sc, .sl [.sc, .sc, .sc, .sc], .sl [.sc, .sc, .sc]], [.sc]], loops := [(0, { keep := [2, 4, 16, 17, 18] })], blocks := [(0, [2, 4])], frz := [(1, [], some [0, 2, 14])] }
  | 109 => { rsh := [[.sc]] }
  | 114 => { rsh := [[.sc]] }
  | 141 => { rsh := [[.sl [.sc]]], loops := [(0, { keep := [0, 3, 4] })], blocks := [(0, [0, 3])], frz := [(6, [], some [0, 3, 22])], fz := [(7, [(3, [([25], [.sl [.sc]])])])], cnds := [(22, [3])] }
  | 142 => { rsh := [[.sl [.sc, .sc]]], loops := [(0, { keep := [0, 3, 4] })], blocks := [(0, [0, 3])], frz := [(11, [], some [0, 3, 37])], fz := [(7, [(2, [([18], [.sl [.sc]])])])], cnds := [(9, [0, 3, 4]), (23, [0, 3, 4, 5]), (37, [3])] }
  | 143 => { rsh := [[.sc]], blocks := [(0, [0, 3]), (1, [])], regs := [(21, [8], []), (24, [9], []), (25, [10, 13], []), (31, [14, 17], [])], frz := [(4, [], some [0, 3, 8, 9, 33]), (33, [], some [0, 3, 49, 86, 152])], cnds := [(9, [0, 3, 8, 9]), (34, [0, 3, 8, 9, 34]), (50, []), (60, [0, 3, 5]), (67, []), (86, [0, 3, 49, 86]), (112, [0, 3, 49, 86]), (116, [0, 3, 49, 86])] }
  | 144 => { rsh := [[.sc, .sl [.sc, .sc, .sc, .sc], .sl [.sc, .sc, .sc]], [.sc]], loops := [(1, { keep := [2, 4, 29, 30, 31] })], blocks := [(2, [2, 4, 29, 30, 31]), (1, [2, 4])], frz := [(3, [], some [2, 4, 22]), (9, [], some [2, 4, 6, 29, 30, 31, 45]), (15, [], some [2, 3, 4, 90]), (24, [], some [2, 3, 4, 131])], cnds := [(45, [2, 4, 29, 30, 31]), (53, [2, 3, 4, 53]), (108, [2, 3, 4, 8])] }
  | 145 => { rsh := [[.sc, .sl [.sc, .sc, .sc, .sc], .sl [.sc, .sc, .sc]]] }
  | 146 => { rsh := [[.sc]] }
  | 147 => { rsh := [[.sc]] }
  | 148 => { rsh := [[.sc]] }
  | 149 => { rsh := [[.sc, .sl [.sc, .sc, .sc, .sc], .sl [.sc, .sc, .sc]]], regs := [(1, [9], [4, 7])] }
  | 150 => { rsh := [[.sc]] }
  | 167 => { rsh := [[.sc]], cnds := [(11, [1, 5])] }
  | 168 => { rsh := [[.sc]] }
  | 174 => { rsh := [[.sc]], loops := [(0, { keep := [1, 2, 9, 10, 11] })], blocks := [(0, [])] }
  | 191 => { rsh := [[.sc, .sl [.sc, .sc, .sc, .sc], .sl [.sc, .sc, .sc]]], blocks := [(0, [2, 3])], regs := [(1, [], [4]), (3, [], [1]), (9, [3, 6], []), (11, [5, 6, 7, 10, 12], [])], ords := [(11, [0, 1, 2, 4, 6, 3, 5, 7, 8, 9, 10, 11, 12])], fz := [(6, [(2, [([27], [.sl [.sc]])])])], cnds := [(16, [0, 2, 3]), (24, [2, 3]), (30, [2, 3]), (35, [2, 3]), (42, [2, 3])] }
  | 192 => { rsh := [[.sc]] }
  | 193 => { rsh := [[.sc, .sl [.sc, .sc, .sc, .sc], .sl [.sc, .sc, .sc]]] }
  | 194 => { rsh := [[.sc]], loops := [(0, { keep := [6, 7, 8] })], blocks := [(0, [])] }
  | 219 => { rsh := [[.sc]] }
  | 223 => { rsh := [], regs := [(2, [7, 10], [])] }
  | 224 => { rsh := [[.sl [.sc, .sc, .sc]]], regs := [(5, [6], [])] }
  | 225 => { rsh := [], regs := [(8, [8], [])], cnds := [(24, [0, 3, 4]), (30, [0, 3, 4])] }
  | 226 => { rsh := [], loops := [(0, { keep := [0, 14, 15, 16] })], blocks := [(1, [0, 14, 15, 16]), (0, [])], frz := [(4, [], some [0, 2, 14, 15, 16, 32])], cnds := [(32, [0, 14, 15, 16])] }
  | 227 => { rsh := [[.sc, .sl [.sc, .sc, .sc, .sc], .sl [.sc, .sc, .sc]]], cnds := [(8, [2, 4])] }
  | 228 => { rsh := [[.sc, .sl [.sc, .sc, .sc, .sc], .sl [.sc, .sc, .sc]]], regs := [(9, [11, 12], [])], cnds := [(25, [2, 3, 4]), (28, [2, 3, 4, 5])] }
  | 229 => { rsh := [[.sc]], loops := [(0, { keep := [0, 1, 7, 8] })], blocks := [(0, [])] }
  | 230 => { rsh := [[.sc]] }
  | 231 => { rsh := [[.sl [.sc, .sc, .sc, .sc]]] }
  | 232 => { rsh := [[.sl [.sc, .sc, .sc]]] }
  | 233 => { rsh := [[.sc]], loops := [(0, { keep := [0, 1, 7, 8] })], blocks := [(0, [])] }
  | 234 => { rsh := [[.sc]] }
  | 245 => { rsh := [[.sc]], cnds := [(13, [0, 3])] }
  | _ => {}
noncomputable def code : FuncId → Option Func := fun f => match f with
  | 12 => some Go.Proofs.Try.f12
  | 48 => some Go.Proofs.Try.f48
  | 50 => some Go.Proofs.Try.f50
  | 51 => some Go.Proofs.Try.f51
  | 53 => some Go.Proofs.Try.f53
  | 54 => some Go.Proofs.Try.f54
  | 55 => some Go.Proofs.Try.f55
  | 84 => some Go.Proofs.Try.f84
  | 85 => some Go.Proofs.Try.f85
  | 86 => some Go.Proofs.Try.f86
  | 87 => some Go.Proofs.Try.f87
  | 88 => some Go.Proofs.Try.f88
  | 89 => some Go.Proofs.Try.f89
  | 90 => some Go.Proofs.Try.f90
  | 91 => some Go.Proofs.Try.f91
  | 92 => some Go.Proofs.Try.f92
  | 93 => some Go.Proofs.Try.f93
  | 94 => some Go.Proofs.Try.f94
  | 109 => some Go.Proofs.Try.f109
  | 114 => some Go.Proofs.Try.f114
  | 141 => some Go.Proofs.Try.f141
  | 142 => some Go.Proofs.Try.f142
  | 143 => some Go.Proofs.Try.f143
  | 144 => some Go.Proofs.Try.f144
  | 145 => some Go.Proofs.Try.f145
  | 146 => some Go.Proofs.Try.f146
  | 147 => some Go.Proofs.Try.f147
  | 148 => some Go.Proofs.Try.f148
  | 149 => some Go.Proofs.Try.f149
  | 150 => some Go.Proofs.Try.f150
  | 167 => some Go.Proofs.Try.f167
  | 168 => some Go.Proofs.Try.f168
  | 174 => some Go.Proofs.Try.f174
  | 191 => some Go.Proofs.Try.f191
  | 192 => some Go.Proofs.Try.f192
  | 193 => some Go.Proofs.Try.f193
  | 194 => some Go.Proofs.Try.f194
  | 219 => some Go.Proofs.Try.f219
  | 223 => some Go.Proofs.Try.f223
  | 224 => some Go.Proofs.Try.f224
  | 225 => some Go.Proofs.Try.f225
  | 226 => some Go.Proofs.Try.f226
  | 227 => some Go.Proofs.Try.f227
  | 228 => some Go.Proofs.Try.f228
  | 229 => some Go.Proofs.Try.f229
  | 230 => some Go.Proofs.Try.f230
  | 233 => some Go.Proofs.Try.f233
  | 234 => some Go.Proofs.Try.f234
  | 245 => some Go.Proofs.Try.f245
  | _ => none
def cids : List (FuncId × Nat × Nat) := [(231, 4, 32), (232, 3, 24)]
noncomputable def C : Ctx := ⟨E, pol, code, cloneExt cids⟩
theorem gC : Good C := clone_good (ids := cids) rfl
theorem cE : C.E = E := rfl
theorem E3 : E 3 = some { sz := 1, agg := false, zero := [AV.int IntKind.i64 0], bytes := 8, und := UD.it IntKind.i64, eqok := true } := rfl
theorem E4 : E 4 = some { sz := 1, agg := false, zero := [AV.bool false], bytes := 1, und := UD.bl, eqok := true } := rfl
theorem E5 : E 5 = some { sz := 1, agg := false, zero := [AV.int IntKind.u8 0], bytes := 1, und := UD.it IntKind.u8, eqok := true } := rfl
theorem E22 : E 22 = some { sz := 1, agg := false, zero := [AV.nil], bytes := 24, und := UD.sl 3, eqok := true } := rfl
theorem E41 : E 41 = some { sz := 1, agg := false, zero := [AV.nil], bytes := 24, und := UD.sl 5, eqok := true } := rfl
theorem E62 : E 62 = some { sz := 1, agg := false, zero := [AV.nil], bytes := 24, und := UD.sl 108, eqok := true } := rfl
theorem E65 : E 65 = some { sz := 1, agg := false, zero := [AV.nil], bytes := 24, und := UD.sl 78, eqok := true } := rfl
theorem E66 : E 66 = some { sz := 1, agg := false, zero := [AV.nil], bytes := 24, und := UD.sl 161, eqok := true } := rfl
theorem E68 : E 68 = some { sz := 3, agg := true, zero := [AV.int IntKind.i64 0, AV.nil, AV.nil], bytes := 56, und := UD.st [(0, 3), (1, 65), (2, 66)], eqok := true } := rfl
theorem E69 : E 69 = some { sz := 1, agg := false, zero := [AV.nil], bytes := 24, und := UD.sl 4, eqok := true } := rfl
theorem E78 : E 78 = some { sz := 4, agg := true, zero := [AV.int IntKind.i64 0, AV.bool false, AV.int IntKind.i64 0, AV.int IntKind.i64 0], bytes := 32, und := UD.st [(0, 3), (1, 4), (2, 3), (3, 3)], eqok := true } := rfl
theorem E108 : E 108 = some { sz := 2, agg := true, zero := [AV.int IntKind.i64 0, AV.int IntKind.i64 0], bytes := 16, und := UD.st [(0, 3), (1, 3)], eqok := true } := rfl
theorem E147 : E 147 = some { sz := 1, agg := false, zero := [AV.nilp], bytes := 8, und := UD.pt, eqok := true } := rfl
theorem E148 : E 148 = some { sz := 1, agg := false, zero := [AV.int IntKind.u64 0], bytes := 8, und := UD.it IntKind.u64, eqok := true } := rfl
theorem E150 : E 150 = some { sz := 3, agg := true, zero := [AV.nil, AV.int IntKind.i64 0, AV.int IntKind.u64 0], bytes := 40, und := UD.st [(0, 41), (1, 3), (2, 148)], eqok := true } := rfl
theorem E161 : E 161 = some { sz := 3, agg := true, zero := [AV.int IntKind.i64 0, AV.int IntKind.i64 0, AV.int IntKind.i64 0], bytes := 24, und := UD.st [(0, 3), (1, 3), (2, 3)], eqok := true } := rfl
theorem E163 : E 163 = some { sz := 1, agg := false, zero := [AV.undef], bytes := 8, und := UD.ot, eqok := true } := rfl
theorem E215 : E 215 = some { sz := 1, agg := false, zero := [AV.nilp], bytes := 8, und := UD.pt, eqok := true } := rfl
theorem E223 : E 223 = some { sz := 1, agg := false, zero := [AV.undef], bytes := 8, und := UD.ot, eqok := true } := rfl
theorem EE : type_of% (And.intro @cE <| And.intro @E3 <| And.intro @E4 <| And.intro @E5 <| And.intro @E22 <| And.intro @E41 <| And.intro @E62 <| And.intro @E65 <| And.intro @E66 <| And.intro @E68 <| And.intro @E69 <| And.intro @E78 <| And.intro @E108 <| And.intro @E147 <| And.intro @E148 <| And.intro @E150 <| And.intro @E161 <| And.intro @E163 <| And.intro @E215 @E223) := And.intro @cE <| And.intro @E3 <| And.intro @E4 <| And.intro @E5 <| And.intro @E22 <| And.intro @E41 <| And.intro @E62 <| And.intro @E65 <| And.intro @E66 <| And.intro @E68 <| And.intro @E69 <| And.intro @E78 <| And.intro @E108 <| And.intro @E147 <| And.intro @E148 <| And.intro @E150 <| And.intro @E161 <| And.intro @E163 <| And.intro @E215 @E223
theorem e_Case_d (x : Case) : e_Case x = .agg [.int .i64 x.End, .bool x.Asks, .int .i64 x.Final, .int .i64 x.Said] := rfl
theorem e_Court_d (x : Court) : e_Court x = .agg [.int .i64 x.Now, .fz (x.Cases.map e_Case), .fz (x.Line.map e_Slip)] := rfl
theorem e_CourtStep_d (x : CourtStep) : e_CourtStep x = .agg [.int .i64 x.Kind, .int .i64 x.K] := rfl
theorem e_L1Cur_d (x : L1Cur) : e_L1Cur x = .agg [.fz (x.Code.map (AV.int .u8)), .int .i64 x.At, .int .u64 x.Seed] := rfl
theorem e_Slip_d (x : Slip) : e_Slip x = .agg [.int .i64 x.Kind, .int .i64 x.Case, .int .i64 x.What] := rfl
theorem EN : type_of% (And.intro @e_Case_d <| And.intro @e_Court_d <| And.intro @e_CourtStep_d <| And.intro @e_L1Cur_d <| And.intro @e_Slip_d <| And.intro @fzl_d @killB_n) := And.intro @e_Case_d <| And.intro @e_Court_d <| And.intro @e_CourtStep_d <| And.intro @e_L1Cur_d <| And.intro @e_Slip_d <| And.intro @fzl_d @killB_n
theorem spec_l1Cur_next_w {a0 : L1Cur} {i0 : Nat} {w0 : Nat} {r : (Int × L1Cur)} (h : spec_l1Cur_next a0 = some r) {F : List It} {H : Heap} (hS : Own H (⟨.ptr i0 w0 0 0, 3, [.agg [.fz (a0.Code.map (AV.int .u8)), .int .i64 a0.At, .int .u64 a0.Seed]]⟩ :: F)) {P : AV → Heap → Prop} (hP : ∀ H', Own H' (⟨.ptr i0 w0 0 0, 3, [.agg [.fz (r.2.Code.map (AV.int .u8)), .int .i64 r.2.At, .int .u64 r.2.Seed]]⟩ :: F) → P (.int .i64 r.1) H') : ACall C 245 [.ptr i0 w0 0 0] H P := by
  refine acall_of gC (res := [.tmp 2]) (n := 62) rfl rfl rfl rfl fun K0 hK0 => ?_
  simp only [W, Nat.reduceSub, Nat.reduceAdd, List.replicate]
  unfold spec_l1Cur_next at h
  refine w_seq fun K1 hK1 => ?_
  refine w_reg gC ?_
  try simp only [W, Nat.reduceAdd]
  refine seq_n hK1 ?_
  refine w_seq fun K2 hK2 => ?_
  refine w_reg gC ?_
  try simp only [W, Nat.reduceAdd]
  refine seq_n hK2 ?_
  refine w_seq fun K3 hK3 => ?_
  refine w_seq fun K4 hK4 => ?_
  refine w_draw0 gC (by kernel_rfl) ?_
  try simp only [W, EE, Nat.reduceAdd, Nat.reduceBEq, hS.var 0 rfl]
  refine seq_n hK4 ?_
  obtain ⟨y6, h, g7⟩ := Option.bind_eq_some_iff.1 h
  refine w_join gC (fun s H => ∃ x5 : Int, y6 = (x5) ∧ s = (.ptr i0 w0 0 0 :: u :: u :: .int .i64 x5 :: u :: u :: u :: u :: u :: u :: u :: u :: u :: u :: u :: u :: u :: u :: u :: u :: u :: u :: u :: u :: u :: u :: u :: u :: u :: u :: u :: u :: u :: u :: u :: u :: u :: u :: u :: u :: u :: u :: u :: u :: u :: u :: u :: u :: u :: u :: u :: u :: u :: u :: u :: u :: u :: u :: u :: u :: u :: u :: []) ∧ Own H (⟨.ptr i0 w0 0 0, 3, [.agg [.fz (a0.Code.map (AV.int .u8)), .int .i64 a0.At, .int .u64 a0.Seed]]⟩ :: F)) (fun K8 hK8 => ?_) (fun s H hq => ?_)
  · refine w_seq fun K9 hK9 => ?_
    refine w_if ?_
    simp only [W]
    refine w_cnd h (fun hc h => ?_) (fun hc h => ?_)
    · refine w_draw0 gC (by kernel_rfl) ?_
      try simp only [W, EE, Nat.reduceAdd, Nat.reduceBEq, hS.var 0 rfl]
      refine w_fz rfl rfl rfl (fun _ => rfl) h fun b10 hb10 h => ?_
      try simp only [W, EE]
      refine seq_n hK9 ?_
      refine w_killE (s' := (.ptr i0 w0 0 0 :: u :: u :: .int .i64 (IntKind.i64.wrap b10) :: u :: u :: u :: u :: u :: u :: u :: u :: u :: u :: u :: u :: u :: u :: u :: u :: u :: u :: u :: u :: u :: u :: u :: u :: u :: u :: u :: u :: u :: u :: u :: u :: u :: u :: u :: u :: u :: u :: u :: u :: u :: u :: u :: u :: u :: u :: u :: u :: u :: u :: u :: u :: u :: u :: u :: u :: u :: u :: [])) rfl ?_
      exact cut_n hK8 ⟨_, (Option.some.inj h).symm, rfl, hS⟩
    · refine w_skip ?_
      refine seq_n hK9 ?_
      refine w_killE (s' := (.ptr i0 w0 0 0 :: u :: u :: .int .i64 0 :: u :: u :: u :: u :: u :: u :: u :: u :: u :: u :: u :: u :: u :: u :: u :: u :: u :: u :: u :: u :: u :: u :: u :: u :: u :: u :: u :: u :: u :: u :: u :: u :: u :: u :: u :: u :: u :: u :: u :: u :: u :: u :: u :: u :: u :: u :: u :: u :: u :: u :: u :: u :: u :: u :: u :: u :: u :: u :: [])) rfl ?_
      exact cut_n hK8 ⟨_, (Option.some.inj h).symm, rfl, hS⟩
  · obtain ⟨x5, ey, rfl, hS⟩ := hq; obtain rfl := ey.symm
    replace h := g7
    try dsimp only at h
    refine seq_n hK3 ?_
    refine w_seq fun K11 hK11 => ?_
    refine w_reg gC ?_
    try simp only [W, EE, Nat.reduceAdd, Nat.reduceBEq, hS.var 0 rfl]
    refine w_stv (a := .int .i64 (IntKind.i64.wrap (a0.At + 1))) (y' := .agg [.fz (a0.Code.map (AV.int .u8)), .int .i64 (IntKind.i64.wrap (a0.At + 1)), .int .u64 a0.Seed]) 0 hS rfl rfl rfl rfl rfl rfl rfl rfl fun H hS => ?_
    try simp only [W]
    refine seq_n hK11 ?_
    refine w_seq fun K12 hK12 => ?_
    refine w_reg gC ?_
    try simp only [W, EE, Nat.reduceAdd, Nat.reduceBEq, hS.var 0 rfl]
    refine w_stv (a := .int .u64 (IntKind.u64.wrap ((IntKind.u64.wrap ((IntKind.u64.wrap (a0.Seed * 6364136223846793005)) + (IntKind.u64.wrap x5))) + 1442695040888963407))) (y' := .agg [.fz (a0.Code.map (AV.int .u8)), .int .i64 (IntKind.i64.wrap (a0.At + 1)), .int .u64 (IntKind.u64.wrap ((IntKind.u64.wrap ((IntKind.u64.wrap (a0.Seed * 6364136223846793005)) + (IntKind.u64.wrap x5))) + 1442695040888963407))]) 0 hS rfl rfl rfl rfl rfl rfl rfl rfl fun H hS => ?_
    try simp only [W]
    refine seq_n hK12 ?_
    refine w_seq fun K13 hK13 => ?_
    refine w_seq fun K14 hK14 => ?_
    refine w_draw0 gC (by kernel_rfl) ?_
    try simp only [W, EE, Nat.reduceAdd, Nat.reduceBEq, hS.var 0 rfl]
    refine seq_n hK14 ?_
    refine w_if ?_
    simp only [W]
    refine w_cnd h (fun hc h => ?_) (fun hc h => ?_)
    · refine w_seq fun K15 hK15 => ?_
      refine w_reg gC ?_
      try simp only [W, Nat.reduceAdd]
      refine seq_n hK15 ?_
      refine w_ret ?_
      refine seq_r hK13 ?_
      refine fin_r1 hK0 rfl ?_
      try obtain rfl := Option.some.inj h
      exact hP _ hS
    · refine w_skip ?_
      refine seq_n hK13 ?_
      refine w_seq fun K16 hK16 => ?_
      refine w_reg gC ?_
      try simp only [W, EE, Nat.reduceAdd, Nat.reduceBEq, hS.var 0 rfl]
      rw [sr_lit _ _ _ rfl, Option.map_some, resV_s]
      try simp only [W, EE]
      refine seq_n hK16 ?_
      refine w_ret ?_
      refine fin_r1 hK0 rfl ?_
      try obtain rfl := Option.some.inj h
      exact hP _ hS
theorem spec_l1Cur_pick_w {a0 : L1Cur} {a1 : Int} {i0 : Nat} {w0 : Nat} {r : (Int × L1Cur)} (h : spec_l1Cur_pick a0 a1 = some r) {F : List It} {H : Heap} (hS : Own H (⟨.ptr i0 w0 0 0, 3, [.agg [.fz (a0.Code.map (AV.int .u8)), .int .i64 a0.At, .int .u64 a0.Seed]]⟩ :: F)) {P : AV → Heap → Prop} (hP : ∀ H', Own H' (⟨.ptr i0 w0 0 0, 3, [.agg [.fz (r.2.Code.map (AV.int .u8)), .int .i64 r.2.At, .int .u64 r.2.Seed]]⟩ :: F) → P (.int .i64 r.1) H') : ACall C 167 [.ptr i0 w0 0 0, .int .i64 a1] H P := by
  refine acall_of gC (res := [.tmp 4]) (n := 20) rfl rfl rfl rfl fun K0 hK0 => ?_
  simp only [W, Nat.reduceSub, Nat.reduceAdd, List.replicate]
  unfold spec_l1Cur_pick at h
  refine w_seq fun K1 hK1 => ?_
  refine w_reg gC ?_
  try simp only [W, Nat.reduceAdd]
  refine seq_n hK1 ?_
  refine w_seq fun K2 hK2 => ?_
  refine w_seq fun K3 hK3 => ?_
  refine w_reg gC ?_
  try simp only [W, EE, Nat.reduceAdd]
  refine seq_n hK3 ?_
  refine w_if ?_
  simp only [W]
  refine w_cnd h (fun hc h => ?_) (fun hc h => ?_)
  · refine w_seq fun K4 hK4 => ?_
    refine w_reg gC ?_
    try simp only [W, Nat.reduceAdd]
    refine seq_n hK4 ?_
    refine w_ret ?_
    refine seq_r hK2 ?_
    refine fin_r1 hK0 rfl ?_
    try obtain rfl := Option.some.inj h
    exact hP _ hS
  · refine w_skip ?_
    refine seq_n hK2 ?_
    refine w_seq fun K5 hK5 => ?_
    refine w_reg gC ?_
    try simp only [W, Nat.reduceAdd]
    refine w_call h fun b6 hb6 h => ?_
    obtain ⟨b7, b8⟩ := b6
    try dsimp only at h
    refine spec_l1Cur_next_w hb6 hS fun H hS => ?_
    try simp only [W]
    refine seq_n hK5 ?_
    refine w_seq fun K9 hK9 => ?_
    refine w_seq fun K10 hK10 => ?_
    refine w_reg gC ?_
    try simp only [W, EE, Nat.reduceAdd]
    refine seq_n hK10 ?_
    obtain ⟨y15, h, g16⟩ := Option.bind_eq_some_iff.1 h
    refine w_join gC (fun s H => ∃ x11 : Int, ∃ x12 : List Int, ∃ x13 : Int, ∃ x14 : Int, y15 = (x11, x12, x13, x14) ∧ s = [u, .int .i64 a1, u, u, u, .int .i64 x11, u, u, u, u, u, u, u, u, u, u, u, u, u, u] ∧ Own H (⟨.ptr i0 w0 0 0, 3, [.agg [.fz (x12.map (AV.int .u8)), .int .i64 x13, .int .u64 x14]]⟩ :: F)) (fun K17 hK17 => ?_) (fun s H hq => ?_)
    · refine w_seq fun K18 hK18 => ?_
      refine w_if ?_
      simp only [W]
      refine w_cnd h (fun hc h => ?_) (fun hc h => ?_)
      · refine w_reg gC ?_
        try simp only [W, EE, Nat.reduceAdd]
        refine w_call h fun b19 hb19 h => ?_
        obtain ⟨b20, b21⟩ := b19
        try dsimp only at h
        refine spec_l1Cur_next_w hb19 hS fun H hS => ?_
        try simp only [W, EE]
        refine seq_n hK18 ?_
        refine w_kill ?_
        exact cut_n hK17 ⟨_, _, _, _, (Option.some.inj h).symm, rfl, hS⟩
      · refine w_skip ?_
        refine seq_n hK18 ?_
        refine w_kill ?_
        exact cut_n hK17 ⟨_, _, _, _, (Option.some.inj h).symm, rfl, hS⟩
    · obtain ⟨x11, x12, x13, x14, rfl, rfl, hS⟩ := hq
      replace h := g16
      try dsimp only at h
      refine seq_n hK9 ?_
      refine w_seq fun K22 hK22 => ?_
      refine w_reg gC ?_
      try simp only [W, EE, Nat.reduceAdd]
      refine w_num _ h fun x23 hx23 h => ?_
      try simp only [W]
      refine seq_n hK22 ?_
      refine w_ret ?_
      refine fin_r1 hK0 rfl ?_
      try obtain rfl := Option.some.inj h
      exact hP _ hS
theorem spec_l1Cur_one_w {a0 : L1Cur} {a1 : Int} {i0 : Nat} {w0 : Nat} {r : (Bool × L1Cur)} (h : spec_l1Cur_one a0 a1 = some r) {F : List It} {H : Heap} (hS : Own H (⟨.ptr i0 w0 0 0, 3, [.agg [.fz (a0.Code.map (AV.int .u8)), .int .i64 a0.At, .int .u64 a0.Seed]]⟩ :: F)) {P : AV → Heap → Prop} (hP : ∀ H', Own H' (⟨.ptr i0 w0 0 0, 3, [.agg [.fz (r.2.Code.map (AV.int .u8)), .int .i64 r.2.At, .int .u64 r.2.Seed]]⟩ :: F) → P (.bool r.1) H') : ACall C 168 [.ptr i0 w0 0 0, .int .i64 a1] H P := by
  refine acall_of gC (res := [.tmp 4]) (n := 9) rfl rfl rfl rfl fun K0 hK0 => ?_
  simp only [W, Nat.reduceSub, Nat.reduceAdd, List.replicate]
  unfold spec_l1Cur_one at h
  refine w_seq fun K1 hK1 => ?_
  refine w_reg gC ?_
  try simp only [W, Nat.reduceAdd]
  refine seq_n hK1 ?_
  refine w_seq fun K2 hK2 => ?_
  refine w_reg gC ?_
  try simp only [W, Nat.reduceAdd]
  refine w_call h fun b3 hb3 h => ?_
  obtain ⟨b4, b5⟩ := b3
  try dsimp only at h
  refine spec_l1Cur_pick_w hb3 hS fun H hS => ?_
  try simp only [W, EE]
  refine seq_n hK2 ?_
  refine w_ret ?_
  refine fin_r1 hK0 rfl ?_
  try obtain rfl := Option.some.inj h
  exact hP _ hS
theorem spec_l1Cur_among_w {a0 : L1Cur} {a1 : List Int} {i0 : Nat} {w0 : Nat} {r : (Int × L1Cur)} (h : spec_l1Cur_among a0 a1 = some r) {F : List It} {H : Heap} (hS : Own H (⟨.ptr i0 w0 0 0, 3, [.agg [.fz (a0.Code.map (AV.int .u8)), .int .i64 a0.At, .int .u64 a0.Seed]]⟩ :: F)) {P : AV → Heap → Prop} (hP : ∀ H', Own H' (⟨.ptr i0 w0 0 0, 3, [.agg [.fz (r.2.Code.map (AV.int .u8)), .int .i64 r.2.At, .int .u64 r.2.Seed]]⟩ :: F) → P (.int .i64 r.1) H') : ACall C 219 [.ptr i0 w0 0 0, .fz (a1.map (AV.int .i64))] H P := by
  refine acall_of gC (res := [.tmp 4]) (n := 12) rfl rfl rfl rfl fun K0 hK0 => ?_
  simp only [W, Nat.reduceSub, Nat.reduceAdd, List.replicate]
  unfold spec_l1Cur_among at h
  refine w_seq fun K1 hK1 => ?_
  refine w_reg gC ?_
  try simp only [W, Nat.reduceAdd]
  refine seq_n hK1 ?_
  refine w_seq fun K2 hK2 => ?_
  refine w_reg gC ?_
  try simp only [W, EE, Nat.reduceAdd]
  refine w_call h fun b3 hb3 h => ?_
  obtain ⟨b4, b5⟩ := b3
  try dsimp only at h
  refine spec_l1Cur_pick_w hb3 hS fun H hS => ?_
  try simp only [W, EE]
  refine w_fz rfl rfl rfl (fun _ => rfl) h fun b6 hb6 h => ?_
  try simp only [W, EE]
  refine seq_n hK2 ?_
  refine w_ret ?_
  refine fin_r1 hK0 rfl ?_
  try obtain rfl := Option.some.inj h
  exact hP _ hS
theorem spec_l1Cur_ends_w {a0 : L1Cur} {i0 : Nat} {w0 : Nat} {r : (List Int × L1Cur)} (h : spec_l1Cur_ends a0 = some r) {F : List It} {H : Heap} (hS : Own H (⟨.ptr i0 w0 0 0, 3, [.agg [.fz (a0.Code.map (AV.int .u8)), .int .i64 a0.At, .int .u64 a0.Seed]]⟩ :: F)) {P : AV → Heap → Prop} (hP : ∀ v71 : AV, isSl v71 → ∀ H', Own H' (⟨v71, 1, r.1.map (AV.int .i64)⟩ :: ⟨.ptr i0 w0 0 0, 3, [.agg [.fz (r.2.Code.map (AV.int .u8)), .int .i64 r.2.At, .int .u64 r.2.Seed]]⟩ :: F) → P (v71) H') : ACall C 141 [.ptr i0 w0 0 0] H P := by
  refine acall_of gC (res := [.tmp 2]) (n := 29) rfl rfl rfl rfl fun K0 hK0 => ?_
  simp only [W, Nat.reduceSub, Nat.reduceAdd, List.replicate]
  unfold spec_l1Cur_ends at h
  refine w_seq fun K1 hK1 => ?_
  refine w_reg gC ?_
  try simp only [W, Nat.reduceAdd]
  refine seq_n hK1 ?_
  refine w_seq fun K2 hK2 => ?_
  refine w_reg gC ?_
  try simp only [W, Nat.reduceAdd]
  refine seq_n hK2 ?_
  refine w_seq fun K3 hK3 => ?_
  refine w_seq fun K4 hK4 => ?_
  refine w_reg gC ?_
  try simp only [W, Nat.reduceAdd]
  refine w_call h fun b5 hb5 h => ?_
  obtain ⟨b6, b7⟩ := b5
  try dsimp only at h
  refine spec_l1Cur_pick_w hb5 hS fun H hS => ?_
  try simp only [W]
  refine seq_n hK4 ?_
  obtain ⟨y20, hw21, g27⟩ := Option.bind_eq_some_iff.1 h
  refine w_join gC (fun s H => ∃ x15 : List Int, ∃ x17 : List Int, ∃ x18 : Int, ∃ x19 : Int, y20 = (x15, x17, x18, x19) ∧ ∃ v16 : AV, isSl v16 ∧ s = [.ptr i0 w0 0 0, u, u, v16, u, u, u, u, u, u, u, u, u, u, u, u, u, u, u, u, u, u, u, u, u, u, u, u, u] ∧ Own H (⟨v16, 1, x15.map (AV.int .i64)⟩ :: ⟨.ptr i0 w0 0 0, 3, [.agg [.fz (x17.map (AV.int .u8)), .int .i64 x18, .int .u64 x19]]⟩ :: F)) (fun K22 hK22 => ?_) (fun s H hq => ?_)
  · refine w_blk fun K23 hK23 => ?_
    refine w_loop gC hw21 (fun x s H => match x with | (x8, x11, x12, x13, x14) => ∃ v9 : AV, isSl v9 ∧ s = [.ptr i0 w0 0 0, u, u, v9, .int .i64 x11, u, u, u, u, u, u, u, u, u, u, u, u, u, u, u, u, u, u, u, u, u, u, u, u] ∧ Own H (⟨v9, 1, x8.map (AV.int .i64)⟩ :: ⟨.ptr i0 w0 0 0, 3, [.agg [.fz (x12.map (AV.int .u8)), .int .i64 x13, .int .u64 x14]]⟩ :: F)) ⟨_, isSl_nil, rfl, (hS.nil_ 1)⟩ (fun x y26 s H h hd25 hi K24 hK24 => ?_)
    obtain ⟨x8, x11, x12, x13, x14⟩ := x
    try dsimp only at hi
    obtain ⟨v9, qv9, rfl, hS⟩ := hi
    simp only [spec_l1Cur_ends_l0] at h
    refine w_seq fun K28 hK28 => ?_
    refine w_seq fun K29 hK29 => ?_
    refine w_reg gC ?_
    try simp only [W, EE, Nat.reduceAdd]
    refine seq_n hK29 ?_
    refine w_if ?_
    simp only [W]
    refine w_cnd h (fun hc h => ?_) (fun hc h => ?_)
    · refine w_skip ?_
      refine seq_n hK28 ?_
      refine w_seq fun K30 hK30 => ?_
      refine w_blk fun K31 hK31 => ?_
      refine w_reg gC ?_
      try simp only [W, Nat.reduceAdd]
      refine w_call h fun b32 hb32 h => ?_
      obtain ⟨b33, b34⟩ := b32
      try dsimp only at h
      refine spec_l1Cur_pick_w hb32 (hS.sel 2 [1, 0] (by decide)) fun H hS => ?_
      try simp only [W]
      refine w_lit (el := ([b33] : List Int).map (AV.int .i64)) hS rfl rfl rfl rfl rfl rfl rfl fun v35 H qv35 hS => ?_
      try simp only [W, EE]
      refine w_appV (l := x8) (c := (AV.int .i64)) 2 hS rfl qv9 rfl rfl rfl (hS.elems 0 rfl qv35) (fun _ => rfl) rfl h fun v38 H x37 qv38 hm h hS => ?_
      try simp only [W]
      refine blk_n0 hK31 ?_
      refine seq_n hK30 ?_
      refine w_reg gC ?_
      try simp only [W, EE, Nat.reduceAdd]
      exact lp_n hK24 h ⟨_, qv38, rfl, (hS.sel 3 [2, 1] (by decide))⟩
    · refine w_exit ?_
      refine seq_x hK28 ?_
      try obtain rfl := Option.some.inj h
      obtain rfl := hd25 _ rfl
      have h : (some (x8, x12, x13, x14) : Option ((List Int) × (List Int) × Int × Int)) = some (x8, x12, x13, x14) := rfl
      refine lp_x hK24 ?_
      refine blk_e hK23 ?_
      exact cut_n hK22 ⟨_, _, _, _, (Option.some.inj h).symm, _, qv9, rfl, hS⟩
  · obtain ⟨x15, x17, x18, x19, rfl, v16, qv16, rfl, hS⟩ := hq
    replace h := g27
    try dsimp only at h
    refine seq_n hK3 ?_
    refine w_seq fun K42 hK42 => ?_
    refine w_seq fun K43 hK43 => ?_
    obtain ⟨y48, h, g49⟩ := Option.bind_eq_some_iff.1 h
    refine w_join gC (fun s H => ∃ x44 : Bool, ∃ x45 : List Int, ∃ x46 : Int, ∃ x47 : Int, y48 = (x44, x45, x46, x47) ∧ s = [.ptr i0 w0 0 0, u, u, v16, u, u, u, u, u, u, u, u, u, u, u, u, u, u, u, u, u, u, .bool x44, u, u, u, u, u, u] ∧ Own H (⟨v16, 1, x15.map (AV.int .i64)⟩ :: ⟨.ptr i0 w0 0 0, 3, [.agg [.fz (x45.map (AV.int .u8)), .int .i64 x46, .int .u64 x47]]⟩ :: F)) (fun K50 hK50 => ?_) (fun s H hq => ?_)
    · refine w_seq fun K51 hK51 => ?_
      refine w_reg gC ?_
      try simp only [W, EE, Nat.reduceAdd]
      refine w_len 0 hS rfl qv16 rfl ?_
      try simp only [W, EE]
      refine w_grdT h (fun hc h => ?_) (fun hc h => ?_)
      · try simp only [W, hc]
        refine w_call h fun b52 hb52 h => ?_
        obtain ⟨b53, b54⟩ := b52
        try dsimp only at h
        refine spec_l1Cur_one_w hb52 (hS.sel 2 [1, 0] (by decide)) fun H hS => ?_
        try simp only [W, reduceIte]
        refine seq_n hK51 ?_
        refine w_kill ?_
        exact cut_n hK50 ⟨_, _, _, _, (Option.some.inj h).symm, rfl, (hS.sel 2 [1, 0] (by decide))⟩
      · try simp only [W, hc]
        refine seq_n hK51 ?_
        refine w_kill ?_
        exact cut_n hK50 ⟨_, _, _, _, (Option.some.inj h).symm, rfl, hS⟩
    · obtain ⟨x44, x45, x46, x47, rfl, rfl, hS⟩ := hq
      replace h := g49
      try dsimp only at h
      refine seq_n hK43 ?_
      obtain ⟨y59, h, g60⟩ := Option.bind_eq_some_iff.1 h
      refine w_join gC (fun s H => ∃ x55 : List Int, ∃ x56 : List Int, ∃ x57 : Int, ∃ x58 : Int, y59 = (x55, x56, x57, x58) ∧ s = [u, u, u, v16, u, u, u, u, u, u, u, u, u, u, u, u, u, u, u, u, u, u, u, u, u, u, u, u, u] ∧ Own H (⟨v16, 1, x55.map (AV.int .i64)⟩ :: ⟨.ptr i0 w0 0 0, 3, [.agg [.fz (x56.map (AV.int .u8)), .int .i64 x57, .int .u64 x58]]⟩ :: F)) (fun K61 hK61 => ?_) (fun s H hq => ?_)
      · refine w_seq fun K62 hK62 => ?_
        refine w_if ?_
        simp only [W]
        refine w_cnd h (fun hc h => ?_) (fun hc h => ?_)
        · refine w_regF (fz := [(3, [([25], [.sl [.sc]])])]) gC ?_
          try simp only [W, Nat.reduceAdd, Nat.reduceBEq]
          refine w_lit (el := ([-1, 100, 101] : List Int).map (AV.int .i64)) hS rfl rfl rfl rfl rfl rfl rfl fun v63 H qv63 hS => ?_
          try simp only [W, Nat.reduceAdd]
          refine FZ_own 0 hS rfl qv63 rfl (fun _ _ => by simp [takeE, takeT, plainA]) (fun _ => rfl) fun H hsame hS => ?_
          try simp only [W]
          refine w_call h fun b65 hb65 h => ?_
          obtain ⟨b66, b67⟩ := b65
          try dsimp only at h
          refine spec_l1Cur_among_w hb65 (hS.sel 2 [1, 0] (by decide)) fun H hS => ?_
          try simp only [W, EE, Nat.reduceAdd, Nat.reduceBEq]
          refine w_ow 1 hS rfl rfl rfl rfl rfl h (fun b68 in69 wn69 on69 hb68 h en69 => ?_) qv16.ne
          obtain ⟨kn69, hbn69, hen69⟩ := hS.elem 1 rfl en69 hb68
          try simp only [W, Nat.reduceAdd, Nat.reduceBEq]
          refine w_ste (a := .int .i64 b66) (y' := b66) 1 hS rfl en69 hb68 rfl rfl rfl rfl rfl rfl rfl fun H hS => ?_
          try simp only [W, Nat.reduceAdd]
          refine seq_n hK62 ?_
          refine w_kill ?_
          exact cut_n hK61 ⟨_, _, _, _, (Option.some.inj h).symm, rfl, (hS.sel 2 [1, 0] (by decide))⟩
        · refine w_skip ?_
          refine seq_n hK62 ?_
          refine w_kill ?_
          exact cut_n hK61 ⟨_, _, _, _, (Option.some.inj h).symm, rfl, hS⟩
      · obtain ⟨x55, x56, x57, x58, rfl, rfl, hS⟩ := hq
        replace h := g60
        try dsimp only at h
        refine seq_n hK42 ?_
        refine w_seq fun K70 hK70 => ?_
        refine w_reg gC ?_
        try simp only [W, Nat.reduceAdd]
        refine seq_n hK70 ?_
        refine w_ret ?_
        refine fin_r1 hK0 rfl ?_
        try obtain rfl := Option.some.inj h
        exact hP _ qv16 _ hS
theorem spec_l1Cur_courtSteps_w {a0 : L1Cur} {i0 : Nat} {w0 : Nat} {r : (List CourtStep × L1Cur)} (h : spec_l1Cur_courtSteps a0 = some r) {F : List It} {H : Heap} (hS : Own H (⟨.ptr i0 w0 0 0, 3, [.agg [.fz (a0.Code.map (AV.int .u8)), .int .i64 a0.At, .int .u64 a0.Seed]]⟩ :: F)) {P : AV → Heap → Prop} (hP : ∀ v106 : AV, isSl v106 → ∀ H', Own H' (⟨v106, 2, r.1.map e_CourtStep⟩ :: ⟨.ptr i0 w0 0 0, 3, [.agg [.fz (r.2.Code.map (AV.int .u8)), .int .i64 r.2.At, .int .u64 r.2.Seed]]⟩ :: F) → P (v106) H') : ACall C 142 [.ptr i0 w0 0 0] H P := by
  refine acall_of gC (res := [.tmp 2]) (n := 47) rfl rfl rfl rfl fun K0 hK0 => ?_
  simp only [W, Nat.reduceSub, Nat.reduceAdd, List.replicate]
  unfold spec_l1Cur_courtSteps at h
  refine w_seq fun K1 hK1 => ?_
  refine w_reg gC ?_
  try simp only [W, Nat.reduceAdd]
  refine seq_n hK1 ?_
  refine w_seq fun K2 hK2 => ?_
  refine w_reg gC ?_
  try simp only [W, Nat.reduceAdd]
  refine seq_n hK2 ?_
  refine w_seq fun K3 hK3 => ?_
  refine w_reg gC ?_
  try simp only [W, Nat.reduceAdd]
  refine w_call h fun b4 hb4 h => ?_
  obtain ⟨b5, b6⟩ := b4
  try dsimp only at h
  refine spec_l1Cur_pick_w hb4 hS fun H hS => ?_
  try simp only [W]
  refine seq_n hK3 ?_
  refine w_seq fun K7 hK7 => ?_
  refine w_seq fun K8 hK8 => ?_
  refine w_reg gC ?_
  try simp only [W, Nat.reduceAdd]
  refine w_call h fun b9 hb9 h => ?_
  obtain ⟨b10, b11⟩ := b9
  try dsimp only at h
  refine spec_l1Cur_one_w hb9 hS fun H hS => ?_
  try simp only [W]
  refine seq_n hK8 ?_
  obtain ⟨y16, h, g17⟩ := Option.bind_eq_some_iff.1 h
  refine w_join gC (fun s H => ∃ x12 : Int, ∃ x13 : List Int, ∃ x14 : Int, ∃ x15 : Int, y16 = (x12, x13, x14, x15) ∧ s = [.ptr i0 w0 0 0, u, u, .nil, .int .i64 x12, u, u, u, u, u, u, u, u, u, u, u, u, u, u, u, u, u, u, u, u, u, u, u, u, u, u, u, u, u, u, u, u, u, u, u, u, u, u, u, u, u, u] ∧ Own H (⟨.ptr i0 w0 0 0, 3, [.agg [.fz (x13.map (AV.int .u8)), .int .i64 x14, .int .u64 x15]]⟩ :: F)) (fun K18 hK18 => ?_) (fun s H hq => ?_)
  · refine w_seq fun K19 hK19 => ?_
    refine w_if ?_
    simp only [W]
    refine w_cnd h (fun hc h => ?_) (fun hc h => ?_)
    · refine w_reg gC ?_
      try simp only [W, Nat.reduceAdd]
      refine w_call h fun b20 hb20 h => ?_
      obtain ⟨b21, b22⟩ := b20
      try dsimp only at h
      refine spec_l1Cur_pick_w hb20 hS fun H hS => ?_
      try simp only [W, EE]
      refine seq_n hK19 ?_
      refine w_kill ?_
      exact cut_n hK18 ⟨_, _, _, _, (Option.some.inj h).symm, rfl, hS⟩
    · refine w_skip ?_
      refine seq_n hK19 ?_
      refine w_kill ?_
      exact cut_n hK18 ⟨_, _, _, _, (Option.some.inj h).symm, rfl, hS⟩
  · obtain ⟨x12, x13, x14, x15, rfl, rfl, hS⟩ := hq
    replace h := g17
    try dsimp only at h
    refine seq_n hK7 ?_
    refine w_seq fun K23 hK23 => ?_
    obtain ⟨y36, hw37, g43⟩ := Option.bind_eq_some_iff.1 h
    refine w_join gC (fun s H => ∃ x31 : List CourtStep, ∃ x33 : List Int, ∃ x34 : Int, ∃ x35 : Int, y36 = (x31, x33, x34, x35) ∧ ∃ v32 : AV, isSl v32 ∧ s = [.ptr i0 w0 0 0, u, u, v32, u, u, u, u, u, u, u, u, u, u, u, u, u, u, u, u, u, u, u, u, u, u, u, u, u, u, u, u, u, u, u, u, u, u, u, u, u, u, u, u, u, u, u] ∧ Own H (⟨v32, 2, x31.map e_CourtStep⟩ :: ⟨.ptr i0 w0 0 0, 3, [.agg [.fz (x33.map (AV.int .u8)), .int .i64 x34, .int .u64 x35]]⟩ :: F)) (fun K38 hK38 => ?_) (fun s H hq => ?_)
    · refine w_blk fun K39 hK39 => ?_
      refine w_loop gC hw37 (fun x s H => match x with | (x24, x27, x28, x29, x30) => ∃ v25 : AV, isSl v25 ∧ s = [.ptr i0 w0 0 0, u, u, v25, .int .i64 x27, u, u, u, u, u, u, u, u, u, u, u, u, u, u, u, u, u, u, u, u, u, u, u, u, u, u, u, u, u, u, u, u, u, u, u, u, u, u, u, u, u, u] ∧ Own H (⟨v25, 2, x24.map e_CourtStep⟩ :: ⟨.ptr i0 w0 0 0, 3, [.agg [.fz (x28.map (AV.int .u8)), .int .i64 x29, .int .u64 x30]]⟩ :: F)) ⟨_, isSl_nil, rfl, (hS.nil_ 2)⟩ (fun x y42 s H h hd41 hi K40 hK40 => ?_)
      obtain ⟨x24, x27, x28, x29, x30⟩ := x
      try dsimp only at hi
      obtain ⟨v25, qv25, rfl, hS⟩ := hi
      simp only [spec_l1Cur_courtSteps_l0] at h
      refine w_seq fun K44 hK44 => ?_
      refine w_seq fun K45 hK45 => ?_
      refine w_reg gC ?_
      try simp only [W, EE, Nat.reduceAdd]
      refine seq_n hK45 ?_
      refine w_if ?_
      simp only [W]
      refine w_cnd h (fun hc h => ?_) (fun hc h => ?_)
      · refine w_skip ?_
        refine seq_n hK44 ?_
        refine w_seq fun K46 hK46 => ?_
        refine w_blk fun K47 hK47 => ?_
        refine w_seq fun K48 hK48 => ?_
        refine w_regF (fz := [(2, [([18], [.sl [.sc]])])]) gC ?_
        try simp only [W, Nat.reduceAdd, Nat.reduceBEq]
        refine w_lit (el := ([1, 1, 1, 2, 3, 3, 3, 3, 4, 5, 6] : List Int).map (AV.int .i64)) hS rfl rfl rfl rfl rfl rfl rfl fun v49 H qv49 hS => ?_
        try simp only [W, Nat.reduceAdd]
        refine FZ_own 0 hS rfl qv49 rfl (fun _ _ => by simp [takeE, takeT, plainA]) (fun _ => rfl) fun H hsame hS => ?_
        try simp only [W]
        refine w_call h fun b51 hb51 h => ?_
        obtain ⟨b52, b53⟩ := b51
        try dsimp only at h
        refine spec_l1Cur_among_w hb51 (hS.sel 2 [1, 0] (by decide)) fun H hS => ?_
        try simp only [W, EE, Nat.reduceAdd, Nat.reduceBEq]
        refine w_bld rfl rfl rfl rfl rfl ?_
        try simp only [W, Nat.reduceAdd, Nat.reduceBEq]
        refine w_alloc hS rfl rfl fun ip54 wp54 H hS => ?_
        try simp only [W, Nat.reduceAdd, Nat.reduceBEq]
        refine w_stv (a := .agg [.int .i64 b52, .int .i64 0]) (y' := .agg [.int .i64 b52, .int .i64 0]) 0 hS rfl rfl rfl rfl rfl rfl rfl rfl fun H hS => ?_
        try simp only [W, Nat.reduceAdd]
        refine seq_n hK48 ?_
        refine w_seq fun K56 hK56 => ?_
        refine w_seq fun K57 hK57 => ?_
        refine w_reg gC ?_
        try simp only [W, EE, Nat.reduceAdd, Nat.reduceBEq, hS.var 0 rfl]
        refine seq_n hK57 ?_
        obtain ⟨y62, h, g63⟩ := Option.bind_eq_some_iff.1 h
        refine w_join gC (fun s H => ∃ x58 : List Int, ∃ x59 : Int, ∃ x60 : Int, ∃ x61 : Int, y62 = (x58, x59, x60, x61) ∧ s = [.ptr i0 w0 0 0, u, u, v25, .int .i64 x27, .ptr ip54 wp54 0 0, u, u, u, u, u, u, u, u, u, u, u, u, u, u, u, u, u, u, u, u, u, u, u, u, u, u, u, u, u, u, u, u, u, u, u, u, u, u, u, u, u] ∧ Own H (⟨v25, 2, x24.map e_CourtStep⟩ :: ⟨.ptr i0 w0 0 0, 3, [.agg [.fz (x58.map (AV.int .u8)), .int .i64 x59, .int .u64 x60]]⟩ :: ⟨.ptr ip54 wp54 0 0, 2, [.agg [.int .i64 b52, .int .i64 x61]]⟩ :: F)) (fun K64 hK64 => ?_) (fun s H hq => ?_)
        · refine w_seq fun K65 hK65 => ?_
          refine w_if ?_
          simp only [W]
          refine w_cnd h (fun hc h => ?_) (fun hc h => ?_)
          · refine w_reg gC ?_
            try simp only [W, Nat.reduceAdd]
            refine w_call h fun b66 hb66 h => ?_
            obtain ⟨b67, b68⟩ := b66
            try dsimp only at h
            refine spec_l1Cur_pick_w hb66 (hS.sel 3 [1, 0, 2] (by decide)) fun H hS => ?_
            try simp only [W, EE, Nat.reduceAdd, Nat.reduceBEq, hS.var 1 rfl]
            refine w_stv (a := .int .i64 b67) (y' := .agg [.int .i64 b52, .int .i64 b67]) 1 hS rfl rfl rfl rfl rfl rfl rfl rfl fun H hS => ?_
            try simp only [W]
            refine seq_n hK65 ?_
            refine w_kill ?_
            exact cut_n hK64 ⟨_, _, _, _, (Option.some.inj h).symm, rfl, (hS.sel 3 [2, 0, 1] (by decide))⟩
          · refine w_skip ?_
            refine seq_n hK65 ?_
            refine w_kill ?_
            exact cut_n hK64 ⟨_, _, _, _, (Option.some.inj h).symm, rfl, (hS.sel 3 [2, 1, 0] (by decide))⟩
        · obtain ⟨x58, x59, x60, x61, rfl, rfl, hS⟩ := hq
          replace h := g63
          try dsimp only at h
          refine seq_n hK56 ?_
          refine w_reg gC ?_
          try simp only [W, EE, reduceIte, Nat.reduceAdd, Nat.reduceLeDiff, hS.var 2 rfl]
          refine w_lit (el := ([(⟨b52, x61⟩ : CourtStep)] : List CourtStep).map e_CourtStep) hS rfl rfl rfl rfl rfl rfl rfl fun v69 H qv69 hS => ?_
          try simp only [W, EE]
          refine w_appV (l := x24) (c := e_CourtStep) 1 hS rfl qv25 rfl rfl rfl (hS.elems 0 rfl qv69) (fun _ => rfl) rfl h fun v72 H x71 qv72 hm h hS => ?_
          try simp only [W]
          refine blk_n0 hK47 ?_
          refine seq_n hK46 ?_
          refine w_reg gC ?_
          try simp only [W, EE, Nat.reduceAdd]
          exact lp_n hK40 h ⟨_, qv72, rfl, (hS.sel 4 [1, 2] (by decide))⟩
      · refine w_exit ?_
        refine seq_x hK44 ?_
        try obtain rfl := Option.some.inj h
        obtain rfl := hd41 _ rfl
        have h : (some (x24, x28, x29, x30) : Option ((List CourtStep) × (List Int) × Int × Int)) = some (x24, x28, x29, x30) := rfl
        refine lp_x hK40 ?_
        refine blk_e hK39 ?_
        exact cut_n hK38 ⟨_, _, _, _, (Option.some.inj h).symm, _, qv25, rfl, hS⟩
    · obtain ⟨x31, x33, x34, x35, rfl, v32, qv32, rfl, hS⟩ := hq
      replace h := g43
      try dsimp only at h
      refine seq_n hK23 ?_
      refine w_seq fun K76 hK76 => ?_
      refine w_seq fun K77 hK77 => ?_
      obtain ⟨y82, h, g83⟩ := Option.bind_eq_some_iff.1 h
      refine w_join gC (fun s H => ∃ x78 : Bool, ∃ x79 : List Int, ∃ x80 : Int, ∃ x81 : Int, y82 = (x78, x79, x80, x81) ∧ s = [.ptr i0 w0 0 0, u, u, v32, u, u, u, u, u, u, u, u, u, u, u, u, u, u, u, u, u, u, u, u, u, u, u, u, u, u, u, u, u, u, u, u, u, .bool x78, u, u, u, u, u, u, u, u, u] ∧ Own H (⟨v32, 2, x31.map e_CourtStep⟩ :: ⟨.ptr i0 w0 0 0, 3, [.agg [.fz (x79.map (AV.int .u8)), .int .i64 x80, .int .u64 x81]]⟩ :: F)) (fun K84 hK84 => ?_) (fun s H hq => ?_)
      · refine w_seq fun K85 hK85 => ?_
        refine w_reg gC ?_
        try simp only [W, EE, Nat.reduceAdd]
        refine w_len 0 hS rfl qv32 rfl ?_
        try simp only [W, EE]
        refine w_grdT h (fun hc h => ?_) (fun hc h => ?_)
        · try simp only [W, hc]
          refine w_call h fun b86 hb86 h => ?_
          obtain ⟨b87, b88⟩ := b86
          try dsimp only at h
          refine spec_l1Cur_one_w hb86 (hS.sel 2 [1, 0] (by decide)) fun H hS => ?_
          try simp only [W, reduceIte]
          refine seq_n hK85 ?_
          refine w_kill ?_
          exact cut_n hK84 ⟨_, _, _, _, (Option.some.inj h).symm, rfl, (hS.sel 2 [1, 0] (by decide))⟩
        · try simp only [W, hc]
          refine seq_n hK85 ?_
          refine w_kill ?_
          exact cut_n hK84 ⟨_, _, _, _, (Option.some.inj h).symm, rfl, hS⟩
      · obtain ⟨x78, x79, x80, x81, rfl, rfl, hS⟩ := hq
        replace h := g83
        try dsimp only at h
        refine seq_n hK77 ?_
        obtain ⟨y93, h, g94⟩ := Option.bind_eq_some_iff.1 h
        refine w_join gC (fun s H => ∃ x89 : List CourtStep, ∃ x90 : List Int, ∃ x91 : Int, ∃ x92 : Int, y93 = (x89, x90, x91, x92) ∧ s = [u, u, u, v32, u, u, u, u, u, u, u, u, u, u, u, u, u, u, u, u, u, u, u, u, u, u, u, u, u, u, u, u, u, u, u, u, u, u, u, u, u, u, u, u, u, u, u] ∧ Own H (⟨v32, 2, x89.map e_CourtStep⟩ :: ⟨.ptr i0 w0 0 0, 3, [.agg [.fz (x90.map (AV.int .u8)), .int .i64 x91, .int .u64 x92]]⟩ :: F)) (fun K95 hK95 => ?_) (fun s H hq => ?_)
        · refine w_seq fun K96 hK96 => ?_
          refine w_if ?_
          simp only [W]
          refine w_cnd h (fun hc h => ?_) (fun hc h => ?_)
          · refine w_reg gC ?_
            try simp only [W, Nat.reduceAdd]
            refine w_call h fun b97 hb97 h => ?_
            obtain ⟨b98, b99⟩ := b97
            try dsimp only at h
            refine spec_l1Cur_pick_w hb97 (hS.sel 2 [1, 0] (by decide)) fun H hS => ?_
            try simp only [W]
            refine w_call h fun b100 hb100 h => ?_
            obtain ⟨b101, b102⟩ := b100
            try dsimp only at h
            refine spec_l1Cur_pick_w hb100 hS fun H hS => ?_
            try simp only [W, EE]
            refine w_bld rfl rfl rfl rfl rfl ?_
            try simp only [W, EE]
            refine w_ow 1 hS rfl rfl rfl rfl rfl h (fun b103 in104 wn104 on104 hb103 h en104 => ?_) qv32.ne
            obtain ⟨kn104, hbn104, hen104⟩ := hS.elem 1 rfl en104 hb103
            try simp only [W]
            refine w_ste (a := .agg [.int .i64 b98, .int .i64 (IntKind.i64.wrap (b101 - 1))]) (y' := (⟨b98, (IntKind.i64.wrap (b101 - 1))⟩ : CourtStep)) 1 hS rfl en104 hb103 rfl rfl rfl rfl rfl rfl rfl fun H hS => ?_
            try simp only [W]
            refine seq_n hK96 ?_
            refine w_kill ?_
            exact cut_n hK95 ⟨_, _, _, _, (Option.some.inj h).symm, rfl, (hS.sel 2 [1, 0] (by decide))⟩
          · refine w_skip ?_
            refine seq_n hK96 ?_
            refine w_kill ?_
            exact cut_n hK95 ⟨_, _, _, _, (Option.some.inj h).symm, rfl, hS⟩
        · obtain ⟨x89, x90, x91, x92, rfl, rfl, hS⟩ := hq
          replace h := g94
          try dsimp only at h
          refine seq_n hK76 ?_
          refine w_seq fun K105 hK105 => ?_
          refine w_reg gC ?_
          try simp only [W, Nat.reduceAdd]
          refine seq_n hK105 ?_
          refine w_ret ?_
          refine fin_r1 hK0 rfl ?_
          try obtain rfl := Option.some.inj h
          exact hP _ qv32 _ hS
theorem spec_l1In_w {a0 : Int} {a1 : Int} {a2 : Int} {r : (Bool)} (h : spec_l1In a0 a1 a2 = some r) {F : List It} {H : Heap} (hS : Own H (F)) {P : AV → Heap → Prop} (hP : ∀ H', Own H' (F) → P (.bool r) H') : ACall C 109 [.int .i64 a0, .int .i64 a1, .int .i64 a2] H P := by
  refine acall_of gC (res := [.tmp 6]) (n := 15) rfl rfl rfl rfl fun K0 hK0 => ?_
  simp only [W, Nat.reduceSub, Nat.reduceAdd, List.replicate]
  unfold spec_l1In at h
  refine w_seq fun K1 hK1 => ?_
  refine w_reg gC ?_
  try simp only [W, Nat.reduceAdd]
  refine seq_n hK1 ?_
  refine w_seq fun K2 hK2 => ?_
  refine w_reg gC ?_
  try simp only [W, EE, Nat.reduceAdd]
  refine w_grdT h (fun hc h => ?_) (fun hc h => ?_)
  · try simp only [W, EE, reduceIte, hc]
    refine seq_n hK2 ?_
    refine w_ret ?_
    refine fin_r1 hK0 rfl ?_
    try obtain rfl := Option.some.inj h
    exact hP _ hS
  · try simp only [W, hc]
    refine seq_n hK2 ?_
    refine w_ret ?_
    refine fin_r1 hK0 rfl ?_
    try obtain rfl := Option.some.inj h
    exact hP _ hS
theorem spec_l1All_w {a0 : List Int} {a1 : Int} {a2 : Int} {r : (Bool)} (h : spec_l1All a0 a1 a2 = some r) {F : List It} {H : Heap} (hS : Own H (F)) {P : AV → Heap → Prop} (hP : ∀ H', Own H' (F) → P (.bool r) H') : ACall C 174 [.fz (a0.map (AV.int .i64)), .int .i64 a1, .int .i64 a2] H P := by
  refine acall_of gC (res := [.tmp 6]) (n := 21) rfl rfl rfl rfl fun K0 hK0 => ?_
  simp only [W, Nat.reduceSub, Nat.reduceAdd, List.replicate]
  unfold spec_l1All at h
  refine w_seq fun K1 hK1 => ?_
  refine w_reg gC ?_
  try simp only [W, Nat.reduceAdd]
  refine seq_n hK1 ?_
  refine w_seq fun K2 hK2 => ?_
  refine w_seq fun K3 hK3 => ?_
  refine w_reg gC ?_
  try simp only [W, EE, Nat.reduceAdd]
  refine seq_n hK3 ?_
  obtain ⟨y5, hw6, g12⟩ := Option.bind_eq_some_iff.1 h
  refine w_join gC (fun s H => y5 = LR.next () ∧ s = [u, u, u, u, u, u, u, u, u, u, u, u, u, u, u, u, u, u, u, u, u] ∧ Own H (F)) (fun K7 hK7 => ?_) (fun s H hq => ?_)
  · refine w_blk fun K8 hK8 => ?_
    refine w_loop gC hw6 (fun x s H => s = [u, .int .i64 a1, .int .i64 a2, u, u, u, u, u, u, .fz (a0.map (AV.int .i64)), .int .i64 (a0.length : Int), .int .i64 x, u, u, u, u, u, u, u, u, u] ∧ Own H (F)) ⟨rfl, hS⟩ (fun x4 y11 s H h hd10 hi K9 hK9 => ?_)
    skip
    try dsimp only at hi
    obtain ⟨rfl, hS⟩ := hi
    simp only [spec_l1All_l0] at h
    refine w_seq fun K13 hK13 => ?_
    refine w_reg gC ?_
    try simp only [W, EE, Nat.reduceAdd]
    refine seq_n hK13 ?_
    refine w_seq fun K14 hK14 => ?_
    refine w_if ?_
    simp only [W]
    refine w_cnd h (fun hc h => ?_) (fun hc h => ?_)
    · refine w_skip ?_
      refine seq_n hK14 ?_
      refine w_seq fun K15 hK15 => ?_
      refine w_blk fun K16 hK16 => ?_
      refine w_seq fun K17 hK17 => ?_
      refine w_reg gC ?_
      try simp only [W, EE, Nat.reduceAdd]
      refine w_fz rfl rfl rfl (fun _ => rfl) h fun b18 hb18 h => ?_
      try simp only [W, EE]
      refine seq_n hK17 ?_
      refine w_seq fun K19 hK19 => ?_
      refine w_reg gC ?_
      try simp only [W, Nat.reduceAdd]
      refine w_call h fun b20 hb20 h => ?_
      refine spec_l1In_w hb20 hS fun H hS => ?_
      try simp only [W]
      refine seq_n hK19 ?_
      refine w_if ?_
      simp only [W]
      refine w_cnd h (fun hc h => ?_) (fun hc h => ?_)
      · refine w_seq fun K21 hK21 => ?_
        refine w_reg gC ?_
        try simp only [W, Nat.reduceAdd]
        refine seq_n hK21 ?_
        refine w_ret ?_
        refine blk_r hK16 ?_
        refine seq_r hK15 ?_
        try obtain rfl := Option.some.inj h
        obtain rfl := hd10 _ rfl
        have h : (some (LR.done false) : Option (LR Unit (Bool))) = some (LR.done false) := rfl
        refine lp_r hK9 ?_
        refine blk_r hK8 ?_
        try obtain rfl := Option.some.inj h
        obtain rfl := Option.some.inj g12
        have h : (some false : Option (Bool)) = some false := rfl
        refine cut_r hK7 ?_
        refine seq_r hK2 ?_
        refine fin_r1 hK0 rfl ?_
        try obtain rfl := Option.some.inj h
        exact hP _ hS
      · refine w_skip ?_
        refine blk_n0 hK16 ?_
        refine seq_n hK15 ?_
        refine w_reg gC ?_
        try simp only [W, EE, Nat.reduceAdd]
        exact lp_n hK9 h ⟨rfl, hS⟩
    · refine w_exit ?_
      refine seq_x hK14 ?_
      try obtain rfl := Option.some.inj h
      obtain rfl := hd10 _ rfl
      have h : (some (LR.next ()) : Option (LR Unit (Bool))) = some (LR.next ()) := rfl
      refine lp_x hK9 ?_
      refine blk_e hK8 ?_
      exact cut_n hK7 ⟨(Option.some.inj h).symm, rfl, hS⟩
  · obtain ⟨rfl, rfl, hS⟩ := hq
    replace h := g12
    try dsimp only at h
    refine seq_n hK2 ?_
    refine w_seq fun K28 hK28 => ?_
    refine w_reg gC ?_
    try simp only [W, Nat.reduceAdd]
    refine seq_n hK28 ?_
    refine w_ret ?_
    refine fin_r1 hK0 rfl ?_
    try obtain rfl := Option.some.inj h
    exact hP _ hS
theorem spec_NewCourt_w {a0 : List Int} {r : (Court × Bool)} (h : spec_NewCourt a0 = some r) {F : List It} {H : Heap} (hS : Own H (F)) {P : AV → Heap → Prop} (hP : ∀ v46 : AV, isSl v46 → ∀ v48 : AV, isSl v48 → ∀ H', Own H' (⟨v46, 4, r.1.Cases.map e_Case⟩ :: ⟨v48, 3, r.1.Line.map e_Slip⟩ :: F) → P (.tup [.agg [.int .i64 r.1.Now, v46, v48], .bool r.2]) H') : ACall C 94 [.fz (a0.map (AV.int .i64))] H P := by
  refine acall_of gC (res := [.cell 2 68, .tmp 3]) (n := 31) rfl rfl rfl rfl fun K0 hK0 => ?_
  simp only [W, Nat.reduceSub, Nat.reduceAdd, List.replicate]
  unfold spec_NewCourt at h
  refine w_seq fun K1 hK1 => ?_
  refine w_reg gC ?_
  try simp only [W, Nat.reduceAdd]
  refine w_alloc hS rfl rfl fun ip2 wp2 H hS => ?_
  try simp only [W]
  refine seq_n hK1 ?_
  refine w_seq fun K4 hK4 => ?_
  refine w_seq fun K5 hK5 => ?_
  obtain ⟨y7, h, g8⟩ := Option.bind_eq_some_iff.1 h
  refine w_join gC (fun s H => ∃ x6 : Bool, y7 = (x6) ∧ s = [.fz (a0.map (AV.int .i64)), u, .ptr ip2 wp2 0 0, u, u, u, u, u, u, u, u, u, u, u, .bool x6, u, u, u, u, u, u, u, u, u, u, u, u, u, u, u, u] ∧ Own H (⟨.ptr ip2 wp2 0 0, 3, [.agg [.int .i64 0, .nil, .nil]]⟩ :: F)) (fun K9 hK9 => ?_) (fun s H hq => ?_)
  · refine w_seq fun K10 hK10 => ?_
    refine w_reg gC ?_
    try simp only [W, EE, Nat.reduceAdd]
    refine w_grdT h (fun hc h => ?_) (fun hc h => ?_)
    · try simp only [W, hc]
      refine seq_n hK10 ?_
      refine w_kill ?_
      exact cut_n hK9 ⟨_, (Option.some.inj h).symm, rfl, hS⟩
    · try simp only [W, hc]
      refine w_call h fun b11 hb11 h => ?_
      refine spec_l1All_w hb11 hS fun H hS => ?_
      try simp only [W, reduceIte, Bool.false_eq_true]
      refine seq_n hK10 ?_
      refine w_kill ?_
      exact cut_n hK9 ⟨_, (Option.some.inj h).symm, rfl, hS⟩
  · obtain ⟨x6, ey, rfl, hS⟩ := hq; obtain rfl := ey.symm
    replace h := g8
    try dsimp only at h
    refine seq_n hK5 ?_
    refine w_if ?_
    simp only [W]
    refine w_cnd h (fun hc h => ?_) (fun hc h => ?_)
    · refine w_seq fun K12 hK12 => ?_
      refine w_reg gC ?_
      try simp only [W, EE, Nat.reduceAdd]
      refine w_bld rfl rfl rfl rfl rfl ?_
      try simp only [W]
      refine w_stv (a := .agg [.int .i64 0, .nil, .nil]) (y' := .agg [.int .i64 0, .nil, .nil]) 0 hS rfl rfl rfl rfl rfl rfl rfl rfl fun H hS => ?_
      try simp only [W]
      refine seq_n hK12 ?_
      refine w_ret ?_
      refine seq_r hK4 ?_
      refine fin_r hK0 (res_c rfl rfl (hS.var 0 rfl) rfl (res_tc rfl rfl)) ?_
      try obtain rfl := Option.some.inj h
      exact hP _ isSl_nil _ isSl_nil _ (((hS.nil_ 3).nil_ 4).sel 3 [0, 1] (by decide))
    · refine w_skip ?_
      refine seq_n hK4 ?_
      refine w_seq fun K13 hK13 => ?_
      refine w_reg gC ?_
      try simp only [W, Nat.reduceAdd]
      refine w_alloc hS rfl rfl fun ip14 wp14 H hS => ?_
      try simp only [W]
      refine seq_n hK13 ?_
      refine w_seq fun K16 hK16 => ?_
      refine w_seq fun K17 hK17 => ?_
      refine w_reg gC ?_
      try simp only [W, EE, Nat.reduceAdd]
      refine seq_n hK17 ?_
      obtain ⟨y24, hw25, g31⟩ := Option.bind_eq_some_iff.1 h
      refine w_join gC (fun s H => ∃ x22 : List Case, y24 = (x22) ∧ ∃ v23 : AV, isSl v23 ∧ s = [u, u, .ptr ip2 wp2 0 0, u, .ptr ip14 wp14 0 0, u, u, u, u, u, u, u, u, u, u, u, u, u, u, u, u, u, u, u, u, u, u, u, u, u, u] ∧ Own H (⟨v23, 4, x22.map e_Case⟩ :: ⟨.ptr ip2 wp2 0 0, 3, [.agg [.int .i64 0, .nil, .nil]]⟩ :: ⟨.ptr ip14 wp14 0 0, 3, [.agg [.int .i64 0, v23, .nil]]⟩ :: F)) (fun K26 hK26 => ?_) (fun s H hq => ?_)
      · refine w_blk fun K27 hK27 => ?_
        refine w_loop gC hw25 (fun x s H => match x with | (x18, x19) => ∃ v20 : AV, isSl v20 ∧ s = [u, u, .ptr ip2 wp2 0 0, u, .ptr ip14 wp14 0 0, u, u, u, u, u, u, u, u, u, u, u, .fz (a0.map (AV.int .i64)), .int .i64 (a0.length : Int), .int .i64 x18, u, u, u, u, u, u, u, u, u, u, u, u] ∧ Own H (⟨v20, 4, x19.map e_Case⟩ :: ⟨.ptr ip2 wp2 0 0, 3, [.agg [.int .i64 0, .nil, .nil]]⟩ :: ⟨.ptr ip14 wp14 0 0, 3, [.agg [.int .i64 0, v20, .nil]]⟩ :: F)) ⟨_, isSl_nil, rfl, ((hS.nil_ 4).sel 3 [0, 2, 1] (by decide))⟩ (fun x y30 s H h hd29 hi K28 hK28 => ?_)
        obtain ⟨x18, x19⟩ := x
        try dsimp only at hi
        obtain ⟨v20, qv20, rfl, hS⟩ := hi
        simp only [spec_NewCourt_l0] at h
        refine w_seq fun K32 hK32 => ?_
        refine w_reg gC ?_
        try simp only [W, EE, Nat.reduceAdd]
        refine seq_n hK32 ?_
        refine w_seq fun K33 hK33 => ?_
        refine w_if ?_
        simp only [W]
        refine w_cnd h (fun hc h => ?_) (fun hc h => ?_)
        · refine w_skip ?_
          refine seq_n hK33 ?_
          refine w_seq fun K34 hK34 => ?_
          refine w_blk fun K35 hK35 => ?_
          refine w_seq fun K36 hK36 => ?_
          refine w_reg gC ?_
          try simp only [W, EE, Nat.reduceAdd]
          refine w_fz rfl rfl rfl (fun _ => rfl) h fun b37 hb37 h => ?_
          try simp only [W, EE]
          refine seq_n hK36 ?_
          refine w_reg gC ?_
          try simp only [W, EE, Nat.reduceAdd, Nat.reduceBEq, hS.var 2 rfl]
          refine w_bld rfl rfl rfl rfl rfl ?_
          try simp only [W]
          refine w_lit (el := ([(⟨b37, false, 0, 0⟩ : Case)] : List Case).map e_Case) hS rfl rfl rfl rfl rfl rfl rfl fun v38 H qv38 hS => ?_
          try simp only [W, EE]
          refine w_appV (l := x19) (c := e_Case) 1 hS rfl qv20 rfl rfl rfl (hS.elems 0 rfl qv38) (fun _ => rfl) rfl h fun v41 H x40 qv41 hm h hS => ?_
          try simp only [W, EE, Nat.reduceAdd, Nat.reduceBEq, hS.var 3 rfl]
          refine w_stv (a := v41) (y' := .agg [.int .i64 0, v41, .nil]) 3 hS rfl rfl rfl rfl (by rw [qv41.cells]; rfl) qv41.stora (qv41.wr _ _ (by simp)) rfl fun H hS => ?_
          try simp only [W]
          refine blk_n0 hK35 ?_
          refine seq_n hK34 ?_
          refine w_reg gC ?_
          try simp only [W, EE, Nat.reduceAdd]
          exact lp_n hK28 h ⟨_, qv41, rfl, (hS.sel 4 [1, 2, 3] (by decide))⟩
        · refine w_exit ?_
          refine seq_x hK33 ?_
          try obtain rfl := Option.some.inj h
          obtain rfl := hd29 _ rfl
          have h : (some (x19) : Option ((List Case))) = some (x19) := rfl
          refine lp_x hK28 ?_
          refine blk_e hK27 ?_
          exact cut_n hK26 ⟨_, (Option.some.inj h).symm, _, qv20, rfl, hS⟩
      · obtain ⟨x22, ey, v23, qv23, rfl, hS⟩ := hq; obtain rfl := ey.symm
        replace h := g31
        try dsimp only at h
        refine seq_n hK16 ?_
        refine w_seq fun K45 hK45 => ?_
        refine w_reg gC ?_
        try simp only [W, EE, reduceIte, Nat.reduceAdd, Nat.reduceLeDiff, hS.var 2 rfl]
        refine w_stv (a := .agg [.int .i64 0, v23, .nil]) (y' := .agg [.int .i64 0, v23, .nil]) 1 hS rfl rfl rfl rfl rfl (by simp only [storA, List.all_cons, List.all_nil, qv23.stor]; rfl) rfl rfl fun H hS => ?_
        try simp only [W]
        refine seq_n hK45 ?_
        refine w_ret ?_
        refine fin_r hK0 (res_c rfl rfl (hS.var 1 rfl) rfl (res_tc rfl rfl)) ?_
        try obtain rfl := Option.some.inj h
        exact hP _ qv23 _ isSl_nil _ ((hS.nil_ 3).sel 4 [1, 0] (by decide))
theorem spec_l16Own_w {a0 : Court} {r : (Court)} (h : spec_l16Own a0 = some r) {F : List It} {H : Heap} (hS : Own H (F)) {P : AV → Heap → Prop} (hP : ∀ v17 : AV, isSl v17 → ∀ v19 : AV, isSl v19 → ∀ H', Own H' (⟨v17, 4, r.Cases.map e_Case⟩ :: ⟨v19, 3, r.Line.map e_Slip⟩ :: F) → P (.agg [.int .i64 r.Now, v17, v19]) H') : ACall C 145 [.agg [.int .i64 a0.Now, .fz (a0.Cases.map e_Case), .fz (a0.Line.map e_Slip)]] H P := by
  refine acall_of gC (res := [.cell 2 68]) (n := 14) rfl rfl rfl rfl fun K0 hK0 => ?_
  simp only [W, Nat.reduceSub, Nat.reduceAdd, List.replicate]
  unfold spec_l16Own at h
  refine w_seq fun K1 hK1 => ?_
  refine w_reg gC ?_
  try simp only [W, Nat.reduceAdd]
  refine w_box hS rfl rfl rfl rfl fun ip2 wp2 H hS => ?_
  try simp only [W]
  refine w_alloc hS rfl rfl fun ip4 wp4 H hS => ?_
  try simp only [W]
  refine seq_n hK1 ?_
  refine w_seq fun K6 hK6 => ?_
  refine w_reg gC ?_
  try simp only [W, Nat.reduceAdd]
  refine w_lit0 rfl rfl ?_
  try simp only [W, EE, Nat.reduceAdd, Nat.reduceBEq, hS.var 1 rfl]
  have hS := hS.e0_ 4
  refine w_appV (l := ([] : List Case)) (c := e_Case) 0 hS rfl isSl_e0 rfl rfl rfl rfl (fun _ => rfl) rfl h fun v9 H x8 qv9 hm h hS => ?_
  try simp only [W, EE, Nat.reduceAdd, Nat.reduceBEq, hS.var 2 rfl]
  refine w_stv (a := v9) (y' := .agg [.int .i64 a0.Now, v9, .fz (a0.Line.map e_Slip)]) 2 hS rfl rfl rfl rfl (by rw [qv9.cells]; rfl) qv9.stora (qv9.wr _ _ (by simp)) rfl fun H hS => ?_
  try simp only [W]
  refine seq_n hK6 ?_
  refine w_seq fun K11 hK11 => ?_
  refine w_reg gC ?_
  try simp only [W, Nat.reduceAdd]
  refine w_lit0 rfl rfl ?_
  try simp only [W, EE, Nat.reduceAdd, Nat.reduceBEq, hS.var 2 rfl]
  have hS := hS.e0_ 3
  refine w_appV (l := ([] : List Slip)) (c := e_Slip) 0 hS rfl isSl_e0 rfl rfl rfl rfl (fun _ => rfl) rfl h fun v14 H x13 qv14 hm h hS => ?_
  try simp only [W, EE, Nat.reduceAdd, Nat.reduceBEq, hS.var 3 rfl]
  refine w_stv (a := v14) (y' := .agg [.int .i64 a0.Now, v9, v14]) 3 hS rfl rfl rfl rfl (by rw [qv14.cells]; rfl) qv14.stora (qv14.wr _ _ (by simp)) rfl fun H hS => ?_
  try simp only [W]
  refine seq_n hK11 ?_
  refine w_seq fun K16 hK16 => ?_
  refine w_reg gC ?_
  try simp only [W, EE, reduceIte, Nat.reduceAdd, Nat.reduceLeDiff, hS.var 3 rfl]
  refine w_stv (a := .agg [.int .i64 a0.Now, v9, v14]) (y' := .agg [.int .i64 a0.Now, v9, v14]) 2 hS rfl rfl rfl rfl rfl (by simp only [storA, List.all_cons, List.all_nil, qv9.stor, qv14.stor]; rfl) rfl rfl fun H hS => ?_
  try simp only [W]
  refine seq_n hK16 ?_
  refine w_ret ?_
  refine fin_r hK0 (res_c rfl rfl (hS.var 2 rfl) rfl rfl) ?_
  try obtain rfl := Option.some.inj h
  exact hP _ qv9 _ qv14 _ (hS.sel 4 [1, 0] (by decide))
theorem spec_l16Write_w {a0 : Court} {a1 : Slip} {m1 : AV} {m2 : AV} {r : (Court)} (h : spec_l16Write a0 a1 = some r) {F : List It} {H : Heap} (hS : Own H (⟨m1, 4, a0.Cases.map e_Case⟩ :: ⟨m2, 3, a0.Line.map e_Slip⟩ :: F)) (qm1 : isSl m1) (qm2 : isSl m2) {P : AV → Heap → Prop} (hP : ∀ v23 : AV, isSl v23 → ∀ v25 : AV, isSl v25 → ∀ H', Own H' (⟨v23, 4, r.Cases.map e_Case⟩ :: ⟨v25, 3, r.Line.map e_Slip⟩ :: F) → P (.agg [.int .i64 r.Now, v23, v25]) H') : ACall C 227 [.agg [.int .i64 a0.Now, m1, m2], .agg [.int .i64 a1.Kind, .int .i64 a1.Case, .int .i64 a1.What]] H P := by
  refine acall_of gC (res := [.cell 4 68]) (n := 16) rfl rfl rfl rfl fun K0 hK0 => ?_
  simp only [W, Nat.reduceSub, Nat.reduceAdd, List.replicate]
  unfold spec_l16Write at h
  refine w_seq fun K1 hK1 => ?_
  refine w_reg gC ?_
  try simp only [W, Nat.reduceAdd]
  refine w_box hS rfl rfl rfl (by simp only [W, storA, List.all_cons, List.all_nil, qm1.stor, qm2.stor]; rfl) fun ip2 wp2 H hS => ?_
  try simp only [W]
  refine w_box hS rfl rfl rfl rfl fun ip4 wp4 H hS => ?_
  try simp only [W]
  refine w_alloc hS rfl rfl fun ip6 wp6 H hS => ?_
  try simp only [W]
  refine seq_n hK1 ?_
  refine w_seq fun K8 hK8 => ?_
  refine w_seq fun K9 hK9 => ?_
  refine w_reg gC ?_
  try simp only [W, EE, Nat.reduceAdd, Nat.reduceBEq, hS.var 2 rfl]
  refine w_len 4 hS rfl qm2 rfl ?_
  try simp only [W, EE]
  refine seq_n hK9 ?_
  obtain ⟨y13, h, g14⟩ := Option.bind_eq_some_iff.1 h
  refine w_join gC (fun s H => ∃ x10 : List Slip, y13 = (x10) ∧ ∃ v11 : AV, isSl v11 ∧ s = [u, u, .ptr ip2 wp2 0 0, u, .ptr ip6 wp6 0 0, u, u, u, u, u, u, u, u, u, u, u] ∧ Own H (⟨m1, 4, a0.Cases.map e_Case⟩ :: ⟨v11, 3, x10.map e_Slip⟩ :: ⟨.ptr ip2 wp2 0 0, 3, [.agg [.int .i64 a0.Now, m1, v11]]⟩ :: ⟨.ptr ip6 wp6 0 0, 3, [.agg [.int .i64 0, .nil, .nil]]⟩ :: F)) (fun K15 hK15 => ?_) (fun s H hq => ?_)
  · refine w_seq fun K16 hK16 => ?_
    refine w_if ?_
    simp only [W]
    refine w_cnd h (fun hc h => ?_) (fun hc h => ?_)
    · refine w_reg gC ?_
      try simp only [W, EE, reduceIte, Nat.reduceAdd, Nat.reduceLeDiff, Nat.reduceBEq, hS.var 2 rfl, hS.var 1 rfl]
      refine w_lit (el := ([a1] : List Slip).map e_Slip) hS rfl rfl rfl rfl rfl rfl rfl fun v17 H qv17 hS => ?_
      try simp only [W, EE]
      refine w_appV (l := a0.Line) (c := e_Slip) 5 hS rfl qm2 rfl rfl rfl (hS.elems 0 rfl qv17) (fun _ => rfl) rfl h fun v20 H x19 qv20 hm h hS => ?_
      try simp only [W, EE, Nat.reduceAdd, Nat.reduceBEq, hS.var 3 rfl]
      refine w_stv (a := v20) (y' := .agg [.int .i64 a0.Now, m1, v20]) 3 hS rfl rfl rfl rfl (by rw [qv20.cells]; rfl) qv20.stora (qv20.wr _ _ (by simp)) rfl fun H hS => ?_
      try simp only [W]
      refine seq_n hK16 ?_
      refine w_kill ?_
      exact cut_n hK15 ⟨_, (Option.some.inj h).symm, _, qv20, rfl, (hS.sel 6 [4, 5, 3, 1] (by decide))⟩
    · refine w_skip ?_
      refine seq_n hK16 ?_
      refine w_kill ?_
      exact cut_n hK15 ⟨_, (Option.some.inj h).symm, _, qm2, rfl, (hS.sel 5 [3, 4, 2, 0] (by decide))⟩
  · obtain ⟨x10, ey, v11, qv11, rfl, hS⟩ := hq; obtain rfl := ey.symm
    replace h := g14
    try dsimp only at h
    refine seq_n hK8 ?_
    refine w_seq fun K22 hK22 => ?_
    refine w_reg gC ?_
    try simp only [W, EE, reduceIte, Nat.reduceAdd, Nat.reduceLeDiff, hS.var 2 rfl]
    refine w_stv (a := .agg [.int .i64 a0.Now, m1, v11]) (y' := .agg [.int .i64 a0.Now, m1, v11]) 3 hS rfl rfl rfl rfl rfl (by simp only [storA, List.all_cons, List.all_nil, qm1.stor, qv11.stor]; rfl) rfl rfl fun H hS => ?_
    try simp only [W]
    refine seq_n hK22 ?_
    refine w_ret ?_
    refine fin_r hK0 (res_c rfl rfl (hS.var 3 rfl) rfl rfl) ?_
    try obtain rfl := Option.some.inj h
    exact hP _ qm1 _ qv11 _ (hS.sel 4 [0, 1] (by decide))
theorem spec_l16Take_w {a0 : Court} {a1 : Slip} {m1 : AV} {m2 : AV} {r : (Court)} (h : spec_l16Take a0 a1 = some r) {F : List It} {H : Heap} (hS : Own H (⟨m1, 4, a0.Cases.map e_Case⟩ :: ⟨m2, 3, a0.Line.map e_Slip⟩ :: F)) (qm1 : isSl m1) (qm2 : isSl m2) {P : AV → Heap → Prop} (hP : ∀ v41 : AV, isSl v41 → ∀ v43 : AV, isSl v43 → ∀ H', Own H' (⟨v41, 4, r.Cases.map e_Case⟩ :: ⟨v43, 3, r.Line.map e_Slip⟩ :: F) → P (.agg [.int .i64 r.Now, v41, v43]) H') : ACall C 228 [.agg [.int .i64 a0.Now, m1, m2], .agg [.int .i64 a1.Kind, .int .i64 a1.Case, .int .i64 a1.What]] H P := by
  refine acall_of gC (res := [.cell 4 68]) (n := 48) rfl rfl rfl rfl fun K0 hK0 => ?_
  simp only [W, Nat.reduceSub, Nat.reduceAdd, List.replicate]
  unfold spec_l16Take at h
  refine w_seq fun K1 hK1 => ?_
  refine w_reg gC ?_
  try simp only [W, Nat.reduceAdd]
  refine w_box hS rfl rfl rfl (by simp only [W, storA, List.all_cons, List.all_nil, qm1.stor, qm2.stor]; rfl) fun ip2 wp2 H hS => ?_
  try simp only [W]
  refine w_box hS rfl rfl rfl rfl fun ip4 wp4 H hS => ?_
  try simp only [W]
  refine w_alloc hS rfl rfl fun ip6 wp6 H hS => ?_
  try simp only [W]
  refine seq_n hK1 ?_
  refine w_seq fun K8 hK8 => ?_
  refine w_seq fun K9 hK9 => ?_
  refine w_reg gC ?_
  try simp only [W, EE, Nat.reduceAdd, Nat.reduceBEq, hS.var 1 rfl]
  refine seq_n hK9 ?_
  refine w_if ?_
  simp only [W]
  refine w_cnd h (fun hc h => ?_) (fun hc h => ?_)
  · refine w_seq fun K10 hK10 => ?_
    refine w_reg gC ?_
    try simp only [W, EE, Nat.reduceAdd, Nat.reduceBEq, hS.var 2 rfl, hS.var 1 rfl]
    refine w_ow 3 hS rfl rfl rfl rfl rfl h (fun b11 in12 wn12 on12 hb11 h en12 => ?_) qm1.ne
    obtain ⟨kn12, hbn12, hen12⟩ := hS.elem 3 rfl en12 hb11
    try simp only [W, EE, Nat.reduceAdd, Nat.reduceBEq, hbn12]
    refine w_ste (a := .int .i64 a1.What) (y' := (⟨b11.End, b11.Asks, a1.What, b11.Said⟩ : Case)) 3 hS rfl en12 hb11 rfl rfl rfl rfl rfl rfl rfl fun H hS => ?_
    try simp only [W]
    refine seq_n hK10 ?_
    refine w_seq fun K13 hK13 => ?_
    refine w_reg gC ?_
    try simp only [W, EE, reduceIte, Nat.reduceAdd, Nat.reduceLeDiff, hS.var 2 rfl]
    refine w_stv (a := .agg [.int .i64 a0.Now, m1, m2]) (y' := .agg [.int .i64 a0.Now, m1, m2]) 0 hS rfl rfl rfl rfl rfl (by simp only [storA, List.all_cons, List.all_nil, qm1.stor, qm2.stor]; rfl) rfl rfl fun H hS => ?_
    try simp only [W]
    refine seq_n hK13 ?_
    refine w_ret ?_
    refine seq_r hK8 ?_
    refine fin_r hK0 (res_c rfl rfl (hS.var 0 rfl) rfl rfl) ?_
    try obtain rfl := Option.some.inj h
    exact hP _ qm1 _ qm2 _ (hS.sel 5 [3, 4] (by decide))
  · refine w_skip ?_
    refine seq_n hK8 ?_
    refine w_seq fun K14 hK14 => ?_
    refine w_seq fun K15 hK15 => ?_
    refine w_reg gC ?_
    try simp only [W, EE, Nat.reduceAdd, Nat.reduceBEq, hS.var 2 rfl, hS.var 1 rfl]
    refine w_ow 3 hS rfl rfl rfl rfl rfl h (fun b16 in17 wn17 on17 hb16 h en17 => ?_) qm1.ne
    obtain ⟨kn17, hbn17, hen17⟩ := hS.elem 3 rfl en17 hb16
    try simp only [W, EE, EN, Nat.reduceAdd, Nat.reduceBEq, hbn17, hen17]
    refine seq_n hK15 ?_
    obtain ⟨y19, h, g20⟩ := Option.bind_eq_some_iff.1 h
    refine w_join gC (fun s H => ∃ x18 : List Case, y19 = (x18) ∧ s = [u, u, .ptr ip2 wp2 0 0, .ptr ip4 wp4 0 0, .ptr ip6 wp6 0 0, u, u, u, u, u, u, u, u, u, u, u, u, u, u, u, u, u, u, u, u, u, u, u, u, u, u, u, u, u, u, u, u, u, u, u, u, u, u, u, u, u, u, u] ∧ Own H (⟨m1, 4, x18.map e_Case⟩ :: ⟨m2, 3, a0.Line.map e_Slip⟩ :: ⟨.ptr ip2 wp2 0 0, 3, [.agg [.int .i64 a0.Now, m1, m2]]⟩ :: ⟨.ptr ip4 wp4 0 0, 3, [.agg [.int .i64 a1.Kind, .int .i64 a1.Case, .int .i64 a1.What]]⟩ :: ⟨.ptr ip6 wp6 0 0, 3, [.agg [.int .i64 0, .nil, .nil]]⟩ :: F)) (fun K21 hK21 => ?_) (fun s H hq => ?_)
    · refine w_seq fun K22 hK22 => ?_
      refine w_if ?_
      simp only [W]
      refine w_cnd h (fun hc h => ?_) (fun hc h => ?_)
      · refine w_seq fun K23 hK23 => ?_
        refine w_reg gC ?_
        try simp only [W, Nat.reduceAdd]
        refine seq_n hK23 ?_
        refine w_seq fun K24 hK24 => ?_
        refine w_seq fun K25 hK25 => ?_
        refine w_reg gC ?_
        try simp only [W, EE, Nat.reduceAdd, Nat.reduceBEq, hS.var 1 rfl]
        refine seq_n hK25 ?_
        obtain ⟨y27, h, g28⟩ := Option.bind_eq_some_iff.1 h
        refine w_join gC (fun s H => ∃ x26 : Int, y27 = (x26) ∧ s = [u, u, .ptr ip2 wp2 0 0, .ptr ip4 wp4 0 0, .ptr ip6 wp6 0 0, .int .i64 x26, u, u, u, u, u, u, u, u, u, u, u, u, u, u, u, u, u, u, u, u, u, u, u, u, u, u, u, u, u, u, u, u, u, u, u, u, u, u, u, u, u, u] ∧ Own H (⟨m1, 4, a0.Cases.map e_Case⟩ :: ⟨m2, 3, a0.Line.map e_Slip⟩ :: ⟨.ptr ip2 wp2 0 0, 3, [.agg [.int .i64 a0.Now, m1, m2]]⟩ :: ⟨.ptr ip4 wp4 0 0, 3, [.agg [.int .i64 a1.Kind, .int .i64 a1.Case, .int .i64 a1.What]]⟩ :: ⟨.ptr ip6 wp6 0 0, 3, [.agg [.int .i64 0, .nil, .nil]]⟩ :: F)) (fun K29 hK29 => ?_) (fun s H hq => ?_)
        · refine w_seq fun K30 hK30 => ?_
          refine w_if ?_
          simp only [W]
          refine w_cnd h (fun hc h => ?_) (fun hc h => ?_)
          · refine w_reg gC ?_
            try simp only [W, Nat.reduceAdd]
            refine seq_n hK30 ?_
            refine w_kill ?_
            exact cut_n hK29 ⟨_, (Option.some.inj h).symm, rfl, (hS.sel 5 [3, 4, 2, 1, 0] (by decide))⟩
          · refine w_skip ?_
            refine seq_n hK30 ?_
            refine w_kill ?_
            exact cut_n hK29 ⟨_, (Option.some.inj h).symm, rfl, (hS.sel 5 [3, 4, 2, 1, 0] (by decide))⟩
        · obtain ⟨x26, ey, rfl, hS⟩ := hq; obtain rfl := ey.symm
          replace h := g28
          try dsimp only at h
          refine seq_n hK24 ?_
          refine w_reg gC ?_
          try simp only [W, EE, Nat.reduceAdd, Nat.reduceBEq, hS.var 2 rfl, hS.var 3 rfl]
          refine w_ow 0 hS rfl rfl rfl rfl rfl h (fun b31 in32 wn32 on32 hb31 h en32 => ?_) qm1.ne
          obtain ⟨kn32, hbn32, hen32⟩ := hS.elem 0 rfl en32 hb31
          try simp only [W, EE, Nat.reduceAdd, Nat.reduceBEq, hbn32]
          refine w_ste (a := .int .i64 x26) (y' := (⟨b31.End, b31.Asks, b31.Final, x26⟩ : Case)) 0 hS rfl en32 hb31 rfl rfl rfl rfl rfl rfl rfl fun H hS => ?_
          try simp only [W]
          refine seq_n hK22 ?_
          refine w_kill ?_
          exact cut_n hK21 ⟨_, (Option.some.inj h).symm, rfl, hS⟩
      · refine w_skip ?_
        refine seq_n hK22 ?_
        refine w_kill ?_
        exact cut_n hK21 ⟨_, (Option.some.inj h).symm, rfl, (hS.sel 5 [3, 4, 2, 1, 0] (by decide))⟩
    · obtain ⟨x18, ey, rfl, hS⟩ := hq; obtain rfl := ey.symm
      replace h := g20
      try dsimp only at h
      refine seq_n hK14 ?_
      refine w_seq fun K33 hK33 => ?_
      refine w_drawL gC [(11, []), (12, [])] (by kernel_rfl) rfl (by kernel_rfl) ?_
      try simp only [W, EE, reduceIte, Nat.reduceAdd, Nat.reduceLeDiff, Nat.reduceBEq, hS.var 2 rfl, hS.var 3 rfl, tabAt, qAt, Nat.reduceEqDiff]
      refine w_ow 0 hS rfl rfl rfl rfl rfl h (fun b34 in35 wn35 on35 hb34 h en35 => ?_) qm1.ne
      obtain ⟨kn35, hbn35, hen35⟩ := hS.elem 0 rfl en35 hb34
      try simp only [W, EE, EN, Nat.reduceAdd, Nat.reduceBEq, hbn35, hen35]
      refine w_bld rfl rfl rfl rfl rfl ?_
      try simp only [W]
      refine w_call h fun b36 hb36 h => ?_
      refine spec_l16Write_w hb36 hS qm1 qm2 fun v37 qv37 v39 qv39 H hS => ?_
      try simp only [W]
      refine w_stv (a := .agg [.int .i64 b36.Now, v37, v39]) (y' := .agg [.int .i64 b36.Now, v37, v39]) 4 hS rfl rfl rfl rfl rfl (by simp only [storA, List.all_cons, List.all_nil, qv37.stor, qv39.stor]; rfl) rfl rfl fun H hS => ?_
      try simp only [W]
      refine seq_n hK33 ?_
      refine w_ret ?_
      refine fin_r hK0 (res_c rfl rfl (hS.var 4 rfl) rfl rfl) ?_
      try obtain rfl := Option.some.inj h
      exact hP _ qv37 _ qv39 _ (hS.sel 5 [0, 1] (by decide))
theorem spec_l16Step_w {a0 : Court} {a1 : CourtStep} {m1 : AV} {m2 : AV} {r : (Court × Bool)} (h : spec_l16Step a0 a1 = some r) {F : List It} {H : Heap} (hS : Own H (⟨m1, 4, a0.Cases.map e_Case⟩ :: ⟨m2, 3, a0.Line.map e_Slip⟩ :: F)) (qm1 : isSl m1) (qm2 : isSl m2) {P : AV → Heap → Prop} (hP : ∀ v153 : AV, isSl v153 → ∀ v155 : AV, isSl v155 → ∀ H', Own H' (⟨v153, 4, r.1.Cases.map e_Case⟩ :: ⟨v155, 3, r.1.Line.map e_Slip⟩ :: F) → P (.tup [.agg [.int .i64 r.1.Now, v153, v155], .bool r.2]) H') : ACall C 144 [.agg [.int .i64 a0.Now, m1, m2], .agg [.int .i64 a1.Kind, .int .i64 a1.K]] H P := by
  refine acall_of gC (res := [.cell 4 68, .tmp 5]) (n := 173) rfl rfl rfl rfl fun K0 hK0 => ?_
  simp only [W, Nat.reduceSub, Nat.reduceAdd, List.replicate]
  unfold spec_l16Step at h
  refine w_seq fun K1 hK1 => ?_
  refine w_reg gC ?_
  try simp only [W, Nat.reduceAdd]
  refine w_box hS rfl rfl rfl (by simp only [W, storA, List.all_cons, List.all_nil, qm1.stor, qm2.stor]; rfl) fun ip2 wp2 H hS => ?_
  try simp only [W]
  refine w_box hS rfl rfl rfl rfl fun ip4 wp4 H hS => ?_
  try simp only [W]
  refine w_alloc hS rfl rfl fun ip6 wp6 H hS => ?_
  try simp only [W]
  refine seq_n hK1 ?_
  refine w_seq fun K8 hK8 => ?_
  refine w_seq fun K9 hK9 => ?_
  refine w_reg gC ?_
  try simp only [W, EE, Nat.reduceAdd, Nat.reduceBEq, hS.var 1 rfl]
  refine seq_n hK9 ?_
  refine w_blk fun K10 hK10 => ?_
  refine w_seq fun K11 hK11 => ?_
  refine w_reg gC ?_
  try simp only [W, EE, Nat.reduceAdd]
  refine seq_n hK11 ?_
  refine w_if ?_
  simp only [W]
  refine w_cnd h (fun hc h => ?_) (fun hc h => ?_)
  · refine w_seq fun K12 hK12 => ?_
    refine w_seq fun K13 hK13 => ?_
    obtain ⟨y15, h, g16⟩ := Option.bind_eq_some_iff.1 h
    refine w_join gC (fun s H => ∃ x14 : Bool, y15 = (x14) ∧ s = (u :: u :: .ptr ip2 wp2 0 0 :: u :: .ptr ip6 wp6 0 0 :: u :: u :: u :: u :: u :: u :: u :: u :: u :: u :: u :: u :: u :: u :: u :: u :: u :: .bool x14 :: u :: u :: u :: u :: u :: u :: u :: u :: u :: u :: u :: u :: u :: u :: u :: u :: u :: u :: u :: u :: u :: u :: u :: u :: u :: u :: u :: u :: u :: u :: u :: u :: u :: u :: u :: u :: u :: u :: u :: u :: u :: u :: u :: u :: u :: u :: u :: u :: u :: u :: u :: u :: u :: u :: u :: u :: u :: u :: u :: u :: u :: u :: u :: u :: u :: u :: u :: u :: u :: u :: u :: u :: u :: u :: u :: u :: u :: u :: u :: u :: u :: u :: u :: u :: u :: u :: u :: u :: u :: u :: u :: u :: u :: u :: u :: u :: u :: u :: u :: u :: u :: u :: u :: u :: u :: u :: u :: u :: u :: u :: u :: u :: u :: u :: u :: u :: u :: u :: u :: u :: u :: u :: u :: u :: u :: u :: u :: u :: u :: u :: u :: u :: u :: u :: u :: u :: u :: u :: u :: u :: u :: u :: u :: u :: u :: u :: u :: u :: u :: u :: []) ∧ Own H (⟨m1, 4, a0.Cases.map e_Case⟩ :: ⟨m2, 3, a0.Line.map e_Slip⟩ :: ⟨.ptr ip2 wp2 0 0, 3, [.agg [.int .i64 a0.Now, m1, m2]]⟩ :: ⟨.ptr ip6 wp6 0 0, 3, [.agg [.int .i64 0, .nil, .nil]]⟩ :: F)) (fun K17 hK17 => ?_) (fun s H hq => ?_)
    · refine w_seq fun K18 hK18 => ?_
      refine w_reg gC ?_
      try simp only [W, EE, Nat.reduceAdd, Nat.reduceBEq, hS.var 1 rfl]
      refine w_grdT h (fun hc h => ?_) (fun hc h => ?_)
      · try simp only [W, hc]
        refine seq_n hK18 ?_
        refine w_killE (s' := (u :: u :: .ptr ip2 wp2 0 0 :: u :: .ptr ip6 wp6 0 0 :: u :: u :: u :: u :: u :: u :: u :: u :: u :: u :: u :: u :: u :: u :: u :: u :: u :: .bool true :: u :: u :: u :: u :: u :: u :: u :: u :: u :: u :: u :: u :: u :: u :: u :: u :: u :: u :: u :: u :: u :: u :: u :: u :: u :: u :: u :: u :: u :: u :: u :: u :: u :: u :: u :: u :: u :: u :: u :: u :: u :: u :: u :: u :: u :: u :: u :: u :: u :: u :: u :: u :: u :: u :: u :: u :: u :: u :: u :: u :: u :: u :: u :: u :: u :: u :: u :: u :: u :: u :: u :: u :: u :: u :: u :: u :: u :: u :: u :: u :: u :: u :: u :: u :: u :: u :: u :: u :: u :: u :: u :: u :: u :: u :: u :: u :: u :: u :: u :: u :: u :: u :: u :: u :: u :: u :: u :: u :: u :: u :: u :: u :: u :: u :: u :: u :: u :: u :: u :: u :: u :: u :: u :: u :: u :: u :: u :: u :: u :: u :: u :: u :: u :: u :: u :: u :: u :: u :: u :: u :: u :: u :: u :: u :: u :: u :: u :: u :: u :: u :: [])) rfl ?_
        exact cut_n hK17 ⟨_, (Option.some.inj h).symm, rfl, (hS.sel 5 [3, 4, 2, 0] (by decide))⟩
      · try simp only [W, EE, reduceIte, Nat.reduceAdd, Nat.reduceBEq, Bool.false_eq_true, hS.var 2 rfl, hc]
        refine seq_n hK18 ?_
        refine w_killE (s' := (u :: u :: .ptr ip2 wp2 0 0 :: u :: .ptr ip6 wp6 0 0 :: u :: u :: u :: u :: u :: u :: u :: u :: u :: u :: u :: u :: u :: u :: u :: u :: u :: .bool (a0.Now == 200) :: u :: u :: u :: u :: u :: u :: u :: u :: u :: u :: u :: u :: u :: u :: u :: u :: u :: u :: u :: u :: u :: u :: u :: u :: u :: u :: u :: u :: u :: u :: u :: u :: u :: u :: u :: u :: u :: u :: u :: u :: u :: u :: u :: u :: u :: u :: u :: u :: u :: u :: u :: u :: u :: u :: u :: u :: u :: u :: u :: u :: u :: u :: u :: u :: u :: u :: u :: u :: u :: u :: u :: u :: u :: u :: u :: u :: u :: u :: u :: u :: u :: u :: u :: u :: u :: u :: u :: u :: u :: u :: u :: u :: u :: u :: u :: u :: u :: u :: u :: u :: u :: u :: u :: u :: u :: u :: u :: u :: u :: u :: u :: u :: u :: u :: u :: u :: u :: u :: u :: u :: u :: u :: u :: u :: u :: u :: u :: u :: u :: u :: u :: u :: u :: u :: u :: u :: u :: u :: u :: u :: u :: u :: u :: u :: u :: u :: u :: u :: u :: u :: [])) rfl ?_
        exact cut_n hK17 ⟨_, (Option.some.inj h).symm, rfl, (hS.sel 5 [3, 4, 2, 0] (by decide))⟩
    · obtain ⟨x14, ey, rfl, hS⟩ := hq; obtain rfl := ey.symm
      replace h := g16
      try dsimp only at h
      refine seq_n hK13 ?_
      refine w_if ?_
      simp only [W]
      refine w_cnd h (fun hc h => ?_) (fun hc h => ?_)
      · refine w_seq fun K19 hK19 => ?_
        refine w_reg gC ?_
        try simp only [W, EE, reduceIte, Nat.reduceAdd, Nat.reduceLeDiff, hS.var 2 rfl]
        refine w_stv (a := .agg [.int .i64 a0.Now, m1, m2]) (y' := .agg [.int .i64 a0.Now, m1, m2]) 3 hS rfl rfl rfl rfl rfl (by simp only [storA, List.all_cons, List.all_nil, qm1.stor, qm2.stor]; rfl) rfl rfl fun H hS => ?_
        try simp only [W]
        refine seq_n hK19 ?_
        refine w_ret ?_
        refine seq_r hK12 ?_
        refine blk_r hK10 ?_
        refine seq_r hK8 ?_
        refine fin_r hK0 (res_c rfl rfl (hS.var 3 rfl) rfl (res_tc rfl rfl)) ?_
        try obtain rfl := Option.some.inj h
        exact hP _ qm1 _ qm2 _ (hS.sel 4 [0, 1] (by decide))
      · refine w_skip ?_
        refine seq_n hK12 ?_
        refine w_seq fun K20 hK20 => ?_
        refine w_reg gC ?_
        try simp only [W, EE, Nat.reduceAdd, Nat.reduceBEq, hS.var 2 rfl]
        refine w_stv (a := .int .i64 (IntKind.i64.wrap (a0.Now + 1))) (y' := .agg [.int .i64 (IntKind.i64.wrap (a0.Now + 1)), m1, m2]) 2 hS rfl rfl rfl rfl rfl rfl rfl rfl fun H hS => ?_
        try simp only [W]
        refine seq_n hK20 ?_
        refine w_seq fun K21 hK21 => ?_
        refine w_seq fun K22 hK22 => ?_
        refine w_reg gC ?_
        try simp only [W, EE, Nat.reduceAdd, Nat.reduceBEq, hS.var 2 rfl]
        refine w_len 0 hS rfl qm1 rfl ?_
        try simp only [W]
        refine seq_n hK22 ?_
        obtain ⟨y26, hw27, g33⟩ := Option.bind_eq_some_iff.1 h
        refine w_join gC (fun s H => ∃ x25 : List Case, y26 = (x25) ∧ s = (u :: u :: .ptr ip2 wp2 0 0 :: u :: .ptr ip6 wp6 0 0 :: u :: u :: u :: u :: u :: u :: u :: u :: u :: u :: u :: u :: u :: u :: u :: u :: u :: u :: u :: u :: u :: u :: u :: u :: u :: u :: u :: u :: u :: u :: u :: u :: u :: u :: u :: u :: u :: u :: u :: u :: u :: u :: u :: u :: u :: u :: u :: u :: u :: u :: u :: u :: u :: u :: u :: u :: u :: u :: u :: u :: u :: u :: u :: u :: u :: u :: u :: u :: u :: u :: u :: u :: u :: u :: u :: u :: u :: u :: u :: u :: u :: u :: u :: u :: u :: u :: u :: u :: u :: u :: u :: u :: u :: u :: u :: u :: u :: u :: u :: u :: u :: u :: u :: u :: u :: u :: u :: u :: u :: u :: u :: u :: u :: u :: u :: u :: u :: u :: u :: u :: u :: u :: u :: u :: u :: u :: u :: u :: u :: u :: u :: u :: u :: u :: u :: u :: u :: u :: u :: u :: u :: u :: u :: u :: u :: u :: u :: u :: u :: u :: u :: u :: u :: u :: u :: u :: u :: u :: u :: u :: u :: u :: u :: u :: u :: u :: u :: u :: []) ∧ Own H (⟨m1, 4, x25.map e_Case⟩ :: ⟨m2, 3, a0.Line.map e_Slip⟩ :: ⟨.ptr ip2 wp2 0 0, 3, [.agg [.int .i64 (IntKind.i64.wrap (a0.Now + 1)), m1, m2]]⟩ :: ⟨.ptr ip6 wp6 0 0, 3, [.agg [.int .i64 0, .nil, .nil]]⟩ :: F)) (fun K28 hK28 => ?_) (fun s H hq => ?_)
        · refine w_blk fun K29 hK29 => ?_
          refine w_loop gC hw27 (fun x s H => match x with | (x23, x24) => s = (u :: u :: .ptr ip2 wp2 0 0 :: u :: .ptr ip6 wp6 0 0 :: u :: u :: u :: u :: u :: u :: u :: u :: u :: u :: u :: u :: u :: u :: u :: u :: u :: u :: u :: u :: u :: u :: u :: u :: m1 :: .int .i64 (a0.Cases.length : Int) :: .int .i64 x24 :: u :: u :: u :: u :: u :: u :: u :: u :: u :: u :: u :: u :: u :: u :: u :: u :: u :: u :: u :: u :: u :: u :: u :: u :: u :: u :: u :: u :: u :: u :: u :: u :: u :: u :: u :: u :: u :: u :: u :: u :: u :: u :: u :: u :: u :: u :: u :: u :: u :: u :: u :: u :: u :: u :: u :: u :: u :: u :: u :: u :: u :: u :: u :: u :: u :: u :: u :: u :: u :: u :: u :: u :: u :: u :: u :: u :: u :: u :: u :: u :: u :: u :: u :: u :: u :: u :: u :: u :: u :: u :: u :: u :: u :: u :: u :: u :: u :: u :: u :: u :: u :: u :: u :: u :: u :: u :: u :: u :: u :: u :: u :: u :: u :: u :: u :: u :: u :: u :: u :: u :: u :: u :: u :: u :: u :: u :: u :: u :: u :: u :: u :: u :: u :: u :: u :: u :: u :: u :: u :: u :: u :: []) ∧ Own H (⟨m1, 4, x23.map e_Case⟩ :: ⟨m2, 3, a0.Line.map e_Slip⟩ :: ⟨.ptr ip2 wp2 0 0, 3, [.agg [.int .i64 (IntKind.i64.wrap (a0.Now + 1)), m1, m2]]⟩ :: ⟨.ptr ip6 wp6 0 0, 3, [.agg [.int .i64 0, .nil, .nil]]⟩ :: F)) ⟨rfl, hS⟩ (fun x y32 s H h hd31 hi K30 hK30 => ?_)
          obtain ⟨x23, x24⟩ := x
          try dsimp only at hi
          obtain ⟨rfl, hS⟩ := hi
          simp only [spec_l16Step_l0] at h
          refine w_seq fun K34 hK34 => ?_
          refine w_reg gC ?_
          try simp only [W, EE, Nat.reduceAdd]
          refine seq_n hK34 ?_
          refine w_seq fun K35 hK35 => ?_
          refine w_if ?_
          simp only [W]
          refine w_cnd h (fun hc h => ?_) (fun hc h => ?_)
          · refine w_skip ?_
            refine seq_n hK35 ?_
            refine w_seq fun K36 hK36 => ?_
            obtain ⟨y39, h, g40⟩ := Option.bind_eq_some_iff.1 h
            refine w_join gC (fun s H => ∃ x38 : List Case, y39 = (x38) ∧ s = (u :: u :: .ptr ip2 wp2 0 0 :: u :: .ptr ip6 wp6 0 0 :: u :: u :: u :: u :: u :: u :: u :: u :: u :: u :: u :: u :: u :: u :: u :: u :: u :: u :: u :: u :: u :: u :: u :: u :: m1 :: .int .i64 (a0.Cases.length : Int) :: .int .i64 x24 :: u :: u :: u :: u :: u :: u :: u :: u :: u :: u :: u :: u :: u :: u :: u :: u :: u :: u :: u :: u :: u :: u :: u :: u :: u :: u :: u :: u :: u :: u :: u :: u :: u :: u :: u :: u :: u :: u :: u :: u :: u :: u :: u :: u :: u :: u :: u :: u :: u :: u :: u :: u :: u :: u :: u :: u :: u :: u :: u :: u :: u :: u :: u :: u :: u :: u :: u :: u :: u :: u :: u :: u :: u :: u :: u :: u :: u :: u :: u :: u :: u :: u :: u :: u :: u :: u :: u :: u :: u :: u :: u :: u :: u :: u :: u :: u :: u :: u :: u :: u :: u :: u :: u :: u :: u :: u :: u :: u :: u :: u :: u :: u :: u :: u :: u :: u :: u :: u :: u :: u :: u :: u :: u :: u :: u :: u :: u :: u :: u :: u :: u :: u :: u :: u :: u :: u :: u :: u :: u :: u :: u :: []) ∧ Own H (⟨m1, 4, x38.map e_Case⟩ :: ⟨m2, 3, a0.Line.map e_Slip⟩ :: ⟨.ptr ip2 wp2 0 0, 3, [.agg [.int .i64 (IntKind.i64.wrap (a0.Now + 1)), m1, m2]]⟩ :: ⟨.ptr ip6 wp6 0 0, 3, [.agg [.int .i64 0, .nil, .nil]]⟩ :: F)) (fun K41 hK41 => ?_) (fun s H hq => ?_)
            · refine w_blk fun K37 hK37 => ?_
              refine w_seq fun K42 hK42 => ?_
              refine w_reg gC ?_
              try simp only [W, EE, Nat.reduceAdd]
              refine w_ow 0 hS rfl rfl rfl rfl rfl h (fun b43 in44 wn44 on44 hb43 h en44 => ?_) qm1.ne
              obtain ⟨kn44, hbn44, hen44⟩ := hS.elem 0 rfl en44 hb43
              try simp only [W, EE, EN, reduceIte, Nat.reduceAdd, Nat.reduceLeDiff, hbn44, hen44]
              refine w_alloc hS rfl rfl fun ip45 wp45 H hS => ?_
              try simp only [W]
              refine w_stv (a := .agg [.int .i64 b43.End, .bool b43.Asks, .int .i64 b43.Final, .int .i64 b43.Said]) (y' := .agg [.int .i64 b43.End, .bool b43.Asks, .int .i64 b43.Final, .int .i64 b43.Said]) 0 hS rfl rfl rfl rfl rfl rfl rfl rfl fun H hS => ?_
              try simp only [W]
              refine seq_n hK42 ?_
              refine w_seq fun K47 hK47 => ?_
              obtain ⟨y49, h, g50⟩ := Option.bind_eq_some_iff.1 h
              refine w_join gC (fun s H => ∃ x48 : Bool, y49 = (x48) ∧ s = (u :: u :: .ptr ip2 wp2 0 0 :: u :: .ptr ip6 wp6 0 0 :: u :: .int .i64 x24 :: u :: u :: u :: u :: u :: u :: u :: u :: u :: u :: u :: u :: u :: u :: u :: u :: u :: u :: u :: u :: u :: u :: m1 :: .int .i64 (a0.Cases.length : Int) :: .int .i64 x24 :: u :: u :: u :: u :: u :: u :: u :: u :: u :: u :: u :: u :: u :: .bool x48 :: u :: u :: u :: u :: u :: u :: u :: u :: u :: u :: u :: u :: u :: u :: u :: u :: u :: u :: u :: u :: u :: u :: u :: u :: u :: u :: u :: u :: u :: u :: u :: u :: u :: u :: u :: u :: u :: u :: u :: u :: u :: u :: u :: u :: u :: u :: u :: u :: u :: u :: u :: u :: u :: u :: u :: u :: u :: u :: u :: u :: u :: u :: u :: u :: u :: u :: u :: u :: u :: u :: u :: u :: u :: u :: u :: u :: u :: u :: u :: u :: u :: u :: u :: u :: u :: u :: u :: u :: u :: u :: u :: u :: u :: u :: u :: u :: u :: u :: u :: u :: u :: u :: u :: u :: u :: u :: u :: u :: u :: u :: u :: u :: u :: u :: u :: u :: u :: u :: u :: u :: u :: u :: u :: u :: u :: u :: u :: []) ∧ Own H (⟨m1, 4, x23.map e_Case⟩ :: ⟨m2, 3, a0.Line.map e_Slip⟩ :: ⟨.ptr ip2 wp2 0 0, 3, [.agg [.int .i64 (IntKind.i64.wrap (a0.Now + 1)), m1, m2]]⟩ :: ⟨.ptr ip6 wp6 0 0, 3, [.agg [.int .i64 0, .nil, .nil]]⟩ :: F)) (fun K51 hK51 => ?_) (fun s H hq => ?_)
              · refine w_seq fun K52 hK52 => ?_
                refine w_reg gC ?_
                try simp only [W, EE, Nat.reduceAdd, Nat.reduceBEq, hS.var 0 rfl]
                refine w_grdT h (fun hc h => ?_) (fun hc h => ?_)
                · try simp only [W, EE, reduceIte, Nat.reduceAdd, Nat.reduceBEq, hS.var 3 rfl, hS.var 0 rfl, hc]
                  refine seq_n hK52 ?_
                  refine w_killE (s' := (u :: u :: .ptr ip2 wp2 0 0 :: u :: .ptr ip6 wp6 0 0 :: u :: .int .i64 x24 :: u :: u :: u :: u :: u :: u :: u :: u :: u :: u :: u :: u :: u :: u :: u :: u :: u :: u :: u :: u :: u :: u :: m1 :: .int .i64 (a0.Cases.length : Int) :: .int .i64 x24 :: u :: u :: u :: u :: u :: u :: u :: u :: u :: u :: u :: u :: u :: .bool (decide (b43.End < (IntKind.i64.wrap (a0.Now + 1)))) :: u :: u :: u :: u :: u :: u :: u :: u :: u :: u :: u :: u :: u :: u :: u :: u :: u :: u :: u :: u :: u :: u :: u :: u :: u :: u :: u :: u :: u :: u :: u :: u :: u :: u :: u :: u :: u :: u :: u :: u :: u :: u :: u :: u :: u :: u :: u :: u :: u :: u :: u :: u :: u :: u :: u :: u :: u :: u :: u :: u :: u :: u :: u :: u :: u :: u :: u :: u :: u :: u :: u :: u :: u :: u :: u :: u :: u :: u :: u :: u :: u :: u :: u :: u :: u :: u :: u :: u :: u :: u :: u :: u :: u :: u :: u :: u :: u :: u :: u :: u :: u :: u :: u :: u :: u :: u :: u :: u :: u :: u :: u :: u :: u :: u :: u :: u :: u :: u :: u :: u :: u :: u :: u :: u :: u :: u :: u :: [])) rfl ?_
                  exact cut_n hK51 ⟨_, (Option.some.inj h).symm, rfl, (hS.sel 5 [1, 2, 3, 4] (by decide))⟩
                · try simp only [W, hc]
                  refine seq_n hK52 ?_
                  refine w_killE (s' := (u :: u :: .ptr ip2 wp2 0 0 :: u :: .ptr ip6 wp6 0 0 :: u :: .int .i64 x24 :: u :: u :: u :: u :: u :: u :: u :: u :: u :: u :: u :: u :: u :: u :: u :: u :: u :: u :: u :: u :: u :: u :: m1 :: .int .i64 (a0.Cases.length : Int) :: .int .i64 x24 :: u :: u :: u :: u :: u :: u :: u :: u :: u :: u :: u :: u :: u :: .bool false :: u :: u :: u :: u :: u :: u :: u :: u :: u :: u :: u :: u :: u :: u :: u :: u :: u :: u :: u :: u :: u :: u :: u :: u :: u :: u :: u :: u :: u :: u :: u :: u :: u :: u :: u :: u :: u :: u :: u :: u :: u :: u :: u :: u :: u :: u :: u :: u :: u :: u :: u :: u :: u :: u :: u :: u :: u :: u :: u :: u :: u :: u :: u :: u :: u :: u :: u :: u :: u :: u :: u :: u :: u :: u :: u :: u :: u :: u :: u :: u :: u :: u :: u :: u :: u :: u :: u :: u :: u :: u :: u :: u :: u :: u :: u :: u :: u :: u :: u :: u :: u :: u :: u :: u :: u :: u :: u :: u :: u :: u :: u :: u :: u :: u :: u :: u :: u :: u :: u :: u :: u :: u :: u :: u :: u :: u :: u :: [])) rfl ?_
                  exact cut_n hK51 ⟨_, (Option.some.inj h).symm, rfl, (hS.sel 5 [1, 2, 3, 4] (by decide))⟩
              · obtain ⟨x48, ey, rfl, hS⟩ := hq; obtain rfl := ey.symm
                replace h := g50
                try dsimp only at h
                refine seq_n hK47 ?_
                obtain ⟨y54, h, g55⟩ := Option.bind_eq_some_iff.1 h
                refine w_join gC (fun s H => ∃ x53 : List Case, y54 = (x53) ∧ s = (u :: u :: .ptr ip2 wp2 0 0 :: u :: .ptr ip6 wp6 0 0 :: u :: u :: u :: u :: u :: u :: u :: u :: u :: u :: u :: u :: u :: u :: u :: u :: u :: u :: u :: u :: u :: u :: u :: u :: m1 :: .int .i64 (a0.Cases.length : Int) :: .int .i64 x24 :: u :: u :: u :: u :: u :: u :: u :: u :: u :: u :: u :: u :: u :: u :: u :: u :: u :: u :: u :: u :: u :: u :: u :: u :: u :: u :: u :: u :: u :: u :: u :: u :: u :: u :: u :: u :: u :: u :: u :: u :: u :: u :: u :: u :: u :: u :: u :: u :: u :: u :: u :: u :: u :: u :: u :: u :: u :: u :: u :: u :: u :: u :: u :: u :: u :: u :: u :: u :: u :: u :: u :: u :: u :: u :: u :: u :: u :: u :: u :: u :: u :: u :: u :: u :: u :: u :: u :: u :: u :: u :: u :: u :: u :: u :: u :: u :: u :: u :: u :: u :: u :: u :: u :: u :: u :: u :: u :: u :: u :: u :: u :: u :: u :: u :: u :: u :: u :: u :: u :: u :: u :: u :: u :: u :: u :: u :: u :: u :: u :: u :: u :: u :: u :: u :: u :: u :: u :: u :: u :: u :: u :: []) ∧ Own H (⟨m1, 4, x53.map e_Case⟩ :: ⟨m2, 3, a0.Line.map e_Slip⟩ :: ⟨.ptr ip2 wp2 0 0, 3, [.agg [.int .i64 (IntKind.i64.wrap (a0.Now + 1)), m1, m2]]⟩ :: ⟨.ptr ip6 wp6 0 0, 3, [.agg [.int .i64 0, .nil, .nil]]⟩ :: F)) (fun K56 hK56 => ?_) (fun s H hq => ?_)
                · refine w_seq fun K57 hK57 => ?_
                  refine w_if ?_
                  simp only [W]
                  refine w_cnd h (fun hc h => ?_) (fun hc h => ?_)
                  · refine w_reg gC ?_
                    try simp only [W, EE, Nat.reduceAdd, Nat.reduceBEq, hS.var 2 rfl]
                    refine w_ow 0 hS rfl rfl rfl rfl rfl h (fun b58 in59 wn59 on59 hb58 h en59 => ?_) qm1.ne
                    obtain ⟨kn59, hbn59, hen59⟩ := hS.elem 0 rfl en59 hb58
                    try simp only [W, EE, Nat.reduceAdd, Nat.reduceBEq, hbn59]
                    refine w_ste (a := .int .i64 2) (y' := (⟨b58.End, b58.Asks, b58.Final, 2⟩ : Case)) 0 hS rfl en59 hb58 rfl rfl rfl rfl rfl rfl rfl fun H hS => ?_
                    try simp only [W]
                    refine seq_n hK57 ?_
                    refine w_killE (s' := (u :: u :: .ptr ip2 wp2 0 0 :: u :: .ptr ip6 wp6 0 0 :: u :: u :: u :: u :: u :: u :: u :: u :: u :: u :: u :: u :: u :: u :: u :: u :: u :: u :: u :: u :: u :: u :: u :: u :: m1 :: .int .i64 (a0.Cases.length : Int) :: .int .i64 x24 :: u :: u :: u :: u :: u :: u :: u :: u :: u :: u :: u :: u :: u :: u :: u :: u :: u :: u :: u :: u :: u :: u :: u :: u :: u :: u :: u :: u :: u :: u :: u :: u :: u :: u :: u :: u :: u :: u :: u :: u :: u :: u :: u :: u :: u :: u :: u :: u :: u :: u :: u :: u :: u :: u :: u :: u :: u :: u :: u :: u :: u :: u :: u :: u :: u :: u :: u :: u :: u :: u :: u :: u :: u :: u :: u :: u :: u :: u :: u :: u :: u :: u :: u :: u :: u :: u :: u :: u :: u :: u :: u :: u :: u :: u :: u :: u :: u :: u :: u :: u :: u :: u :: u :: u :: u :: u :: u :: u :: u :: u :: u :: u :: u :: u :: u :: u :: u :: u :: u :: u :: u :: u :: u :: u :: u :: u :: u :: u :: u :: u :: u :: u :: u :: u :: u :: u :: u :: u :: u :: u :: u :: [])) rfl ?_
                    exact cut_n hK56 ⟨_, (Option.some.inj h).symm, rfl, hS⟩
                  · refine w_skip ?_
                    refine seq_n hK57 ?_
                    refine w_killE (s' := (u :: u :: .ptr ip2 wp2 0 0 :: u :: .ptr ip6 wp6 0 0 :: u :: u :: u :: u :: u :: u :: u :: u :: u :: u :: u :: u :: u :: u :: u :: u :: u :: u :: u :: u :: u :: u :: u :: u :: m1 :: .int .i64 (a0.Cases.length : Int) :: .int .i64 x24 :: u :: u :: u :: u :: u :: u :: u :: u :: u :: u :: u :: u :: u :: u :: u :: u :: u :: u :: u :: u :: u :: u :: u :: u :: u :: u :: u :: u :: u :: u :: u :: u :: u :: u :: u :: u :: u :: u :: u :: u :: u :: u :: u :: u :: u :: u :: u :: u :: u :: u :: u :: u :: u :: u :: u :: u :: u :: u :: u :: u :: u :: u :: u :: u :: u :: u :: u :: u :: u :: u :: u :: u :: u :: u :: u :: u :: u :: u :: u :: u :: u :: u :: u :: u :: u :: u :: u :: u :: u :: u :: u :: u :: u :: u :: u :: u :: u :: u :: u :: u :: u :: u :: u :: u :: u :: u :: u :: u :: u :: u :: u :: u :: u :: u :: u :: u :: u :: u :: u :: u :: u :: u :: u :: u :: u :: u :: u :: u :: u :: u :: u :: u :: u :: u :: u :: u :: u :: u :: u :: u :: u :: [])) rfl ?_
                    exact cut_n hK56 ⟨_, (Option.some.inj h).symm, rfl, hS⟩
                · obtain ⟨x53, ey, rfl, hS⟩ := hq; obtain rfl := ey.symm
                  replace h := g55
                  try dsimp only at h
                  refine blk_n hK37 ?_
                  exact cut_n hK41 ⟨_, (Option.some.inj h).symm, rfl, hS⟩
            · obtain ⟨x38, ey, rfl, hS⟩ := hq; obtain rfl := ey.symm
              replace h := g40
              try dsimp only at h
              refine seq_n hK36 ?_
              refine w_reg gC ?_
              try simp only [W, EE, Nat.reduceAdd]
              exact lp_n hK30 h ⟨rfl, hS⟩
          · refine w_exit ?_
            refine seq_x hK35 ?_
            try obtain rfl := Option.some.inj h
            obtain rfl := hd31 _ rfl
            have h : (some (x23) : Option ((List Case))) = some (x23) := rfl
            refine lp_x hK30 ?_
            refine blk_e hK29 ?_
            exact cut_n hK28 ⟨_, (Option.some.inj h).symm, rfl, hS⟩
        · obtain ⟨x25, ey, rfl, hS⟩ := hq; obtain rfl := ey.symm
          replace h := g33
          try dsimp only at h
          refine seq_n hK21 ?_
          refine w_seq fun K62 hK62 => ?_
          refine w_reg gC ?_
          try simp only [W, EE, reduceIte, Nat.reduceAdd, Nat.reduceLeDiff, hS.var 2 rfl]
          refine w_stv (a := .agg [.int .i64 (IntKind.i64.wrap (a0.Now + 1)), m1, m2]) (y' := .agg [.int .i64 (IntKind.i64.wrap (a0.Now + 1)), m1, m2]) 3 hS rfl rfl rfl rfl rfl (by simp only [storA, List.all_cons, List.all_nil, qm1.stor, qm2.stor]; rfl) rfl rfl fun H hS => ?_
          try simp only [W]
          refine seq_n hK62 ?_
          refine w_ret ?_
          refine blk_r hK10 ?_
          refine seq_r hK8 ?_
          refine fin_r hK0 (res_c rfl rfl (hS.var 3 rfl) rfl (res_tc rfl rfl)) ?_
          try obtain rfl := Option.some.inj h
          exact hP _ qm1 _ qm2 _ (hS.sel 4 [0, 1] (by decide))
  · refine w_seq fun K63 hK63 => ?_
    refine w_seq fun K64 hK64 => ?_
    refine w_reg gC ?_
    try simp only [W, EE, Nat.reduceAdd]
    refine seq_n hK64 ?_
    obtain ⟨y66, h, g67⟩ := Option.bind_eq_some_iff.1 h
    refine w_join gC (fun s H => ∃ x65 : Bool, y66 = (x65) ∧ s = (u :: u :: .ptr ip2 wp2 0 0 :: .ptr ip4 wp4 0 0 :: .ptr ip6 wp6 0 0 :: u :: u :: u :: u :: u :: u :: u :: u :: u :: u :: u :: u :: u :: u :: u :: u :: u :: u :: u :: u :: u :: u :: u :: u :: u :: u :: u :: u :: u :: u :: u :: u :: u :: u :: u :: u :: u :: u :: u :: u :: u :: u :: u :: u :: u :: u :: u :: u :: .bool x65 :: u :: u :: u :: u :: u :: u :: u :: u :: u :: u :: u :: u :: u :: u :: u :: u :: u :: u :: u :: u :: u :: u :: u :: u :: u :: u :: u :: u :: u :: u :: u :: u :: u :: u :: u :: u :: u :: u :: u :: u :: u :: u :: u :: u :: u :: u :: u :: u :: u :: u :: u :: u :: u :: u :: u :: u :: u :: u :: u :: u :: u :: u :: u :: u :: u :: u :: u :: u :: u :: u :: u :: u :: u :: u :: u :: u :: u :: u :: u :: u :: u :: u :: u :: u :: u :: u :: u :: u :: u :: u :: u :: u :: u :: u :: u :: u :: u :: u :: u :: u :: u :: u :: u :: u :: u :: u :: u :: u :: u :: u :: u :: u :: u :: u :: u :: u :: u :: u :: u :: []) ∧ Own H (⟨m1, 4, a0.Cases.map e_Case⟩ :: ⟨m2, 3, a0.Line.map e_Slip⟩ :: ⟨.ptr ip2 wp2 0 0, 3, [.agg [.int .i64 a0.Now, m1, m2]]⟩ :: ⟨.ptr ip4 wp4 0 0, 2, [.agg [.int .i64 a1.Kind, .int .i64 a1.K]]⟩ :: ⟨.ptr ip6 wp6 0 0, 3, [.agg [.int .i64 0, .nil, .nil]]⟩ :: F)) (fun K68 hK68 => ?_) (fun s H hq => ?_)
    · refine w_seq fun K69 hK69 => ?_
      refine w_if ?_
      simp only [W]
      refine w_cnd h (fun hc h => ?_) (fun hc h => ?_)
      · refine w_skip ?_
        refine seq_n hK69 ?_
        refine w_killE (s' := (u :: u :: .ptr ip2 wp2 0 0 :: .ptr ip4 wp4 0 0 :: .ptr ip6 wp6 0 0 :: u :: u :: u :: u :: u :: u :: u :: u :: u :: u :: u :: u :: u :: u :: u :: u :: u :: u :: u :: u :: u :: u :: u :: u :: u :: u :: u :: u :: u :: u :: u :: u :: u :: u :: u :: u :: u :: u :: u :: u :: u :: u :: u :: u :: u :: u :: u :: u :: .bool (a1.Kind == 1) :: u :: u :: u :: u :: u :: u :: u :: u :: u :: u :: u :: u :: u :: u :: u :: u :: u :: u :: u :: u :: u :: u :: u :: u :: u :: u :: u :: u :: u :: u :: u :: u :: u :: u :: u :: u :: u :: u :: u :: u :: u :: u :: u :: u :: u :: u :: u :: u :: u :: u :: u :: u :: u :: u :: u :: u :: u :: u :: u :: u :: u :: u :: u :: u :: u :: u :: u :: u :: u :: u :: u :: u :: u :: u :: u :: u :: u :: u :: u :: u :: u :: u :: u :: u :: u :: u :: u :: u :: u :: u :: u :: u :: u :: u :: u :: u :: u :: u :: u :: u :: u :: u :: u :: u :: u :: u :: u :: u :: u :: u :: u :: u :: u :: u :: u :: u :: u :: u :: u :: [])) rfl ?_
        exact cut_n hK68 ⟨_, (Option.some.inj h).symm, rfl, (hS.sel 5 [3, 4, 2, 1, 0] (by decide))⟩
      · refine w_reg gC ?_
        try simp only [W, EE, Nat.reduceAdd]
        refine seq_n hK69 ?_
        refine w_killE (s' := (u :: u :: .ptr ip2 wp2 0 0 :: .ptr ip4 wp4 0 0 :: .ptr ip6 wp6 0 0 :: u :: u :: u :: u :: u :: u :: u :: u :: u :: u :: u :: u :: u :: u :: u :: u :: u :: u :: u :: u :: u :: u :: u :: u :: u :: u :: u :: u :: u :: u :: u :: u :: u :: u :: u :: u :: u :: u :: u :: u :: u :: u :: u :: u :: u :: u :: u :: u :: .bool (a1.Kind == 2) :: u :: u :: u :: u :: u :: u :: u :: u :: u :: u :: u :: u :: u :: u :: u :: u :: u :: u :: u :: u :: u :: u :: u :: u :: u :: u :: u :: u :: u :: u :: u :: u :: u :: u :: u :: u :: u :: u :: u :: u :: u :: u :: u :: u :: u :: u :: u :: u :: u :: u :: u :: u :: u :: u :: u :: u :: u :: u :: u :: u :: u :: u :: u :: u :: u :: u :: u :: u :: u :: u :: u :: u :: u :: u :: u :: u :: u :: u :: u :: u :: u :: u :: u :: u :: u :: u :: u :: u :: u :: u :: u :: u :: u :: u :: u :: u :: u :: u :: u :: u :: u :: u :: u :: u :: u :: u :: u :: u :: u :: u :: u :: u :: u :: u :: u :: u :: u :: u :: u :: [])) rfl ?_
        exact cut_n hK68 ⟨_, (Option.some.inj h).symm, rfl, (hS.sel 5 [3, 4, 2, 1, 0] (by decide))⟩
    · obtain ⟨x65, ey, rfl, hS⟩ := hq; obtain rfl := ey.symm
      replace h := g67
      try dsimp only at h
      refine seq_n hK63 ?_
      refine w_seq fun K70 hK70 => ?_
      refine w_if ?_
      simp only [W]
      refine w_cnd h (fun hc h => ?_) (fun hc h => ?_)
      · refine w_seq fun K71 hK71 => ?_
        refine w_seq fun K72 hK72 => ?_
        obtain ⟨y74, h, g75⟩ := Option.bind_eq_some_iff.1 h
        refine w_join gC (fun s H => ∃ x73 : Bool, y74 = (x73) ∧ s = (u :: u :: .ptr ip2 wp2 0 0 :: .ptr ip4 wp4 0 0 :: .ptr ip6 wp6 0 0 :: u :: u :: u :: u :: u :: u :: u :: u :: u :: u :: u :: u :: u :: u :: u :: u :: u :: u :: u :: u :: u :: u :: u :: u :: u :: u :: u :: u :: u :: u :: u :: u :: u :: u :: u :: u :: u :: u :: u :: u :: u :: u :: u :: u :: u :: u :: u :: u :: u :: u :: u :: u :: u :: u :: u :: u :: u :: u :: u :: u :: u :: u :: u :: u :: u :: u :: u :: u :: u :: u :: u :: u :: u :: u :: u :: u :: u :: u :: u :: u :: u :: u :: u :: u :: u :: .bool x73 :: u :: u :: u :: u :: u :: u :: u :: u :: u :: u :: u :: u :: u :: u :: u :: u :: u :: u :: u :: u :: u :: u :: u :: u :: u :: u :: u :: u :: u :: u :: u :: u :: u :: u :: u :: u :: u :: u :: u :: u :: u :: u :: u :: u :: u :: u :: u :: u :: u :: u :: u :: u :: u :: u :: u :: u :: u :: u :: u :: u :: u :: u :: u :: u :: u :: u :: u :: u :: u :: u :: u :: u :: u :: u :: u :: u :: u :: u :: u :: u :: u :: u :: []) ∧ Own H (⟨m1, 4, a0.Cases.map e_Case⟩ :: ⟨m2, 3, a0.Line.map e_Slip⟩ :: ⟨.ptr ip2 wp2 0 0, 3, [.agg [.int .i64 a0.Now, m1, m2]]⟩ :: ⟨.ptr ip4 wp4 0 0, 2, [.agg [.int .i64 a1.Kind, .int .i64 a1.K]]⟩ :: ⟨.ptr ip6 wp6 0 0, 3, [.agg [.int .i64 0, .nil, .nil]]⟩ :: F)) (fun K76 hK76 => ?_) (fun s H hq => ?_)
        · refine w_seq fun K77 hK77 => ?_
          refine w_reg gC ?_
          try simp only [W, EE, Nat.reduceAdd, Nat.reduceBEq, hS.var 3 rfl]
          refine w_grdT h (fun hc h => ?_) (fun hc h => ?_)
          · try simp only [W, hc]
            refine seq_n hK77 ?_
            refine w_killE (s' := (u :: u :: .ptr ip2 wp2 0 0 :: .ptr ip4 wp4 0 0 :: .ptr ip6 wp6 0 0 :: u :: u :: u :: u :: u :: u :: u :: u :: u :: u :: u :: u :: u :: u :: u :: u :: u :: u :: u :: u :: u :: u :: u :: u :: u :: u :: u :: u :: u :: u :: u :: u :: u :: u :: u :: u :: u :: u :: u :: u :: u :: u :: u :: u :: u :: u :: u :: u :: u :: u :: u :: u :: u :: u :: u :: u :: u :: u :: u :: u :: u :: u :: u :: u :: u :: u :: u :: u :: u :: u :: u :: u :: u :: u :: u :: u :: u :: u :: u :: u :: u :: u :: u :: u :: u :: .bool true :: u :: u :: u :: u :: u :: u :: u :: u :: u :: u :: u :: u :: u :: u :: u :: u :: u :: u :: u :: u :: u :: u :: u :: u :: u :: u :: u :: u :: u :: u :: u :: u :: u :: u :: u :: u :: u :: u :: u :: u :: u :: u :: u :: u :: u :: u :: u :: u :: u :: u :: u :: u :: u :: u :: u :: u :: u :: u :: u :: u :: u :: u :: u :: u :: u :: u :: u :: u :: u :: u :: u :: u :: u :: u :: u :: u :: u :: u :: u :: u :: u :: u :: [])) rfl ?_
            exact cut_n hK76 ⟨_, (Option.some.inj h).symm, rfl, hS⟩
          · try simp only [W, EE, Nat.reduceAdd, Nat.reduceBEq, hS.var 2 rfl, hS.var 3 rfl, hc]
            refine w_len 0 hS rfl qm1 rfl ?_
            try simp only [W, EE, reduceIte, Bool.false_eq_true]
            refine w_grdT h (fun hc h => ?_) (fun hc h => ?_)
            · try simp only [W, hc]
              refine seq_n hK77 ?_
              refine w_killE (s' := (u :: u :: .ptr ip2 wp2 0 0 :: .ptr ip4 wp4 0 0 :: .ptr ip6 wp6 0 0 :: u :: u :: u :: u :: u :: u :: u :: u :: u :: u :: u :: u :: u :: u :: u :: u :: u :: u :: u :: u :: u :: u :: u :: u :: u :: u :: u :: u :: u :: u :: u :: u :: u :: u :: u :: u :: u :: u :: u :: u :: u :: u :: u :: u :: u :: u :: u :: u :: u :: u :: u :: u :: u :: u :: u :: u :: u :: u :: u :: u :: u :: u :: u :: u :: u :: u :: u :: u :: u :: u :: u :: u :: u :: u :: u :: u :: u :: u :: u :: u :: u :: u :: u :: u :: u :: .bool true :: u :: u :: u :: u :: u :: u :: u :: u :: u :: u :: u :: u :: u :: u :: u :: u :: u :: u :: u :: u :: u :: u :: u :: u :: u :: u :: u :: u :: u :: u :: u :: u :: u :: u :: u :: u :: u :: u :: u :: u :: u :: u :: u :: u :: u :: u :: u :: u :: u :: u :: u :: u :: u :: u :: u :: u :: u :: u :: u :: u :: u :: u :: u :: u :: u :: u :: u :: u :: u :: u :: u :: u :: u :: u :: u :: u :: u :: u :: u :: u :: u :: u :: [])) rfl ?_
              exact cut_n hK76 ⟨_, (Option.some.inj h).symm, rfl, hS⟩
            · try simp only [W, EE, Nat.reduceAdd, Nat.reduceBEq, hS.var 2 rfl, hS.var 3 rfl, hc]
              refine w_ow 0 hS rfl rfl rfl rfl rfl h (fun b78 in79 wn79 on79 hb78 h en79 => ?_) qm1.ne
              obtain ⟨kn79, hbn79, hen79⟩ := hS.elem 0 rfl en79 hb78
              try simp only [W, EE, EN, reduceIte, Nat.reduceAdd, Nat.reduceBEq, Bool.false_eq_true, hbn79, hen79]
              refine w_grdT h (fun hc h => ?_) (fun hc h => ?_)
              · try simp only [W, hc]
                refine seq_n hK77 ?_
                refine w_killE (s' := (u :: u :: .ptr ip2 wp2 0 0 :: .ptr ip4 wp4 0 0 :: .ptr ip6 wp6 0 0 :: u :: u :: u :: u :: u :: u :: u :: u :: u :: u :: u :: u :: u :: u :: u :: u :: u :: u :: u :: u :: u :: u :: u :: u :: u :: u :: u :: u :: u :: u :: u :: u :: u :: u :: u :: u :: u :: u :: u :: u :: u :: u :: u :: u :: u :: u :: u :: u :: u :: u :: u :: u :: u :: u :: u :: u :: u :: u :: u :: u :: u :: u :: u :: u :: u :: u :: u :: u :: u :: u :: u :: u :: u :: u :: u :: u :: u :: u :: u :: u :: u :: u :: u :: u :: u :: .bool true :: u :: u :: u :: u :: u :: u :: u :: u :: u :: u :: u :: u :: u :: u :: u :: u :: u :: u :: u :: u :: u :: u :: u :: u :: u :: u :: u :: u :: u :: u :: u :: u :: u :: u :: u :: u :: u :: u :: u :: u :: u :: u :: u :: u :: u :: u :: u :: u :: u :: u :: u :: u :: u :: u :: u :: u :: u :: u :: u :: u :: u :: u :: u :: u :: u :: u :: u :: u :: u :: u :: u :: u :: u :: u :: u :: u :: u :: u :: u :: u :: u :: u :: [])) rfl ?_
                exact cut_n hK76 ⟨_, (Option.some.inj h).symm, rfl, hS⟩
              · try simp only [W, EE, Nat.reduceAdd, Nat.reduceBEq, hS.var 3 rfl, hc]
                refine w_grdT h (fun hc h => ?_) (fun hc h => ?_)
                · try simp only [W, EE, Nat.reduceAdd, Nat.reduceBEq, hS.var 2 rfl, hS.var 3 rfl, hc]
                  refine w_ow 0 hS rfl rfl rfl rfl rfl h (fun b80 in81 wn81 on81 hb80 h en81 => ?_) qm1.ne
                  obtain ⟨kn81, hbn81, hen81⟩ := hS.elem 0 rfl en81 hb80
                  try simp only [W, EE, EN, reduceIte, Nat.reduceAdd, Nat.reduceBEq, Bool.false_eq_true, hbn81, hen81]
                  refine seq_n hK77 ?_
                  refine w_killE (s' := (u :: u :: .ptr ip2 wp2 0 0 :: .ptr ip4 wp4 0 0 :: .ptr ip6 wp6 0 0 :: u :: u :: u :: u :: u :: u :: u :: u :: u :: u :: u :: u :: u :: u :: u :: u :: u :: u :: u :: u :: u :: u :: u :: u :: u :: u :: u :: u :: u :: u :: u :: u :: u :: u :: u :: u :: u :: u :: u :: u :: u :: u :: u :: u :: u :: u :: u :: u :: u :: u :: u :: u :: u :: u :: u :: u :: u :: u :: u :: u :: u :: u :: u :: u :: u :: u :: u :: u :: u :: u :: u :: u :: u :: u :: u :: u :: u :: u :: u :: u :: u :: u :: u :: u :: u :: .bool b80.Asks :: u :: u :: u :: u :: u :: u :: u :: u :: u :: u :: u :: u :: u :: u :: u :: u :: u :: u :: u :: u :: u :: u :: u :: u :: u :: u :: u :: u :: u :: u :: u :: u :: u :: u :: u :: u :: u :: u :: u :: u :: u :: u :: u :: u :: u :: u :: u :: u :: u :: u :: u :: u :: u :: u :: u :: u :: u :: u :: u :: u :: u :: u :: u :: u :: u :: u :: u :: u :: u :: u :: u :: u :: u :: u :: u :: u :: u :: u :: u :: u :: u :: u :: [])) rfl ?_
                  exact cut_n hK76 ⟨_, (Option.some.inj h).symm, rfl, hS⟩
                · try simp only [W, reduceIte, Bool.false_eq_true, hc]
                  refine seq_n hK77 ?_
                  refine w_killE (s' := (u :: u :: .ptr ip2 wp2 0 0 :: .ptr ip4 wp4 0 0 :: .ptr ip6 wp6 0 0 :: u :: u :: u :: u :: u :: u :: u :: u :: u :: u :: u :: u :: u :: u :: u :: u :: u :: u :: u :: u :: u :: u :: u :: u :: u :: u :: u :: u :: u :: u :: u :: u :: u :: u :: u :: u :: u :: u :: u :: u :: u :: u :: u :: u :: u :: u :: u :: u :: u :: u :: u :: u :: u :: u :: u :: u :: u :: u :: u :: u :: u :: u :: u :: u :: u :: u :: u :: u :: u :: u :: u :: u :: u :: u :: u :: u :: u :: u :: u :: u :: u :: u :: u :: u :: u :: .bool false :: u :: u :: u :: u :: u :: u :: u :: u :: u :: u :: u :: u :: u :: u :: u :: u :: u :: u :: u :: u :: u :: u :: u :: u :: u :: u :: u :: u :: u :: u :: u :: u :: u :: u :: u :: u :: u :: u :: u :: u :: u :: u :: u :: u :: u :: u :: u :: u :: u :: u :: u :: u :: u :: u :: u :: u :: u :: u :: u :: u :: u :: u :: u :: u :: u :: u :: u :: u :: u :: u :: u :: u :: u :: u :: u :: u :: u :: u :: u :: u :: u :: u :: [])) rfl ?_
                  exact cut_n hK76 ⟨_, (Option.some.inj h).symm, rfl, hS⟩
        · obtain ⟨x73, ey, rfl, hS⟩ := hq; obtain rfl := ey.symm
          replace h := g75
          try dsimp only at h
          refine seq_n hK72 ?_
          refine w_if ?_
          simp only [W]
          refine w_cnd h (fun hc h => ?_) (fun hc h => ?_)
          · refine w_seq fun K82 hK82 => ?_
            refine w_reg gC ?_
            try simp only [W, EE, reduceIte, Nat.reduceAdd, Nat.reduceLeDiff, hS.var 2 rfl]
            refine w_stv (a := .agg [.int .i64 a0.Now, m1, m2]) (y' := .agg [.int .i64 a0.Now, m1, m2]) 4 hS rfl rfl rfl rfl rfl (by simp only [storA, List.all_cons, List.all_nil, qm1.stor, qm2.stor]; rfl) rfl rfl fun H hS => ?_
            try simp only [W]
            refine seq_n hK82 ?_
            refine w_ret ?_
            refine seq_r hK71 ?_
            refine seq_r hK70 ?_
            refine blk_r hK10 ?_
            refine seq_r hK8 ?_
            refine fin_r hK0 (res_c rfl rfl (hS.var 4 rfl) rfl (res_tc rfl rfl)) ?_
            try obtain rfl := Option.some.inj h
            exact hP _ qm1 _ qm2 _ (hS.sel 5 [0, 1] (by decide))
          · refine w_skip ?_
            refine seq_n hK71 ?_
            refine w_seq fun K83 hK83 => ?_
            refine w_seq fun K84 hK84 => ?_
            refine w_reg gC ?_
            try simp only [W, EE, Nat.reduceAdd, Nat.reduceBEq, hS.var 3 rfl]
            refine seq_n hK84 ?_
            refine w_if ?_
            simp only [W]
            refine w_cnd h (fun hc h => ?_) (fun hc h => ?_)
            · refine w_seq fun K85 hK85 => ?_
              refine w_reg gC ?_
              try simp only [W, EE, Nat.reduceAdd, Nat.reduceBEq, hS.var 2 rfl, hS.var 3 rfl]
              refine w_ow 0 hS rfl rfl rfl rfl rfl h (fun b86 in87 wn87 on87 hb86 h en87 => ?_) qm1.ne
              obtain ⟨kn87, hbn87, hen87⟩ := hS.elem 0 rfl en87 hb86
              try simp only [W, EE, Nat.reduceAdd, Nat.reduceBEq, hbn87]
              refine w_ste (a := .bool true) (y' := (⟨b86.End, true, b86.Final, b86.Said⟩ : Case)) 0 hS rfl en87 hb86 rfl rfl rfl rfl rfl rfl rfl fun H hS => ?_
              try simp only [W]
              refine seq_n hK85 ?_
              refine w_seq fun K88 hK88 => ?_
              refine w_reg gC ?_
              try simp only [W, EE, reduceIte, Nat.reduceAdd, Nat.reduceLeDiff, hS.var 2 rfl]
              refine w_stv (a := .agg [.int .i64 a0.Now, m1, m2]) (y' := .agg [.int .i64 a0.Now, m1, m2]) 4 hS rfl rfl rfl rfl rfl (by simp only [storA, List.all_cons, List.all_nil, qm1.stor, qm2.stor]; rfl) rfl rfl fun H hS => ?_
              try simp only [W]
              refine seq_n hK88 ?_
              refine w_ret ?_
              refine seq_r hK83 ?_
              refine seq_r hK70 ?_
              refine blk_r hK10 ?_
              refine seq_r hK8 ?_
              refine fin_r hK0 (res_c rfl rfl (hS.var 4 rfl) rfl (res_tc rfl rfl)) ?_
              try obtain rfl := Option.some.inj h
              exact hP _ qm1 _ qm2 _ (hS.sel 5 [0, 1] (by decide))
            · refine w_skip ?_
              refine seq_n hK83 ?_
              refine w_seq fun K89 hK89 => ?_
              refine w_reg gC ?_
              try simp only [W, Nat.reduceAdd]
              refine seq_n hK89 ?_
              refine w_seq fun K90 hK90 => ?_
              refine w_seq fun K91 hK91 => ?_
              refine w_reg gC ?_
              try simp only [W, EE, Nat.reduceAdd, Nat.reduceBEq, hS.var 2 rfl, hS.var 3 rfl]
              refine w_ow 0 hS rfl rfl rfl rfl rfl h (fun b92 in93 wn93 on93 hb92 h en93 => ?_) qm1.ne
              obtain ⟨kn93, hbn93, hen93⟩ := hS.elem 0 rfl en93 hb92
              try simp only [W, EE, EN, Nat.reduceAdd, Nat.reduceBEq, hbn93, hen93]
              refine seq_n hK91 ?_
              obtain ⟨y95, h, g96⟩ := Option.bind_eq_some_iff.1 h
              refine w_join gC (fun s H => ∃ x94 : Int, y95 = (x94) ∧ s = (u :: u :: .ptr ip2 wp2 0 0 :: .ptr ip4 wp4 0 0 :: .ptr ip6 wp6 0 0 :: u :: u :: u :: .int .i64 x94 :: u :: u :: u :: u :: u :: u :: u :: u :: u :: u :: u :: u :: u :: u :: u :: u :: u :: u :: u :: u :: u :: u :: u :: u :: u :: u :: u :: u :: u :: u :: u :: u :: u :: u :: u :: u :: u :: u :: u :: u :: u :: u :: u :: u :: u :: u :: u :: u :: u :: u :: u :: u :: u :: u :: u :: u :: u :: u :: u :: u :: u :: u :: u :: u :: u :: u :: u :: u :: u :: u :: u :: u :: u :: u :: u :: u :: u :: u :: u :: u :: u :: u :: u :: u :: u :: u :: u :: u :: u :: u :: u :: u :: u :: u :: u :: u :: u :: u :: u :: u :: u :: u :: u :: u :: u :: u :: u :: u :: u :: u :: u :: u :: u :: u :: u :: u :: u :: u :: u :: u :: u :: u :: u :: u :: u :: u :: u :: u :: u :: u :: u :: u :: u :: u :: u :: u :: u :: u :: u :: u :: u :: u :: u :: u :: u :: u :: u :: u :: u :: u :: u :: u :: u :: u :: u :: u :: u :: u :: u :: u :: u :: u :: u :: u :: []) ∧ Own H (⟨m1, 4, a0.Cases.map e_Case⟩ :: ⟨m2, 3, a0.Line.map e_Slip⟩ :: ⟨.ptr ip2 wp2 0 0, 3, [.agg [.int .i64 a0.Now, m1, m2]]⟩ :: ⟨.ptr ip4 wp4 0 0, 2, [.agg [.int .i64 a1.Kind, .int .i64 a1.K]]⟩ :: ⟨.ptr ip6 wp6 0 0, 3, [.agg [.int .i64 0, .nil, .nil]]⟩ :: F)) (fun K97 hK97 => ?_) (fun s H hq => ?_)
              · refine w_seq fun K98 hK98 => ?_
                refine w_if ?_
                simp only [W]
                refine w_cnd h (fun hc h => ?_) (fun hc h => ?_)
                · refine w_reg gC ?_
                  try simp only [W, Nat.reduceAdd]
                  refine seq_n hK98 ?_
                  refine w_killE (s' := (u :: u :: .ptr ip2 wp2 0 0 :: .ptr ip4 wp4 0 0 :: .ptr ip6 wp6 0 0 :: u :: u :: u :: .int .i64 2 :: u :: u :: u :: u :: u :: u :: u :: u :: u :: u :: u :: u :: u :: u :: u :: u :: u :: u :: u :: u :: u :: u :: u :: u :: u :: u :: u :: u :: u :: u :: u :: u :: u :: u :: u :: u :: u :: u :: u :: u :: u :: u :: u :: u :: u :: u :: u :: u :: u :: u :: u :: u :: u :: u :: u :: u :: u :: u :: u :: u :: u :: u :: u :: u :: u :: u :: u :: u :: u :: u :: u :: u :: u :: u :: u :: u :: u :: u :: u :: u :: u :: u :: u :: u :: u :: u :: u :: u :: u :: u :: u :: u :: u :: u :: u :: u :: u :: u :: u :: u :: u :: u :: u :: u :: u :: u :: u :: u :: u :: u :: u :: u :: u :: u :: u :: u :: u :: u :: u :: u :: u :: u :: u :: u :: u :: u :: u :: u :: u :: u :: u :: u :: u :: u :: u :: u :: u :: u :: u :: u :: u :: u :: u :: u :: u :: u :: u :: u :: u :: u :: u :: u :: u :: u :: u :: u :: u :: u :: u :: u :: u :: u :: u :: u :: [])) rfl ?_
                  exact cut_n hK97 ⟨_, (Option.some.inj h).symm, rfl, hS⟩
                · refine w_skip ?_
                  refine seq_n hK98 ?_
                  refine w_killE (s' := (u :: u :: .ptr ip2 wp2 0 0 :: .ptr ip4 wp4 0 0 :: .ptr ip6 wp6 0 0 :: u :: u :: u :: .int .i64 1 :: u :: u :: u :: u :: u :: u :: u :: u :: u :: u :: u :: u :: u :: u :: u :: u :: u :: u :: u :: u :: u :: u :: u :: u :: u :: u :: u :: u :: u :: u :: u :: u :: u :: u :: u :: u :: u :: u :: u :: u :: u :: u :: u :: u :: u :: u :: u :: u :: u :: u :: u :: u :: u :: u :: u :: u :: u :: u :: u :: u :: u :: u :: u :: u :: u :: u :: u :: u :: u :: u :: u :: u :: u :: u :: u :: u :: u :: u :: u :: u :: u :: u :: u :: u :: u :: u :: u :: u :: u :: u :: u :: u :: u :: u :: u :: u :: u :: u :: u :: u :: u :: u :: u :: u :: u :: u :: u :: u :: u :: u :: u :: u :: u :: u :: u :: u :: u :: u :: u :: u :: u :: u :: u :: u :: u :: u :: u :: u :: u :: u :: u :: u :: u :: u :: u :: u :: u :: u :: u :: u :: u :: u :: u :: u :: u :: u :: u :: u :: u :: u :: u :: u :: u :: u :: u :: u :: u :: u :: u :: u :: u :: u :: u :: u :: [])) rfl ?_
                  exact cut_n hK97 ⟨_, (Option.some.inj h).symm, rfl, hS⟩
              · obtain ⟨x94, ey, rfl, hS⟩ := hq; obtain rfl := ey.symm
                replace h := g96
                try dsimp only at h
                refine seq_n hK90 ?_
                refine w_seq fun K99 hK99 => ?_
                refine w_reg gC ?_
                try simp only [W, EE, reduceIte, Nat.reduceAdd, Nat.reduceLeDiff, Nat.reduceBEq, hS.var 2 rfl, hS.var 3 rfl]
                refine w_bld rfl rfl rfl rfl rfl ?_
                try simp only [W]
                refine w_call h fun b100 hb100 h => ?_
                refine spec_l16Write_w hb100 hS qm1 qm2 fun v101 qv101 v103 qv103 H hS => ?_
                try simp only [W]
                refine w_stv (a := .agg [.int .i64 b100.Now, v101, v103]) (y' := .agg [.int .i64 b100.Now, v101, v103]) 4 hS rfl rfl rfl rfl rfl (by simp only [storA, List.all_cons, List.all_nil, qv101.stor, qv103.stor]; rfl) rfl rfl fun H hS => ?_
                try simp only [W]
                refine seq_n hK99 ?_
                refine w_ret ?_
                refine seq_r hK70 ?_
                refine blk_r hK10 ?_
                refine seq_r hK8 ?_
                refine fin_r hK0 (res_c rfl rfl (hS.var 4 rfl) rfl (res_tc rfl rfl)) ?_
                try obtain rfl := Option.some.inj h
                exact hP _ qv101 _ qv103 _ (hS.sel 5 [0, 1] (by decide))
      · refine w_skip ?_
        refine seq_n hK70 ?_
        refine w_killE (s' := (u :: u :: .ptr ip2 wp2 0 0 :: .ptr ip4 wp4 0 0 :: .ptr ip6 wp6 0 0 :: u :: u :: u :: u :: u :: u :: u :: u :: u :: u :: u :: u :: u :: u :: u :: u :: u :: u :: u :: u :: u :: u :: u :: u :: u :: u :: u :: u :: u :: u :: u :: u :: u :: u :: u :: u :: u :: u :: u :: u :: u :: u :: u :: u :: u :: u :: u :: u :: .bool x65 :: u :: u :: u :: u :: u :: u :: u :: u :: u :: u :: u :: u :: u :: u :: u :: u :: u :: u :: u :: u :: u :: u :: u :: u :: u :: u :: u :: u :: u :: u :: u :: u :: u :: u :: u :: u :: u :: u :: u :: u :: u :: u :: u :: u :: u :: u :: u :: u :: u :: u :: u :: u :: u :: u :: u :: u :: u :: u :: u :: u :: u :: u :: u :: u :: u :: u :: u :: u :: u :: u :: u :: u :: u :: u :: u :: u :: u :: u :: u :: u :: u :: u :: u :: u :: u :: u :: u :: u :: u :: u :: u :: u :: u :: u :: u :: u :: u :: u :: u :: u :: u :: u :: u :: u :: u :: u :: u :: u :: u :: u :: u :: u :: u :: u :: u :: u :: u :: u :: u :: [])) rfl ?_
        refine blk_n0 hK10 ?_
        refine seq_n hK8 ?_
        refine w_seq fun K105 hK105 => ?_
        refine w_seq fun K106 hK106 => ?_
        obtain ⟨y108, h, g109⟩ := Option.bind_eq_some_iff.1 h
        refine w_join gC (fun s H => ∃ x107 : Bool, y108 = (x107) ∧ s = (u :: u :: .ptr ip2 wp2 0 0 :: .ptr ip4 wp4 0 0 :: .ptr ip6 wp6 0 0 :: u :: u :: u :: u :: u :: u :: u :: u :: u :: u :: u :: u :: u :: u :: u :: u :: u :: u :: u :: u :: u :: u :: u :: u :: u :: u :: u :: u :: u :: u :: u :: u :: u :: u :: u :: u :: u :: u :: u :: u :: u :: u :: u :: u :: u :: u :: u :: u :: u :: u :: u :: u :: u :: u :: u :: u :: u :: u :: u :: u :: u :: u :: u :: u :: u :: u :: u :: u :: u :: u :: u :: u :: u :: u :: u :: u :: u :: u :: u :: u :: u :: u :: u :: u :: u :: u :: u :: u :: u :: u :: u :: u :: u :: u :: u :: u :: u :: u :: u :: u :: u :: u :: u :: u :: u :: u :: u :: u :: u :: u :: u :: u :: u :: u :: u :: u :: u :: u :: u :: u :: u :: u :: u :: u :: u :: u :: .bool x107 :: u :: u :: u :: u :: u :: u :: u :: u :: u :: u :: u :: u :: u :: u :: u :: u :: u :: u :: u :: u :: u :: u :: u :: u :: u :: u :: u :: u :: u :: u :: u :: u :: u :: u :: u :: u :: u :: u :: u :: u :: u :: []) ∧ Own H (⟨m1, 4, a0.Cases.map e_Case⟩ :: ⟨m2, 3, a0.Line.map e_Slip⟩ :: ⟨.ptr ip2 wp2 0 0, 3, [.agg [.int .i64 a0.Now, m1, m2]]⟩ :: ⟨.ptr ip4 wp4 0 0, 2, [.agg [.int .i64 a1.Kind, .int .i64 a1.K]]⟩ :: ⟨.ptr ip6 wp6 0 0, 3, [.agg [.int .i64 0, .nil, .nil]]⟩ :: F)) (fun K110 hK110 => ?_) (fun s H hq => ?_)
        · refine w_seq fun K111 hK111 => ?_
          refine w_reg gC ?_
          try simp only [W, EE, Nat.reduceAdd, Nat.reduceBEq, hS.var 3 rfl]
          refine w_grdT h (fun hc h => ?_) (fun hc h => ?_)
          · try simp only [W, hc]
            refine seq_n hK111 ?_
            refine w_killE (s' := (u :: u :: .ptr ip2 wp2 0 0 :: .ptr ip4 wp4 0 0 :: .ptr ip6 wp6 0 0 :: u :: u :: u :: u :: u :: u :: u :: u :: u :: u :: u :: u :: u :: u :: u :: u :: u :: u :: u :: u :: u :: u :: u :: u :: u :: u :: u :: u :: u :: u :: u :: u :: u :: u :: u :: u :: u :: u :: u :: u :: u :: u :: u :: u :: u :: u :: u :: u :: u :: u :: u :: u :: u :: u :: u :: u :: u :: u :: u :: u :: u :: u :: u :: u :: u :: u :: u :: u :: u :: u :: u :: u :: u :: u :: u :: u :: u :: u :: u :: u :: u :: u :: u :: u :: u :: u :: u :: u :: u :: u :: u :: u :: u :: u :: u :: u :: u :: u :: u :: u :: u :: u :: u :: u :: u :: u :: u :: u :: u :: u :: u :: u :: u :: u :: u :: u :: u :: u :: u :: u :: u :: u :: u :: u :: u :: u :: .bool true :: u :: u :: u :: u :: u :: u :: u :: u :: u :: u :: u :: u :: u :: u :: u :: u :: u :: u :: u :: u :: u :: u :: u :: u :: u :: u :: u :: u :: u :: u :: u :: u :: u :: u :: u :: u :: u :: u :: u :: u :: u :: [])) rfl ?_
            exact cut_n hK110 ⟨_, (Option.some.inj h).symm, rfl, hS⟩
          · try simp only [W, EE, Nat.reduceAdd, Nat.reduceBEq, hS.var 2 rfl, hS.var 3 rfl, hc]
            refine w_len 1 hS rfl qm2 rfl ?_
            try simp only [W, EE, reduceIte, Bool.false_eq_true]
            refine w_grdT h (fun hc h => ?_) (fun hc h => ?_)
            · try simp only [W, hc]
              refine seq_n hK111 ?_
              refine w_killE (s' := (u :: u :: .ptr ip2 wp2 0 0 :: .ptr ip4 wp4 0 0 :: .ptr ip6 wp6 0 0 :: u :: u :: u :: u :: u :: u :: u :: u :: u :: u :: u :: u :: u :: u :: u :: u :: u :: u :: u :: u :: u :: u :: u :: u :: u :: u :: u :: u :: u :: u :: u :: u :: u :: u :: u :: u :: u :: u :: u :: u :: u :: u :: u :: u :: u :: u :: u :: u :: u :: u :: u :: u :: u :: u :: u :: u :: u :: u :: u :: u :: u :: u :: u :: u :: u :: u :: u :: u :: u :: u :: u :: u :: u :: u :: u :: u :: u :: u :: u :: u :: u :: u :: u :: u :: u :: u :: u :: u :: u :: u :: u :: u :: u :: u :: u :: u :: u :: u :: u :: u :: u :: u :: u :: u :: u :: u :: u :: u :: u :: u :: u :: u :: u :: u :: u :: u :: u :: u :: u :: u :: u :: u :: u :: u :: u :: u :: .bool true :: u :: u :: u :: u :: u :: u :: u :: u :: u :: u :: u :: u :: u :: u :: u :: u :: u :: u :: u :: u :: u :: u :: u :: u :: u :: u :: u :: u :: u :: u :: u :: u :: u :: u :: u :: u :: u :: u :: u :: u :: u :: [])) rfl ?_
              exact cut_n hK110 ⟨_, (Option.some.inj h).symm, rfl, hS⟩
            · try simp only [W, EE, Nat.reduceAdd, Nat.reduceBEq, hS.var 3 rfl, hc]
              refine w_call h fun b112 hb112 h => ?_
              refine spec_l1In_w hb112 hS fun H hS => ?_
              try simp only [W, reduceIte, Bool.false_eq_true]
              refine seq_n hK111 ?_
              refine w_killE (s' := (u :: u :: .ptr ip2 wp2 0 0 :: .ptr ip4 wp4 0 0 :: .ptr ip6 wp6 0 0 :: u :: u :: u :: u :: u :: u :: u :: u :: u :: u :: u :: u :: u :: u :: u :: u :: u :: u :: u :: u :: u :: u :: u :: u :: u :: u :: u :: u :: u :: u :: u :: u :: u :: u :: u :: u :: u :: u :: u :: u :: u :: u :: u :: u :: u :: u :: u :: u :: u :: u :: u :: u :: u :: u :: u :: u :: u :: u :: u :: u :: u :: u :: u :: u :: u :: u :: u :: u :: u :: u :: u :: u :: u :: u :: u :: u :: u :: u :: u :: u :: u :: u :: u :: u :: u :: u :: u :: u :: u :: u :: u :: u :: u :: u :: u :: u :: u :: u :: u :: u :: u :: u :: u :: u :: u :: u :: u :: u :: u :: u :: u :: u :: u :: u :: u :: u :: u :: u :: u :: u :: u :: u :: u :: u :: u :: u :: .bool (!b112) :: u :: u :: u :: u :: u :: u :: u :: u :: u :: u :: u :: u :: u :: u :: u :: u :: u :: u :: u :: u :: u :: u :: u :: u :: u :: u :: u :: u :: u :: u :: u :: u :: u :: u :: u :: u :: u :: u :: u :: u :: u :: [])) rfl ?_
              exact cut_n hK110 ⟨_, (Option.some.inj h).symm, rfl, hS⟩
        · obtain ⟨x107, ey, rfl, hS⟩ := hq; obtain rfl := ey.symm
          replace h := g109
          try dsimp only at h
          refine seq_n hK106 ?_
          refine w_if ?_
          simp only [W]
          refine w_cnd h (fun hc h => ?_) (fun hc h => ?_)
          · refine w_seq fun K113 hK113 => ?_
            refine w_reg gC ?_
            try simp only [W, EE, reduceIte, Nat.reduceAdd, Nat.reduceLeDiff, hS.var 2 rfl]
            refine w_stv (a := .agg [.int .i64 a0.Now, m1, m2]) (y' := .agg [.int .i64 a0.Now, m1, m2]) 4 hS rfl rfl rfl rfl rfl (by simp only [storA, List.all_cons, List.all_nil, qm1.stor, qm2.stor]; rfl) rfl rfl fun H hS => ?_
            try simp only [W]
            refine seq_n hK113 ?_
            refine w_ret ?_
            refine seq_r hK105 ?_
            refine fin_r hK0 (res_c rfl rfl (hS.var 4 rfl) rfl (res_tc rfl rfl)) ?_
            try obtain rfl := Option.some.inj h
            exact hP _ qm1 _ qm2 _ (hS.sel 5 [0, 1] (by decide))
          · refine w_skip ?_
            refine seq_n hK105 ?_
            refine w_seq fun K114 hK114 => ?_
            refine w_reg gC ?_
            try simp only [W, EE, Nat.reduceAdd, Nat.reduceBEq, hS.var 2 rfl, hS.var 3 rfl]
            refine w_ow 1 hS rfl rfl rfl rfl rfl h (fun b115 in116 wn116 on116 hb115 h en116 => ?_) qm2.ne
            obtain ⟨kn116, hbn116, hen116⟩ := hS.elem 1 rfl en116 hb115
            try simp only [W, EE, EN, reduceIte, Nat.reduceAdd, Nat.reduceLeDiff, hbn116, hen116]
            refine w_alloc hS rfl rfl fun ip117 wp117 H hS => ?_
            try simp only [W]
            refine w_stv (a := .agg [.int .i64 b115.Kind, .int .i64 b115.Case, .int .i64 b115.What]) (y' := .agg [.int .i64 b115.Kind, .int .i64 b115.Case, .int .i64 b115.What]) 0 hS rfl rfl rfl rfl rfl rfl rfl rfl fun H hS => ?_
            try simp only [W]
            refine seq_n hK114 ?_
            refine w_seq fun K119 hK119 => ?_
            refine w_seq fun K120 hK120 => ?_
            refine w_reg gC ?_
            try simp only [W, EE, Nat.reduceAdd, Nat.reduceBEq, hS.var 4 rfl]
            refine seq_n hK120 ?_
            refine w_if ?_
            simp only [W]
            refine w_cnd h (fun hc h => ?_) (fun hc h => ?_)
            · refine w_seq fun K121 hK121 => ?_
              refine w_seq fun K122 hK122 => ?_
              refine w_reg gC ?_
              try simp only [W, EE, Nat.reduceAdd, Nat.reduceBEq, hS.var 3 rfl]
              refine w_len 2 hS rfl qm2 rfl ?_
              try simp only [W, EE]
              refine seq_n hK122 ?_
              refine w_if ?_
              simp only [W]
              refine w_cnd h (fun hc h => ?_) (fun hc h => ?_)
              · refine w_seq fun K123 hK123 => ?_
                refine w_reg gC ?_
                try simp only [W, EE, reduceIte, Nat.reduceAdd, Nat.reduceLeDiff, hS.var 3 rfl]
                refine w_stv (a := .agg [.int .i64 a0.Now, m1, m2]) (y' := .agg [.int .i64 a0.Now, m1, m2]) 5 hS rfl rfl rfl rfl rfl (by simp only [storA, List.all_cons, List.all_nil, qm1.stor, qm2.stor]; rfl) rfl rfl fun H hS => ?_
                try simp only [W]
                refine seq_n hK123 ?_
                refine w_ret ?_
                refine seq_r hK121 ?_
                refine seq_r hK119 ?_
                refine fin_r hK0 (res_c rfl rfl (hS.var 5 rfl) rfl (res_tc rfl rfl)) ?_
                try obtain rfl := Option.some.inj h
                exact hP _ qm1 _ qm2 _ (hS.sel 6 [1, 2] (by decide))
              · refine w_skip ?_
                refine seq_n hK121 ?_
                refine w_seq fun K124 hK124 => ?_
                refine w_reg gC ?_
                try simp only [W, EE, reduceIte, Nat.reduceAdd, Nat.reduceLeDiff, hS.var 0 rfl, hS.var 3 rfl]
                refine w_call h fun b125 hb125 h => ?_
                refine spec_l16Write_w hb125 (hS.sel 6 [1, 2, 0, 3, 4, 5] (by decide)) qm1 qm2 fun v126 qv126 v128 qv128 H hS => ?_
                try simp only [W]
                refine w_stv (a := .agg [.int .i64 b125.Now, v126, v128]) (y' := .agg [.int .i64 b125.Now, v126, v128]) 5 hS rfl rfl rfl rfl rfl (by simp only [storA, List.all_cons, List.all_nil, qv126.stor, qv128.stor]; rfl) rfl rfl fun H hS => ?_
                try simp only [W]
                refine seq_n hK124 ?_
                refine w_ret ?_
                refine seq_r hK119 ?_
                refine fin_r hK0 (res_c rfl rfl (hS.var 5 rfl) rfl (res_tc rfl rfl)) ?_
                try obtain rfl := Option.some.inj h
                exact hP _ qv126 _ qv128 _ (hS.sel 6 [0, 1] (by decide))
            · refine w_skip ?_
              refine seq_n hK119 ?_
              refine w_seq fun K130 hK130 => ?_
              refine w_reg gC ?_
              try simp only [W, Nat.reduceAdd]
              refine w_lit0 rfl rfl ?_
              try simp only [W, EE, Nat.reduceAdd, Nat.reduceBEq, hS.var 3 rfl, hS.var 4 rfl]
              refine w_slW 2 hS rfl qm2 rfl rfl rfl h fun v132 x131 qv132 wv132 hx131 h => ?_
              try simp only [W, EE]
              have hS := hS.e0_ 3
              refine w_appV (l := ([] : List Slip)) (c := e_Slip) 0 hS rfl isSl_e0 rfl rfl rfl (hS.elemsW 3 rfl wv132 hx131) (fun _ => rfl) rfl h fun v135 H x134 qv135 hm h hS => ?_
              try simp only [W]
              refine seq_n hK130 ?_
              refine w_seq fun K137 hK137 => ?_
              refine w_reg gC ?_
              try simp only [W, EE, Nat.reduceAdd, Nat.reduceBEq, hS.var 4 rfl, hS.var 5 rfl]
              refine w_slO 3 hS rfl qm2 rfl rfl rfl h fun v139 x138 qv139 hx138 h hS => ?_
              try simp only [W, EE]
              refine w_appV (l := x134) (c := e_Slip) 0 hS rfl qv135 rfl rfl rfl (hS.elems 3 rfl qv139) (fun _ => rfl) rfl h fun v142 H x141 qv142 hm h hS => ?_
              try simp only [W, EE, Nat.reduceAdd, Nat.reduceBEq, hS.var 4 rfl]
              refine w_stv (a := v142) (y' := .agg [.int .i64 a0.Now, m1, v142]) 4 hS rfl rfl rfl rfl (by rw [qv142.cells]; rfl) qv142.stora (qv142.wr _ _ (by simp)) rfl fun H hS => ?_
              try simp only [W]
              refine seq_n hK137 ?_
              refine w_seq fun K144 hK144 => ?_
              refine w_seq fun K145 hK145 => ?_
              refine w_reg gC ?_
              try simp only [W, EE, Nat.reduceAdd, Nat.reduceBEq, hS.var 5 rfl]
              refine seq_n hK145 ?_
              refine w_if ?_
              simp only [W]
              refine w_cnd h (fun hc h => ?_) (fun hc h => ?_)
              · refine w_seq fun K146 hK146 => ?_
                refine w_reg gC ?_
                try simp only [W, EE, reduceIte, Nat.reduceAdd, Nat.reduceLeDiff, hS.var 1 rfl, hS.var 4 rfl]
                refine w_call h fun b147 hb147 h => ?_
                refine spec_l16Take_w hb147 (hS.sel 7 [2, 0, 1, 3, 4, 5, 6] (by decide)) qm1 qv142 fun v148 qv148 v150 qv150 H hS => ?_
                try simp only [W]
                refine w_stv (a := .agg [.int .i64 b147.Now, v148, v150]) (y' := .agg [.int .i64 b147.Now, v148, v150]) 6 hS rfl rfl rfl rfl rfl (by simp only [storA, List.all_cons, List.all_nil, qv148.stor, qv150.stor]; rfl) rfl rfl fun H hS => ?_
                try simp only [W]
                refine seq_n hK146 ?_
                refine w_ret ?_
                refine seq_r hK144 ?_
                refine fin_r hK0 (res_c rfl rfl (hS.var 6 rfl) rfl (res_tc rfl rfl)) ?_
                try obtain rfl := Option.some.inj h
                exact hP _ qv148 _ qv150 _ (hS.sel 7 [0, 1] (by decide))
              · refine w_skip ?_
                refine seq_n hK144 ?_
                refine w_seq fun K152 hK152 => ?_
                refine w_reg gC ?_
                try simp only [W, EE, reduceIte, Nat.reduceAdd, Nat.reduceLeDiff, hS.var 4 rfl]
                refine w_stv (a := .agg [.int .i64 a0.Now, m1, v142]) (y' := .agg [.int .i64 a0.Now, m1, v142]) 6 hS rfl rfl rfl rfl rfl (by simp only [storA, List.all_cons, List.all_nil, qm1.stor, qv142.stor]; rfl) rfl rfl fun H hS => ?_
                try simp only [W]
                refine seq_n hK152 ?_
                refine w_ret ?_
                refine fin_r hK0 (res_c rfl rfl (hS.var 6 rfl) rfl (res_tc rfl rfl)) ?_
                try obtain rfl := Option.some.inj h
                exact hP _ qm1 _ qv142 _ (hS.sel 7 [2, 0] (by decide))
theorem spec_PlayCourt_w {a0 : List Int} {a1 : List CourtStep} {r : (Court × List Bool × Bool)} (h : spec_PlayCourt a0 a1 = some r) {F : List It} {H : Heap} (hS : Own H (F)) {P : AV → Heap → Prop} (hP : ∀ v104 : AV, isSl v104 → ∀ v106 : AV, isSl v106 → ∀ v108 : AV, isSl v108 → ∀ H', Own H' (⟨v104, 4, r.1.Cases.map e_Case⟩ :: ⟨v106, 3, r.1.Line.map e_Slip⟩ :: ⟨v108, 1, r.2.1.map AV.bool⟩ :: F) → P (.tup [.agg [.int .i64 r.1.Now, v104, v106], v108, .bool r.2.2]) H') : ACall C 48 [.fz (a0.map (AV.int .i64)), .fz (a1.map e_CourtStep)] H P := by
  refine acall_of gC (res := [.cell 4 68, .tmp 5, .tmp 6]) (n := 50) rfl rfl rfl rfl fun K0 hK0 => ?_
  simp only [W, Nat.reduceSub, Nat.reduceAdd, List.replicate]
  unfold spec_PlayCourt at h
  refine w_seq fun K1 hK1 => ?_
  refine w_reg gC ?_
  try simp only [W, Nat.reduceAdd]
  refine w_alloc hS rfl rfl fun ip2 wp2 H hS => ?_
  try simp only [W]
  refine seq_n hK1 ?_
  refine w_seq fun K4 hK4 => ?_
  refine w_reg gC ?_
  try simp only [W, Nat.reduceAdd]
  refine w_call h fun b5 hb5 h => ?_
  obtain ⟨b6, b7⟩ := b5
  try dsimp only at h
  refine spec_NewCourt_w hb5 hS fun v8 qv8 v10 qv10 H hS => ?_
  try simp only [W]
  refine w_alloc hS rfl rfl fun ip12 wp12 H hS => ?_
  try simp only [W]
  refine w_stv (a := .agg [.int .i64 b6.Now, v8, v10]) (y' := .agg [.int .i64 b6.Now, v8, v10]) 0 hS rfl rfl rfl rfl rfl (by simp only [storA, List.all_cons, List.all_nil, qv8.stor, qv10.stor]; rfl) rfl rfl fun H hS => ?_
  try simp only [W]
  refine seq_n hK4 ?_
  refine w_seq fun K14 hK14 => ?_
  refine w_seq fun K15 hK15 => ?_
  obtain ⟨y17, h, g18⟩ := Option.bind_eq_some_iff.1 h
  refine w_join gC (fun s H => ∃ x16 : Bool, y17 = (x16) ∧ s = [u, .fz (a1.map e_CourtStep), u, u, .ptr ip2 wp2 0 0, u, u, .ptr ip12 wp12 0 0, u, u, u, u, u, u, u, u, u, u, u, u, u, u, u, u, u, .bool x16, u, u, u, u, u, u, u, u, u, u, u, u, u, u, u, u, u, u, u, u, u, u, u, u] ∧ Own H (⟨v8, 4, b6.Cases.map e_Case⟩ :: ⟨v10, 3, b6.Line.map e_Slip⟩ :: ⟨.ptr ip2 wp2 0 0, 3, [.agg [.int .i64 0, .nil, .nil]]⟩ :: ⟨.ptr ip12 wp12 0 0, 3, [.agg [.int .i64 b6.Now, v8, v10]]⟩ :: F)) (fun K19 hK19 => ?_) (fun s H hq => ?_)
  · refine w_seq fun K20 hK20 => ?_
    refine w_reg gC ?_
    try simp only [W, Nat.reduceAdd]
    refine w_grdT h (fun hc h => ?_) (fun hc h => ?_)
    · try simp only [W, hc]
      refine seq_n hK20 ?_
      refine w_kill ?_
      exact cut_n hK19 ⟨_, (Option.some.inj h).symm, rfl, (hS.sel 4 [1, 2, 3, 0] (by decide))⟩
    · try simp only [W, EE, reduceIte, Bool.false_eq_true, hc]
      refine seq_n hK20 ?_
      refine w_kill ?_
      exact cut_n hK19 ⟨_, (Option.some.inj h).symm, rfl, (hS.sel 4 [1, 2, 3, 0] (by decide))⟩
  · obtain ⟨x16, ey, rfl, hS⟩ := hq; obtain rfl := ey.symm
    replace h := g18
    try dsimp only at h
    refine seq_n hK15 ?_
    refine w_if ?_
    simp only [W]
    refine w_cnd h (fun hc h => ?_) (fun hc h => ?_)
    · refine w_seq fun K21 hK21 => ?_
      refine w_reg gC ?_
      try simp only [W, EE, Nat.reduceAdd]
      refine w_bld rfl rfl rfl rfl rfl ?_
      try simp only [W]
      refine w_stv (a := .agg [.int .i64 0, .nil, .nil]) (y' := .agg [.int .i64 0, .nil, .nil]) 2 hS rfl rfl rfl rfl rfl rfl rfl rfl fun H hS => ?_
      try simp only [W]
      refine seq_n hK21 ?_
      refine w_ret ?_
      refine seq_r hK14 ?_
      refine fin_r hK0 (res_c rfl rfl (hS.var 2 rfl) rfl (res_tc rfl (res_tc rfl rfl))) ?_
      try obtain rfl := Option.some.inj h
      exact hP _ isSl_nil _ isSl_nil _ isSl_nil _ ((((hS.nil_ 1).nil_ 3).nil_ 4).sel 7 [0, 1, 2] (by decide))
    · refine w_skip ?_
      refine seq_n hK14 ?_
      refine w_seq fun K22 hK22 => ?_
      refine w_reg gC ?_
      try simp only [W, Nat.reduceAdd]
      refine seq_n hK22 ?_
      refine w_seq fun K23 hK23 => ?_
      refine w_seq fun K24 hK24 => ?_
      refine w_reg gC ?_
      try simp only [W, EE, Nat.reduceAdd]
      refine seq_n hK24 ?_
      obtain ⟨y43, hw44, g50⟩ := Option.bind_eq_some_iff.1 h
      refine w_join gC (fun s H => ∃ x36 : List Bool, ∃ x38 : Int, ∃ x39 : List Case, ∃ x41 : List Slip, y43 = (x36, x38, x39, x41) ∧ ∃ v37 : AV, isSl v37 ∧ ∃ v40 : AV, isSl v40 ∧ ∃ v42 : AV, isSl v42 ∧ s = [u, u, u, u, .ptr ip2 wp2 0 0, u, u, .ptr ip12 wp12 0 0, u, v37, u, u, u, u, u, u, u, u, u, u, u, u, u, u, u, u, u, u, u, u, u, u, u, u, u, u, u, u, u, u, u, u, u, u, u, u, u, u, u, u] ∧ Own H (⟨v37, 1, x36.map AV.bool⟩ :: ⟨v40, 4, x39.map e_Case⟩ :: ⟨v42, 3, x41.map e_Slip⟩ :: ⟨.ptr ip2 wp2 0 0, 3, [.agg [.int .i64 0, .nil, .nil]]⟩ :: ⟨.ptr ip12 wp12 0 0, 3, [.agg [.int .i64 x38, v40, v42]]⟩ :: F)) (fun K45 hK45 => ?_) (fun s H hq => ?_)
      · refine w_blk fun K46 hK46 => ?_
        refine w_loop gC hw44 (fun x s H => match x with | (x25, x28, x29, x30, x33) => ∃ v26 : AV, isSl v26 ∧ ∃ v31 : AV, isSl v31 ∧ ∃ v34 : AV, isSl v34 ∧ s = [u, u, u, u, .ptr ip2 wp2 0 0, u, u, .ptr ip12 wp12 0 0, u, v26, u, u, u, u, u, u, u, u, u, u, u, u, u, u, u, u, u, .fz (a1.map e_CourtStep), .int .i64 (a1.length : Int), .int .i64 x28, u, u, u, u, u, u, u, u, u, u, u, u, u, u, u, u, u, u, u, u] ∧ Own H (⟨v26, 1, x25.map AV.bool⟩ :: ⟨v31, 4, x30.map e_Case⟩ :: ⟨v34, 3, x33.map e_Slip⟩ :: ⟨.ptr ip2 wp2 0 0, 3, [.agg [.int .i64 0, .nil, .nil]]⟩ :: ⟨.ptr ip12 wp12 0 0, 3, [.agg [.int .i64 x29, v31, v34]]⟩ :: F)) ⟨_, isSl_nil, _, qv8, _, qv10, rfl, (hS.nil_ 1)⟩ (fun x y49 s H h hd48 hi K47 hK47 => ?_)
        obtain ⟨x25, x28, x29, x30, x33⟩ := x
        try dsimp only at hi
        obtain ⟨v26, qv26, v31, qv31, v34, qv34, rfl, hS⟩ := hi
        simp only [spec_PlayCourt_l0] at h
        refine w_seq fun K51 hK51 => ?_
        refine w_reg gC ?_
        try simp only [W, EE, Nat.reduceAdd]
        refine seq_n hK51 ?_
        refine w_seq fun K52 hK52 => ?_
        refine w_if ?_
        simp only [W]
        refine w_cnd h (fun hc h => ?_) (fun hc h => ?_)
        · refine w_skip ?_
          refine seq_n hK52 ?_
          refine w_seq fun K53 hK53 => ?_
          refine w_blk fun K54 hK54 => ?_
          refine w_seq fun K55 hK55 => ?_
          refine w_reg gC ?_
          try simp only [W, EE, Nat.reduceAdd]
          refine w_fz rfl rfl rfl (fun _ => rfl) h fun b56 hb56 h => ?_
          try simp only [W, EE, EN, reduceIte, Nat.reduceAdd, Nat.reduceLeDiff]
          refine w_alloc hS rfl rfl fun ip57 wp57 H hS => ?_
          try simp only [W]
          refine w_stv (a := .agg [.int .i64 b56.Kind, .int .i64 b56.K]) (y' := .agg [.int .i64 b56.Kind, .int .i64 b56.K]) 0 hS rfl rfl rfl rfl rfl rfl rfl rfl fun H hS => ?_
          try simp only [W]
          refine seq_n hK55 ?_
          refine w_seq fun K59 hK59 => ?_
          refine w_drawL gC [(3, []), (8, [6])] (by kernel_rfl) rfl (by kernel_rfl) ?_
          try simp only [W, EE, reduceIte, Nat.reduceAdd, Nat.reduceLeDiff, Nat.reduceBEq, hS.var 5 rfl, tabAt, qAt, Nat.reduceEqDiff, List.contains_cons, Nat.reduceBEq, Bool.or_self]
          refine w_callO (rsh := [[.sc, .sl [.sc, .sc, .sc, .sc], .sl [.sc, .sc, .sc]]]) (ys := [.agg [.int .i64 x29, .fz (x30.map e_Case), .fz (x33.map e_Slip)]]) h rfl (pv_c (sn_agg (sm_c rfl (sm_c (sn_ow hS 2 rfl qv31 (fun _ => rfl)) (sm_c (sn_ow hS 3 rfl qv34 (fun _ => rfl)) (sm_n _))))) pv_n) fun b60 hb60 h => ⟨.agg [.int .i64 b60.Now, .own 4 (b60.Cases.map e_Case), .own 3 (b60.Line.map e_Slip)], spec_l16Own_w hb60 (Own.nil _) fun v61 qv61 v62 qv62 H hS => TV_ok rfl (TV_a (TC_sc rfl (TC_ow 0 hS rfl qv61 (fun _ _ => by simp [takeE, takeT, takeC, plainA, e_Case]) fun H hS => TC_ow 0 hS rfl qv62 (fun _ _ => by simp [takeE, takeT, takeC, plainA, e_Slip]) fun H hS => TC_nil (TV_n rfl)))), (nf_a (nf_c rfl (nf_c (noFz_o _ (fun _ => rfl) _) (nf_c (noFz_o _ (fun _ => rfl) _) nf_n)))), ?_⟩
          refine thaw_1 ?_
          refine TH_a ?_
          refine TH_p (fun _ => rfl) ?_
          refine TH_o hS (fun _ _ => rfl) (fun _ => rfl) fun v64 H qv64 hS => ?_
          refine TH_o hS (fun _ _ => rfl) (fun _ => rfl) fun v66 H qv66 hS => ?_
          refine TH_n ?_
          refine TH_n ?_
          try simp only [List.headD_cons]
          try simp only [W, EE, reduceIte, Nat.reduceAdd, Nat.reduceLeDiff, hS.var 2 rfl]
          refine w_call h fun b67 hb67 h => ?_
          obtain ⟨b68, b69⟩ := b67
          try dsimp only at h
          refine spec_l16Step_w hb67 (hS.sel 8 [1, 0, 2, 3, 4, 5, 6, 7] (by decide)) qv64 qv66 fun v70 qv70 v72 qv72 H hS => ?_
          try simp only [W]
          refine w_alloc hS rfl rfl fun ip74 wp74 H hS => ?_
          try simp only [W]
          refine w_stv (a := .agg [.int .i64 b68.Now, v70, v72]) (y' := .agg [.int .i64 b68.Now, v70, v72]) 0 hS rfl rfl rfl rfl rfl (by simp only [storA, List.all_cons, List.all_nil, qv70.stor, qv72.stor]; rfl) rfl rfl fun H hS => ?_
          refine goK_late ?_
          refine lateG_s (by first | rfl | (simp [evalOp, W, EE, EN, rdAt, mkT, subL, AV.cells, hS.var 0 rfl, hS.var 3 rfl, hS.var 7 rfl, hS.var 8 rfl]; done)) ?_
          refine lateG_n ?_
          try simp only [W]
          refine seq_n hK59 ?_
          refine w_seq fun K76 hK76 => ?_
          refine w_seq fun K77 hK77 => ?_
          refine w_reg gC ?_
          try simp only [W, Nat.reduceAdd]
          refine seq_n hK77 ?_
          obtain ⟨y85, h, g86⟩ := Option.bind_eq_some_iff.1 h
          refine w_join gC (fun s H => ∃ x78 : Int, ∃ x79 : List Case, ∃ x82 : List Slip, y85 = (x78, x79, x82) ∧ ∃ v80 : AV, isSl v80 ∧ ∃ v83 : AV, isSl v83 ∧ s = [u, u, u, u, .ptr ip2 wp2 0 0, u, u, .ptr ip12 wp12 0 0, u, v26, u, u, u, .bool b69, u, u, u, u, u, u, u, u, u, u, u, u, u, .fz (a1.map e_CourtStep), .int .i64 (a1.length : Int), .int .i64 x28, u, u, u, u, u, u, u, u, u, u, u, u, u, u, u, u, u, u, u, u] ∧ Own H (⟨v26, 1, x25.map AV.bool⟩ :: ⟨v80, 4, x79.map e_Case⟩ :: ⟨v83, 3, x82.map e_Slip⟩ :: ⟨.ptr ip2 wp2 0 0, 3, [.agg [.int .i64 0, .nil, .nil]]⟩ :: ⟨.ptr ip12 wp12 0 0, 3, [.agg [.int .i64 x78, v80, v83]]⟩ :: F)) (fun K87 hK87 => ?_) (fun s H hq => ?_)
          · refine w_seq fun K88 hK88 => ?_
            refine w_if ?_
            simp only [W]
            refine w_cnd h (fun hc h => ?_) (fun hc h => ?_)
            · refine w_reg gC ?_
              try simp only [W, EE, reduceIte, Nat.reduceAdd, Nat.reduceLeDiff, hS.var 0 rfl]
              refine w_stv (a := .agg [.int .i64 b68.Now, v70, v72]) (y' := .agg [.int .i64 b68.Now, v70, v72]) 8 hS rfl rfl rfl rfl rfl (by simp only [storA, List.all_cons, List.all_nil, qv70.stor, qv72.stor]; rfl) rfl rfl fun H hS => ?_
              try simp only [W]
              refine seq_n hK88 ?_
              refine w_kill ?_
              exact cut_n hK87 ⟨_, _, _, (Option.some.inj h).symm, _, qv70, _, qv72, rfl, (hS.sel 9 [4, 1, 2, 7, 8] (by decide))⟩
            · refine w_skip ?_
              refine seq_n hK88 ?_
              refine w_kill ?_
              exact cut_n hK87 ⟨_, _, _, (Option.some.inj h).symm, _, qv31, _, qv34, rfl, (hS.sel 9 [4, 5, 6, 7, 8] (by decide))⟩
          · obtain ⟨x78, x79, x82, rfl, v80, qv80, v83, qv83, rfl, hS⟩ := hq
            replace h := g86
            try dsimp only at h
            refine seq_n hK76 ?_
            refine w_reg gC ?_
            try simp only [W, Nat.reduceAdd]
            refine w_lit (el := ([b69] : List Bool).map AV.bool) hS rfl rfl rfl rfl rfl rfl rfl fun v89 H qv89 hS => ?_
            try simp only [W, EE]
            refine w_appV (l := x25) (c := AV.bool) 1 hS rfl qv26 rfl rfl rfl (hS.elems 0 rfl qv89) (fun _ => rfl) rfl h fun v92 H x91 qv92 hm h hS => ?_
            try simp only [W]
            refine blk_n0 hK54 ?_
            refine seq_n hK53 ?_
            refine w_reg gC ?_
            try simp only [W, EE, Nat.reduceAdd]
            exact lp_n hK47 h ⟨_, qv92, _, qv80, _, qv83, rfl, (hS.sel 6 [1, 2, 3, 4, 5] (by decide))⟩
        · refine w_exit ?_
          refine seq_x hK52 ?_
          try obtain rfl := Option.some.inj h
          obtain rfl := hd48 _ rfl
          have h : (some (x25, x29, x30, x33) : Option ((List Bool) × Int × (List Case) × (List Slip))) = some (x25, x29, x30, x33) := rfl
          refine lp_x hK47 ?_
          refine blk_e hK46 ?_
          exact cut_n hK45 ⟨_, _, _, _, (Option.some.inj h).symm, _, qv26, _, qv31, _, qv34, rfl, hS⟩
      · obtain ⟨x36, x38, x39, x41, rfl, v37, qv37, v40, qv40, v42, qv42, rfl, hS⟩ := hq
        replace h := g50
        try dsimp only at h
        refine seq_n hK23 ?_
        refine w_seq fun K96 hK96 => ?_
        refine w_reg gC ?_
        try simp only [W, EE, reduceIte, Nat.reduceAdd, Nat.reduceLeDiff, Nat.reduceBEq, hS.var 4 rfl, List.contains_cons, Nat.reduceBEq, Bool.or_self]
        refine w_callO (rsh := [[.sc, .sl [.sc, .sc, .sc, .sc], .sl [.sc, .sc, .sc]]]) (ys := [.agg [.int .i64 x38, .fz (x39.map e_Case), .fz (x41.map e_Slip)]]) h rfl (pv_c (sn_agg (sm_c rfl (sm_c (sn_ow hS 1 rfl qv40 (fun _ => rfl)) (sm_c (sn_ow hS 2 rfl qv42 (fun _ => rfl)) (sm_n _))))) pv_n) fun b97 hb97 h => ⟨.agg [.int .i64 b97.Now, .own 4 (b97.Cases.map e_Case), .own 3 (b97.Line.map e_Slip)], spec_l16Own_w hb97 (Own.nil _) fun v98 qv98 v99 qv99 H hS => TV_ok rfl (TV_a (TC_sc rfl (TC_ow 0 hS rfl qv98 (fun _ _ => by simp [takeE, takeT, takeC, plainA, e_Case]) fun H hS => TC_ow 0 hS rfl qv99 (fun _ _ => by simp [takeE, takeT, takeC, plainA, e_Slip]) fun H hS => TC_nil (TV_n rfl)))), (nf_a (nf_c rfl (nf_c (noFz_o _ (fun _ => rfl) _) (nf_c (noFz_o _ (fun _ => rfl) _) nf_n)))), ?_⟩
        refine thaw_1 ?_
        refine TH_a ?_
        refine TH_p (fun _ => rfl) ?_
        refine TH_o hS (fun _ _ => rfl) (fun _ => rfl) fun v101 H qv101 hS => ?_
        refine TH_o hS (fun _ _ => rfl) (fun _ => rfl) fun v103 H qv103 hS => ?_
        refine TH_n ?_
        refine TH_n ?_
        try simp only [List.headD_cons]
        try simp only [W]
        refine w_stv (a := .agg [.int .i64 b97.Now, v101, v103]) (y' := .agg [.int .i64 b97.Now, v101, v103]) 5 hS rfl rfl rfl rfl rfl (by simp only [storA, List.all_cons, List.all_nil, qv101.stor, qv103.stor]; rfl) rfl rfl fun H hS => ?_
        try simp only [W]
        refine seq_n hK96 ?_
        refine w_ret ?_
        refine fin_r hK0 (res_c rfl rfl (hS.var 5 rfl) rfl (res_tc rfl (res_tc rfl rfl))) ?_
        try obtain rfl := Option.some.inj h
        exact hP _ qv101 _ qv103 _ qv37 _ (hS.sel 7 [1, 0, 2] (by decide))
theorem spec_l1Cur_court_w {a0 : L1Cur} {i0 : Nat} {w0 : Nat} {r : (Court × L1Cur)} (h : spec_l1Cur_court a0 = some r) {F : List It} {H : Heap} (hS : Own H (⟨.ptr i0 w0 0 0, 3, [.agg [.fz (a0.Code.map (AV.int .u8)), .int .i64 a0.At, .int .u64 a0.Seed]]⟩ :: F)) {P : AV → Heap → Prop} (hP : ∀ v140 : AV, isSl v140 → ∀ v142 : AV, isSl v142 → ∀ H', Own H' (⟨v140, 4, r.1.Cases.map e_Case⟩ :: ⟨v142, 3, r.1.Line.map e_Slip⟩ :: ⟨.ptr i0 w0 0 0, 3, [.agg [.fz (r.2.Code.map (AV.int .u8)), .int .i64 r.2.At, .int .u64 r.2.Seed]]⟩ :: F) → P (.agg [.int .i64 r.1.Now, v140, v142]) H') : ACall C 191 [.ptr i0 w0 0 0] H P := by
  refine acall_of gC (res := [.cell 2 68]) (n := 57) rfl rfl rfl rfl fun K0 hK0 => ?_
  simp only [W, Nat.reduceSub, Nat.reduceAdd, List.replicate]
  unfold spec_l1Cur_court at h
  refine w_seq fun K1 hK1 => ?_
  refine w_reg gC ?_
  try simp only [W, Nat.reduceAdd]
  refine w_alloc hS rfl rfl fun ip2 wp2 H hS => ?_
  try simp only [W]
  refine seq_n hK1 ?_
  refine w_seq fun K4 hK4 => ?_
  refine w_reg gC ?_
  try simp only [W, Nat.reduceAdd, Nat.reduceBEq, List.contains_cons, Nat.reduceBEq, Bool.or_self]
  refine w_call h fun b5 hb5 h => ?_
  obtain ⟨b6, b7⟩ := b5
  try dsimp only at h
  refine spec_l1Cur_ends_w hb5 (hS.sel 2 [1, 0] (by decide)) fun v8 qv8 H hS => ?_
  try simp only [W]
  refine w_call h fun b10 hb10 h => ?_
  obtain ⟨b11, b12⟩ := b10
  try dsimp only at h
  refine spec_l1Cur_courtSteps_w hb10 (hS.sel 3 [1, 0, 2] (by decide)) fun v13 qv13 H hS => ?_
  try simp only [W]
  refine w_callO (rsh := [[.sc, .sl [.sc, .sc, .sc, .sc], .sl [.sc, .sc, .sc]], [.sl [.sc]], [.sc]]) (ys := [.fz (b6.map (AV.int .i64)), .fz (b11.map e_CourtStep)]) h rfl (pv_c (sn_ow hS 2 rfl qv8 (fun _ => rfl)) (pv_c (sn_ow hS 0 rfl qv13 (fun _ => rfl)) pv_n)) fun b15 hb15 h => ⟨.tup [.agg [.int .i64 b15.1.Now, .own 4 (b15.1.Cases.map e_Case), .own 3 (b15.1.Line.map e_Slip)], .own 1 (b15.2.1.map AV.bool), .bool b15.2.2], spec_PlayCourt_w hb15 (Own.nil _) fun v19 qv19 v20 qv20 v21 qv21 H hS => TV_ok rfl (TV_a (TC_sc rfl (TC_ow 0 hS rfl qv19 (fun _ _ => by simp [takeE, takeT, takeC, plainA, e_Case]) fun H hS => TC_ow 0 hS rfl qv20 (fun _ _ => by simp [takeE, takeT, takeC, plainA, e_Slip]) fun H hS => TC_nil (TV_o 0 hS rfl qv21 (fun _ _ => by simp [takeE, takeT, plainA]) fun H hS => TV_p rfl (TV_n rfl))))), (nf_t (nf_c (nf_a (nf_c rfl (nf_c (noFz_o _ (fun _ => rfl) _) (nf_c (noFz_o _ (fun _ => rfl) _) nf_n)))) (nf_c (noFz_o _ (fun _ => rfl) _) (nf_c rfl nf_n)))), ?_⟩
  refine thaw_tup ?_
  refine TH_a ?_
  refine TH_p (fun _ => rfl) ?_
  refine TH_o hS (fun _ _ => rfl) (fun _ => rfl) fun v23 H qv23 hS => ?_
  refine TH_o hS (fun _ _ => rfl) (fun _ => rfl) fun v25 H qv25 hS => ?_
  refine TH_n ?_
  refine TH_o hS (fun _ _ => rfl) (fun _ => rfl) fun v27 H qv27 hS => ?_
  refine TH_p (fun _ => rfl) ?_
  refine TH_n ?_
  try simp only [List.headD_cons]
  obtain ⟨b16, b17, b18⟩ := b15
  try dsimp only at h
  try simp only [W]
  refine w_alloc hS rfl rfl fun ip28 wp28 H hS => ?_
  try simp only [W]
  refine w_stv (a := .agg [.int .i64 b16.Now, v23, v25]) (y' := .agg [.int .i64 b16.Now, v23, v25]) 0 hS rfl rfl rfl rfl rfl (by simp only [storA, List.all_cons, List.all_nil, qv23.stor, qv25.stor]; rfl) rfl rfl fun H hS => ?_
  try simp only [W]
  refine seq_n hK4 ?_
  refine w_seq fun K30 hK30 => ?_
  refine w_seq fun K31 hK31 => ?_
  refine w_reg gC ?_
  try simp only [W, Nat.reduceAdd]
  refine seq_n hK31 ?_
  obtain ⟨y39, h, g40⟩ := Option.bind_eq_some_iff.1 h
  refine w_join gC (fun s H => ∃ x32 : Int, ∃ x33 : List Case, ∃ x36 : List Slip, y39 = (x32, x33, x36) ∧ ∃ v34 : AV, isSl v34 ∧ ∃ v37 : AV, isSl v37 ∧ s = [.ptr i0 w0 0 0, u, .ptr ip2 wp2 0 0, .ptr ip28 wp28 0 0, u, u, u, u, u, u, u, u, u, u, u, u, u, u, u, u, u, u, u, u, u, u, u, u, u, u, u, u, u, u, u, u, u, u, u, u, u, u, u, u, u, u, u, u, u, u, u, u, u, u, u, u, u] ∧ Own H (⟨v34, 4, x33.map e_Case⟩ :: ⟨v37, 3, x36.map e_Slip⟩ :: ⟨.ptr i0 w0 0 0, 3, [.agg [.fz (b12.Code.map (AV.int .u8)), .int .i64 b12.At, .int .u64 b12.Seed]]⟩ :: ⟨.ptr ip2 wp2 0 0, 3, [.agg [.int .i64 0, .nil, .nil]]⟩ :: ⟨.ptr ip28 wp28 0 0, 3, [.agg [.int .i64 x32, v34, v37]]⟩ :: F)) (fun K41 hK41 => ?_) (fun s H hq => ?_)
  · refine w_seq fun K42 hK42 => ?_
    refine w_if ?_
    simp only [W]
    refine w_cnd h (fun hc h => ?_) (fun hc h => ?_)
    · refine w_reg gC ?_
      try simp only [W, Nat.reduceAdd, Nat.reduceBEq, List.contains_cons, Nat.reduceBEq, Bool.or_self]
      refine w_lit (el := ([3] : List Int).map (AV.int .i64)) hS rfl rfl rfl rfl rfl rfl rfl fun v43 H qv43 hS => ?_
      try simp only [W]
      refine w_callO (rsh := [[.sc, .sl [.sc, .sc, .sc, .sc], .sl [.sc, .sc, .sc]], [.sc]]) (ys := [.fz (([3] : List Int).map (AV.int .i64))]) h rfl (pv_c (sn_ow hS 0 rfl qv43 (fun _ => rfl)) pv_n) fun b45 hb45 h => ⟨.tup [.agg [.int .i64 b45.1.Now, .own 4 (b45.1.Cases.map e_Case), .own 3 (b45.1.Line.map e_Slip)], .bool b45.2], spec_NewCourt_w hb45 (Own.nil _) fun v48 qv48 v49 qv49 H hS => TV_ok rfl (TV_a (TC_sc rfl (TC_ow 0 hS rfl qv48 (fun _ _ => by simp [takeE, takeT, takeC, plainA, e_Case]) fun H hS => TC_ow 0 hS rfl qv49 (fun _ _ => by simp [takeE, takeT, takeC, plainA, e_Slip]) fun H hS => TC_nil (TV_p rfl (TV_n rfl))))), (nf_t (nf_c (nf_a (nf_c rfl (nf_c (noFz_o _ (fun _ => rfl) _) (nf_c (noFz_o _ (fun _ => rfl) _) nf_n)))) (nf_c rfl nf_n))), ?_⟩
      refine thaw_tup ?_
      refine TH_a ?_
      refine TH_p (fun _ => rfl) ?_
      refine TH_o hS (fun _ _ => rfl) (fun _ => rfl) fun v51 H qv51 hS => ?_
      refine TH_o hS (fun _ _ => rfl) (fun _ => rfl) fun v53 H qv53 hS => ?_
      refine TH_n ?_
      refine TH_p (fun _ => rfl) ?_
      refine TH_n ?_
      try simp only [List.headD_cons]
      obtain ⟨b46, b47⟩ := b45
      try dsimp only at h
      try simp only [W]
      refine w_stv (a := .agg [.int .i64 b46.Now, v51, v53]) (y' := .agg [.int .i64 b46.Now, v51, v53]) 3 hS rfl rfl rfl rfl rfl (by simp only [storA, List.all_cons, List.all_nil, qv51.stor, qv53.stor]; rfl) rfl rfl fun H hS => ?_
      try simp only [W]
      refine seq_n hK42 ?_
      refine w_kill ?_
      exact cut_n hK41 ⟨_, _, _, (Option.some.inj h).symm, _, qv51, _, qv53, rfl, (hS.sel 11 [1, 0, 8, 10, 3] (by decide))⟩
    · refine w_skip ?_
      refine seq_n hK42 ?_
      refine w_kill ?_
      exact cut_n hK41 ⟨_, _, _, (Option.some.inj h).symm, _, qv23, _, qv25, rfl, (hS.sel 8 [3, 2, 5, 7, 0] (by decide))⟩
  · obtain ⟨x32, x33, x36, rfl, v34, qv34, v37, qv37, rfl, hS⟩ := hq
    replace h := g40
    try dsimp only at h
    refine seq_n hK30 ?_
    refine w_seq fun K54 hK54 => ?_
    refine w_seq fun K55 hK55 => ?_
    refine w_reg gC ?_
    try simp only [W, Nat.reduceAdd]
    refine w_call h fun b56 hb56 h => ?_
    obtain ⟨b57, b58⟩ := b56
    try dsimp only at h
    refine spec_l1Cur_pick_w hb56 (hS.sel 5 [2, 0, 1, 3, 4] (by decide)) fun H hS => ?_
    try simp only [W]
    refine seq_n hK55 ?_
    obtain ⟨y67, h, g68⟩ := Option.bind_eq_some_iff.1 h
    refine w_join gC (fun s H => ∃ x60 : List Int, ∃ x61 : Int, ∃ x62 : Int, ∃ x63 : Int, ∃ x64 : List Case, ∃ x65 : List Slip, y67 = (x60, x61, x62, x63, x64, x65) ∧ ∃ v66 : AV, isSl v66 ∧ s = [u, u, .ptr ip2 wp2 0 0, .ptr ip28 wp28 0 0, u, u, u, u, u, u, u, u, u, u, u, u, u, u, u, u, u, u, u, u, u, u, u, u, u, u, u, u, u, u, u, u, u, u, u, u, u, u, u, u, u, u, u, u, u, u, u, u, u, u, u, u, u] ∧ Own H (⟨v34, 4, x64.map e_Case⟩ :: ⟨v66, 3, x65.map e_Slip⟩ :: ⟨.ptr i0 w0 0 0, 3, [.agg [.fz (x60.map (AV.int .u8)), .int .i64 x61, .int .u64 x62]]⟩ :: ⟨.ptr ip2 wp2 0 0, 3, [.agg [.int .i64 0, .nil, .nil]]⟩ :: ⟨.ptr ip28 wp28 0 0, 3, [.agg [.int .i64 x63, v34, v66]]⟩ :: F)) (fun K69 hK69 => ?_) (fun s H hq => ?_)
    · refine w_blk fun K59 hK59 => ?_
      refine w_seq fun K70 hK70 => ?_
      refine w_reg gC ?_
      try simp only [W, EE, Nat.reduceAdd]
      refine seq_n hK70 ?_
      obtain ⟨y79, h, g80⟩ := Option.bind_eq_some_iff.1 h
      refine w_join gC (fun s H => ∃ x71 : List Int, ∃ x72 : Int, ∃ x73 : Int, ∃ x74 : Int, ∃ x75 : List Case, ∃ x76 : List Slip, y79 = (x71, x72, x73, x74, x75, x76) ∧ ∃ v77 : AV, isSl v77 ∧ s = [u, u, .ptr ip2 wp2 0 0, .ptr ip28 wp28 0 0, u, u, u, u, u, u, u, u, u, u, u, u, u, u, u, u, u, u, u, u, u, u, u, u, u, u, u, u, u, u, u, u, u, u, u, u, u, u, u, u, u, u, u, u, u, u, u, u, u, u, u, u, u] ∧ Own H (⟨v34, 4, x75.map e_Case⟩ :: ⟨v77, 3, x76.map e_Slip⟩ :: ⟨.ptr i0 w0 0 0, 3, [.agg [.fz (x71.map (AV.int .u8)), .int .i64 x72, .int .u64 x73]]⟩ :: ⟨.ptr ip2 wp2 0 0, 3, [.agg [.int .i64 0, .nil, .nil]]⟩ :: ⟨.ptr ip28 wp28 0 0, 3, [.agg [.int .i64 x74, v34, v77]]⟩ :: F)) (fun K81 hK81 => ?_) (fun s H hq => ?_)
      · refine w_seq fun K82 hK82 => ?_
        refine w_if ?_
        simp only [W]
        refine w_cnd h (fun hc h => ?_) (fun hc h => ?_)
        · refine w_regF (fz := [(2, [([27], [.sl [.sc]])])]) gC ?_
          try simp only [W, Nat.reduceAdd, Nat.reduceBEq]
          refine w_lit (el := ([-1, 200, 201] : List Int).map (AV.int .i64)) hS rfl rfl rfl rfl rfl rfl rfl fun v83 H qv83 hS => ?_
          try simp only [W, Nat.reduceAdd]
          refine FZ_own 0 hS rfl qv83 rfl (fun _ _ => by simp [takeE, takeT, plainA]) (fun _ => rfl) fun H hsame hS => ?_
          try simp only [W]
          refine w_call h fun b85 hb85 h => ?_
          obtain ⟨b86, b87⟩ := b85
          try dsimp only at h
          refine spec_l1Cur_among_w hb85 hS fun H hS => ?_
          try simp only [W, EE, Nat.reduceAdd, Nat.reduceBEq, hS.var 4 rfl]
          refine w_stv (a := .int .i64 b86) (y' := .agg [.int .i64 b86, v34, v37]) 4 hS rfl rfl rfl rfl rfl rfl rfl rfl fun H hS => ?_
          try simp only [W, Nat.reduceAdd]
          refine seq_n hK82 ?_
          refine w_kill ?_
          exact cut_n hK81 ⟨_, _, _, _, _, _, (Option.some.inj h).symm, _, qv37, rfl, (hS.sel 5 [1, 2, 0, 3, 4] (by decide))⟩
        · refine w_seq fun K88 hK88 => ?_
          refine w_reg gC ?_
          try simp only [W, EE, Nat.reduceAdd]
          refine seq_n hK88 ?_
          obtain ⟨y96, h, g97⟩ := Option.bind_eq_some_iff.1 h
          refine w_join gC (fun s H => ∃ x89 : List Int, ∃ x90 : Int, ∃ x91 : Int, ∃ x92 : List Case, ∃ x93 : List Slip, y96 = (x89, x90, x91, x92, x93) ∧ ∃ v94 : AV, isSl v94 ∧ s = [u, u, .ptr ip2 wp2 0 0, .ptr ip28 wp28 0 0, u, u, u, u, u, u, u, u, u, u, u, u, u, u, u, u, u, u, u, u, u, u, u, u, u, u, u, u, u, u, u, u, u, u, u, u, u, u, u, u, u, u, u, u, u, u, u, u, u, u, u, u, u] ∧ Own H (⟨v34, 4, x92.map e_Case⟩ :: ⟨v94, 3, x93.map e_Slip⟩ :: ⟨.ptr i0 w0 0 0, 3, [.agg [.fz (x89.map (AV.int .u8)), .int .i64 x90, .int .u64 x91]]⟩ :: ⟨.ptr ip2 wp2 0 0, 3, [.agg [.int .i64 0, .nil, .nil]]⟩ :: ⟨.ptr ip28 wp28 0 0, 3, [.agg [.int .i64 x32, v34, v94]]⟩ :: F)) (fun K98 hK98 => ?_) (fun s H hq => ?_)
          · refine w_seq fun K99 hK99 => ?_
            refine w_if ?_
            simp only [W]
            refine w_cnd h (fun hc h => ?_) (fun hc h => ?_)
            · refine w_seq fun K100 hK100 => ?_
              refine w_reg gC ?_
              try simp only [W, EE, Nat.reduceAdd, Nat.reduceBEq, hS.var 4 rfl]
              refine w_len 1 hS rfl qv34 rfl ?_
              try simp only [W, EE]
              refine seq_n hK100 ?_
              obtain ⟨y105, h, g106⟩ := Option.bind_eq_some_iff.1 h
              refine w_join gC (fun s H => ∃ x101 : List Int, ∃ x102 : Int, ∃ x103 : Int, ∃ x104 : List Case, y105 = (x101, x102, x103, x104) ∧ s = [u, u, .ptr ip2 wp2 0 0, .ptr ip28 wp28 0 0, u, u, u, u, u, u, u, u, u, u, u, u, u, u, u, u, u, u, u, u, u, u, u, u, u, u, u, u, u, u, u, u, u, u, u, u, u, u, u, u, u, u, u, u, u, u, u, u, u, u, u, u, u] ∧ Own H (⟨v34, 4, x104.map e_Case⟩ :: ⟨v37, 3, x36.map e_Slip⟩ :: ⟨.ptr i0 w0 0 0, 3, [.agg [.fz (x101.map (AV.int .u8)), .int .i64 x102, .int .u64 x103]]⟩ :: ⟨.ptr ip2 wp2 0 0, 3, [.agg [.int .i64 0, .nil, .nil]]⟩ :: ⟨.ptr ip28 wp28 0 0, 3, [.agg [.int .i64 x32, v34, v37]]⟩ :: F)) (fun K107 hK107 => ?_) (fun s H hq => ?_)
              · refine w_seq fun K108 hK108 => ?_
                refine w_if ?_
                simp only [W]
                refine w_cnd h (fun hc h => ?_) (fun hc h => ?_)
                · refine w_drawL gC [(3, [0, 1]), (6, [])] (by kernel_rfl) rfl (by kernel_rfl) ?_
                  try simp only [W, EE, reduceIte, Nat.reduceAdd, Nat.reduceBEq, hS.var 4 rfl, tabAt, qAt, Nat.reduceEqDiff]
                  refine w_call h fun b109 hb109 h => ?_
                  obtain ⟨b110, b111⟩ := b109
                  try dsimp only at h
                  refine spec_l1Cur_pick_w hb109 hS fun H hS => ?_
                  refine goK_late ?_
                  refine lateG_s (by first | rfl | (simp [evalOp, W, EE, hS.var 4 rfl]; done)) ?_
                  refine lateG_s (by first | rfl | (simp [evalOp, W, EE, rdAt, mkT, subL, AV.cells, hS.var 4 rfl]; done)) ?_
                  refine lateG_n ?_
                  try simp only [W, EE]
                  refine w_ow 1 hS rfl rfl rfl rfl rfl h (fun b112 in113 wn113 on113 hb112 h en113 => ?_) qv34.ne
                  obtain ⟨kn113, hbn113, hen113⟩ := hS.elem 1 rfl en113 hb112
                  try simp only [W, EE, Nat.reduceAdd, Nat.reduceBEq, hbn113]
                  refine w_ste (a := .int .i64 b110) (y' := (⟨b112.End, b112.Asks, b110, b112.Said⟩ : Case)) 1 hS rfl en113 hb112 rfl rfl rfl rfl rfl rfl rfl fun H hS => ?_
                  try simp only [W]
                  refine seq_n hK108 ?_
                  refine w_kill ?_
                  exact cut_n hK107 ⟨_, _, _, _, (Option.some.inj h).symm, rfl, (hS.sel 5 [1, 2, 0, 3, 4] (by decide))⟩
                · refine w_skip ?_
                  refine seq_n hK108 ?_
                  refine w_kill ?_
                  exact cut_n hK107 ⟨_, _, _, _, (Option.some.inj h).symm, rfl, (hS.sel 5 [1, 2, 0, 3, 4] (by decide))⟩
              · obtain ⟨x101, x102, x103, x104, rfl, rfl, hS⟩ := hq
                replace h := g106
                try dsimp only at h
                refine seq_n hK99 ?_
                refine w_kill ?_
                exact cut_n hK98 ⟨_, _, _, _, _, (Option.some.inj h).symm, _, qv37, rfl, hS⟩
            · refine w_seq fun K114 hK114 => ?_
              refine w_reg gC ?_
              try simp only [W, EE, Nat.reduceAdd]
              refine seq_n hK114 ?_
              obtain ⟨y121, h, g122⟩ := Option.bind_eq_some_iff.1 h
              refine w_join gC (fun s H => ∃ x115 : List Int, ∃ x116 : Int, ∃ x117 : Int, ∃ x118 : List Slip, y121 = (x115, x116, x117, x118) ∧ ∃ v119 : AV, isSl v119 ∧ s = [u, u, .ptr ip2 wp2 0 0, .ptr ip28 wp28 0 0, u, u, u, u, u, u, u, u, u, u, u, u, u, u, u, u, u, u, u, u, u, u, u, u, u, u, u, u, u, u, u, u, u, u, u, u, u, u, u, u, u, u, u, u, u, u, u, u, u, u, u, u, u] ∧ Own H (⟨v34, 4, x33.map e_Case⟩ :: ⟨v119, 3, x118.map e_Slip⟩ :: ⟨.ptr i0 w0 0 0, 3, [.agg [.fz (x115.map (AV.int .u8)), .int .i64 x116, .int .u64 x117]]⟩ :: ⟨.ptr ip2 wp2 0 0, 3, [.agg [.int .i64 0, .nil, .nil]]⟩ :: ⟨.ptr ip28 wp28 0 0, 3, [.agg [.int .i64 x32, v34, v119]]⟩ :: F)) (fun K123 hK123 => ?_) (fun s H hq => ?_)
              · refine w_seq fun K124 hK124 => ?_
                refine w_if ?_
                simp only [W]
                refine w_cnd h (fun hc h => ?_) (fun hc h => ?_)
                · refine w_drawL gC [(5, [0, 1, 3, 4]), (6, [0, 1, 4]), (7, [0, 1]), (10, []), (12, [])] (by kernel_rfl) rfl (by kernel_rfl) ?_
                  try simp only [W, EE, reduceIte, Nat.reduceAdd, Nat.reduceBEq, hS.var 4 rfl, tabAt, qAt, Nat.reduceEqDiff, permL_d, pO_d, pO_o, pO_g, ren_c, Nat.reduceEqDiff]
                  refine w_call h fun b125 hb125 h => ?_
                  obtain ⟨b126, b127⟩ := b125
                  try dsimp only at h
                  refine spec_l1Cur_pick_w hb125 hS fun H hS => ?_
                  refine goK_late ?_
                  refine lateG_s (by first | rfl | (simp [evalOp, W, EE, pO_o, hS.var 4 rfl]; done)) ?_
                  refine lateG_s (by first | rfl | (simp [evalOp, W, EE, rdAt, mkT, subL, AV.cells, pO_o, hS.var 4 rfl]; done)) ?_
                  refine lateG_s (by first | rfl | (simp [evalOp, W, EE, EN, rdAt, mkT, subL, AV.cells, pO_o, pO_d, pO_g, hS.var 0 rfl, hS.var 3 rfl, hS.var 4 rfl]; done)) ?_
                  refine lateG_s (by first | rfl | (simp [evalOp, W, EE, EN, rdAt, mkT, subL, AV.cells, pO_o, pO_d, pO_g, hS.var 0 rfl, hS.var 3 rfl, hS.var 4 rfl]; done)) ?_
                  refine lateG_n ?_
                  try simp only [W]
                  refine w_call h fun b128 hb128 h => ?_
                  obtain ⟨b129, b130⟩ := b128
                  try dsimp only at h
                  refine spec_l1Cur_pick_w hb128 hS fun H hS => ?_
                  refine goK_late ?_
                  refine lateG_s (by first | rfl | (simp [evalOp, W, EE, pO_o, hS.var 4 rfl]; done)) ?_
                  refine lateG_s (by first | rfl | (simp [evalOp, W, EE, rdAt, mkT, subL, AV.cells, pO_o, hS.var 4 rfl]; done)) ?_
                  refine lateG_s (by first | rfl | (simp [evalOp, W, EE, EN, rdAt, mkT, subL, AV.cells, pO_o, pO_d, pO_g, hS.var 0 rfl, hS.var 3 rfl, hS.var 4 rfl]; done)) ?_
                  refine lateG_n ?_
                  try simp only [W]
                  refine w_call h fun b131 hb131 h => ?_
                  obtain ⟨b132, b133⟩ := b131
                  try dsimp only at h
                  refine spec_l1Cur_pick_w hb131 hS fun H hS => ?_
                  refine goK_late ?_
                  refine lateG_s (by first | rfl | (simp [evalOp, W, EE, pO_o, hS.var 4 rfl]; done)) ?_
                  refine lateG_s (by first | rfl | (simp [evalOp, W, EE, rdAt, mkT, subL, AV.cells, pO_o, hS.var 4 rfl]; done)) ?_
                  refine lateG_n ?_
                  try simp only [W, EE]
                  refine w_bld rfl rfl rfl rfl rfl ?_
                  try simp only [W]
                  refine w_lit (el := ([(⟨b126, b129, b132⟩ : Slip)] : List Slip).map e_Slip) hS rfl rfl rfl rfl rfl rfl rfl fun v134 H qv134 hS => ?_
                  try simp only [W, EE]
                  refine w_appV (l := x36) (c := e_Slip) 3 hS rfl qv37 rfl rfl rfl (hS.elems 0 rfl qv134) (fun _ => rfl) rfl h fun v137 H x136 qv137 hm h hS => ?_
                  try simp only [W, EE, Nat.reduceAdd, Nat.reduceBEq, hS.var 5 rfl]
                  refine w_stv (a := v137) (y' := .agg [.int .i64 x32, v34, v137]) 5 hS rfl rfl rfl rfl (by rw [qv137.cells]; rfl) qv137.stora (qv137.wr _ _ (by simp)) rfl fun H hS => ?_
                  try simp only [W]
                  refine seq_n hK124 ?_
                  refine w_kill ?_
                  exact cut_n hK123 ⟨_, _, _, _, (Option.some.inj h).symm, _, qv137, rfl, (hS.sel 6 [2, 3, 1, 4, 5] (by decide))⟩
                · refine w_skip ?_
                  refine seq_n hK124 ?_
                  refine w_kill ?_
                  exact cut_n hK123 ⟨_, _, _, _, (Option.some.inj h).symm, _, qv37, rfl, (hS.sel 5 [1, 2, 0, 3, 4] (by decide))⟩
              · obtain ⟨x115, x116, x117, x118, rfl, v119, qv119, rfl, hS⟩ := hq
                replace h := g122
                try dsimp only at h
                refine seq_n hK99 ?_
                refine w_kill ?_
                exact cut_n hK98 ⟨_, _, _, _, _, (Option.some.inj h).symm, _, qv119, rfl, hS⟩
          · obtain ⟨x89, x90, x91, x92, x93, rfl, v94, qv94, rfl, hS⟩ := hq
            replace h := g97
            try dsimp only at h
            refine seq_n hK82 ?_
            refine w_kill ?_
            exact cut_n hK81 ⟨_, _, _, _, _, _, (Option.some.inj h).symm, _, qv94, rfl, hS⟩
      · obtain ⟨x71, x72, x73, x74, x75, x76, rfl, v77, qv77, rfl, hS⟩ := hq
        replace h := g80
        try dsimp only at h
        refine blk_n hK59 ?_
        exact cut_n hK69 ⟨_, _, _, _, _, _, (Option.some.inj h).symm, _, qv77, rfl, hS⟩
    · obtain ⟨x60, x61, x62, x63, x64, x65, rfl, v66, qv66, rfl, hS⟩ := hq
      replace h := g68
      try dsimp only at h
      refine seq_n hK54 ?_
      refine w_seq fun K139 hK139 => ?_
      refine w_reg gC ?_
      try simp only [W, EE, reduceIte, Nat.reduceAdd, Nat.reduceLeDiff, hS.var 4 rfl]
      refine w_stv (a := .agg [.int .i64 x63, v34, v66]) (y' := .agg [.int .i64 x63, v34, v66]) 3 hS rfl rfl rfl rfl rfl (by simp only [storA, List.all_cons, List.all_nil, qv34.stor, qv66.stor]; rfl) rfl rfl fun H hS => ?_
      try simp only [W]
      refine seq_n hK139 ?_
      refine w_ret ?_
      refine fin_r hK0 (res_c rfl rfl (hS.var 3 rfl) rfl rfl) ?_
      try obtain rfl := Option.some.inj h
      exact hP _ qv34 _ qv66 _ (hS.sel 5 [0, 1, 2] (by decide))
theorem spec_DrawStepCourt_w {a0 : List Int} {r : (Court × CourtStep)} (h : spec_DrawStepCourt a0 = some r) {F : List It} {H : Heap} (hS : Own H (F)) {P : AV → Heap → Prop} (hP : ∀ v31 : AV, isSl v31 → ∀ v33 : AV, isSl v33 → ∀ H', Own H' (⟨v31, 4, r.1.Cases.map e_Case⟩ :: ⟨v33, 3, r.1.Line.map e_Slip⟩ :: F) → P (.tup [.agg [.int .i64 r.1.Now, v31, v33], .agg [.int .i64 r.2.Kind, .int .i64 r.2.K]]) H') : ACall C 84 [.fz (a0.map (AV.int .u8))] H P := by
  refine acall_of gC (res := [.cell 2 68, .cell 3 108]) (n := 23) rfl rfl rfl rfl fun K0 hK0 => ?_
  simp only [W, Nat.reduceSub, Nat.reduceAdd, List.replicate]
  unfold spec_DrawStepCourt at h
  refine w_seq fun K1 hK1 => ?_
  refine w_reg gC ?_
  try simp only [W, Nat.reduceAdd]
  refine w_alloc hS rfl rfl fun ip2 wp2 H hS => ?_
  try simp only [W]
  refine w_alloc hS rfl rfl fun ip4 wp4 H hS => ?_
  try simp only [W]
  refine seq_n hK1 ?_
  refine w_seq fun K6 hK6 => ?_
  refine w_reg gC ?_
  try simp only [W, EE, Nat.reduceAdd]
  refine w_bld rfl rfl rfl rfl rfl ?_
  try simp only [W]
  refine w_box hS rfl rfl rfl rfl fun ip7 wp7 H hS => ?_
  try simp only [W]
  refine seq_n hK6 ?_
  refine w_seq fun K9 hK9 => ?_
  refine w_reg gC ?_
  try simp only [W, Nat.reduceAdd]
  refine w_call h fun b10 hb10 h => ?_
  obtain ⟨b11, b12⟩ := b10
  try dsimp only at h
  refine spec_l1Cur_court_w hb10 hS fun v13 qv13 v15 qv15 H hS => ?_
  try simp only [W]
  refine w_alloc hS rfl rfl fun ip17 wp17 H hS => ?_
  try simp only [W]
  refine w_stv (a := .agg [.int .i64 b11.Now, v13, v15]) (y' := .agg [.int .i64 b11.Now, v13, v15]) 0 hS rfl rfl rfl rfl rfl (by simp only [storA, List.all_cons, List.all_nil, qv13.stor, qv15.stor]; rfl) rfl rfl fun H hS => ?_
  try simp only [W]
  refine seq_n hK9 ?_
  refine w_seq fun K19 hK19 => ?_
  refine w_reg gC ?_
  try simp only [W, Nat.reduceAdd]
  refine w_call h fun b20 hb20 h => ?_
  obtain ⟨b21, b22⟩ := b20
  try dsimp only at h
  refine spec_l1Cur_courtSteps_w hb20 (hS.sel 6 [3, 0, 1, 2, 4, 5] (by decide)) fun v23 qv23 H hS => ?_
  try simp only [W]
  refine seq_n hK19 ?_
  refine w_seq fun K25 hK25 => ?_
  refine w_seq fun K26 hK26 => ?_
  refine w_reg gC ?_
  try simp only [W, EE, Nat.reduceAdd]
  refine w_len 0 hS rfl qv23 rfl ?_
  try simp only [W, EE]
  refine seq_n hK26 ?_
  refine w_if ?_
  simp only [W]
  refine w_cnd h (fun hc h => ?_) (fun hc h => ?_)
  · refine w_seq fun K27 hK27 => ?_
    refine w_reg gC ?_
    try simp only [W, EE, reduceIte, Nat.reduceAdd, Nat.reduceLeDiff, hS.var 2 rfl]
    refine w_bld rfl rfl rfl rfl rfl ?_
    try simp only [W]
    refine w_stv (a := .agg [.int .i64 b11.Now, v13, v15]) (y' := .agg [.int .i64 b11.Now, v13, v15]) 6 hS rfl rfl rfl rfl rfl (by simp only [storA, List.all_cons, List.all_nil, qv13.stor, qv15.stor]; rfl) rfl rfl fun H hS => ?_
    try simp only [W]
    refine w_stv (a := .agg [.int .i64 6, .int .i64 0]) (y' := .agg [.int .i64 6, .int .i64 0]) 5 hS rfl rfl rfl rfl rfl rfl rfl rfl fun H hS => ?_
    try simp only [W]
    refine seq_n hK27 ?_
    refine w_ret ?_
    refine seq_r hK25 ?_
    refine fin_r hK0 (res_c rfl rfl (hS.var 6 rfl) rfl (res_c rfl rfl (hS.var 5 rfl) rfl rfl)) ?_
    try obtain rfl := Option.some.inj h
    exact hP _ qv13 _ qv15 _ (hS.sel 7 [3, 4] (by decide))
  · refine w_skip ?_
    refine seq_n hK25 ?_
    refine w_seq fun K28 hK28 => ?_
    refine w_drawL gC [(4, [1, 2, 3]), (5, [])] (by kernel_rfl) rfl (by kernel_rfl) ?_
    try simp only [W, EE, reduceIte, Nat.reduceAdd, Nat.reduceLeDiff, hS.var 2 rfl, tabAt, qAt, Nat.reduceEqDiff]
    refine w_ow 0 hS rfl rfl rfl rfl rfl h (fun b29 in30 wn30 on30 hb29 h en30 => ?_) qv23.ne
    obtain ⟨kn30, hbn30, hen30⟩ := hS.elem 0 rfl en30 hb29
    try simp only [W, EE, EN, reduceIte, Nat.reduceAdd, Nat.reduceLeDiff, hbn30, hen30]
    refine w_stv (a := .agg [.int .i64 b11.Now, v13, v15]) (y' := .agg [.int .i64 b11.Now, v13, v15]) 6 hS rfl rfl rfl rfl rfl (by simp only [storA, List.all_cons, List.all_nil, qv13.stor, qv15.stor]; rfl) rfl rfl fun H hS => ?_
    refine goK_late ?_
    refine lateG_s (by first | rfl | (simp [evalOp, W, EE, EN, rdAt, mkT, subL, AV.cells, hS.var 1 rfl, hS.var 2 rfl, hS.var 5 rfl, hS.var 6 rfl]; done) | exact ev_ow 0 hS rfl rfl rfl rfl rfl en30 hb29 rfl rfl rfl rfl | exact ev_le 0 hS rfl rfl en30 hb29 rfl rfl rfl) ?_
    refine lateG_s (by first | rfl | (simp [evalOp, W, EE, AV.cells]; done) | exact ev_ow 0 hS rfl rfl rfl rfl rfl en30 hb29 rfl rfl rfl rfl | exact ev_le 0 hS rfl rfl en30 hb29 rfl rfl rfl) ?_
    refine lateG_s (by first | rfl | (simp [evalOp, W, EE, rdAt, mkT, subL, AV.cells]; done) | exact ev_ow 0 hS rfl rfl rfl rfl rfl en30 hb29 rfl rfl rfl rfl | exact ev_le 0 hS rfl rfl en30 hb29 rfl rfl rfl) ?_
    refine lateG_n ?_
    try simp only [W]
    refine w_stv (a := .agg [.int .i64 b29.Kind, .int .i64 b29.K]) (y' := .agg [.int .i64 b29.Kind, .int .i64 b29.K]) 5 hS rfl rfl rfl rfl rfl rfl rfl rfl fun H hS => ?_
    try simp only [W]
    refine seq_n hK28 ?_
    refine w_ret ?_
    refine fin_r hK0 (res_c rfl rfl (hS.var 6 rfl) rfl (res_c rfl rfl (hS.var 5 rfl) rfl rfl)) ?_
    try obtain rfl := Option.some.inj h
    exact hP _ qv13 _ qv15 _ (hS.sel 7 [3, 4] (by decide))
theorem slices_Clone_impl_Case_w {a0 : List Case} {r : List Case} (h : slices_Clone_impl_Case a0 = some r) {F : List It} {H : Heap} (hS : Own H F) {P : AV → Heap → Prop} (hP : ∀ v0 : AV, isSl v0 → ∀ H', Own H' (⟨v0, 4, r.map e_Case⟩ :: F) → P v0 H') : ACall C 231 [.fz (a0.map e_Case)] H P :=
  clone_w (ids := cids) rfl (sz := 4) (b := 32) (by simp [cids]) (fun _ => rfl) (by decide) h hS hP
theorem slices_Clone_impl_Slip_w {a0 : List Slip} {r : List Slip} (h : slices_Clone_impl_Slip a0 = some r) {F : List It} {H : Heap} (hS : Own H F) {P : AV → Heap → Prop} (hP : ∀ v0 : AV, isSl v0 → ∀ H', Own H' (⟨v0, 3, r.map e_Slip⟩ :: F) → P v0 H') : ACall C 232 [.fz (a0.map e_Slip)] H P :=
  clone_w (ids := cids) rfl (sz := 3) (b := 24) (by simp [cids]) (fun _ => rfl) (by decide) h hS hP
theorem impl_Court_copied_w {a0 : Court} {r : (Court)} (h : impl_Court_copied a0 = some r) {F : List It} {H : Heap} (hS : Own H (F)) {P : AV → Heap → Prop} (hP : ∀ v15 : AV, isSl v15 → ∀ v17 : AV, isSl v17 → ∀ H', Own H' (⟨v15, 4, r.Cases.map e_Case⟩ :: ⟨v17, 3, r.Line.map e_Slip⟩ :: F) → P (.agg [.int .i64 r.Now, v15, v17]) H') : ACall C 149 [.agg [.int .i64 a0.Now, .fz (a0.Cases.map e_Case), .fz (a0.Line.map e_Slip)]] H P := by
  refine acall_of gC (res := [.cell 2 68]) (n := 12) rfl rfl rfl rfl fun K0 hK0 => ?_
  simp only [W, Nat.reduceSub, Nat.reduceAdd, List.replicate]
  unfold impl_Court_copied at h
  refine w_seq fun K1 hK1 => ?_
  refine w_reg gC ?_
  try simp only [W, Nat.reduceAdd]
  refine w_box hS rfl rfl rfl rfl fun ip2 wp2 H hS => ?_
  try simp only [W]
  refine w_alloc hS rfl rfl fun ip4 wp4 H hS => ?_
  try simp only [W]
  refine seq_n hK1 ?_
  refine w_seq fun K6 hK6 => ?_
  refine w_drawL gC [(9, [])] (by kernel_rfl) rfl (by kernel_rfl) ?_
  try simp only [W, EE, reduceIte, Nat.reduceAdd, Nat.reduceBEq, hS.var 1 rfl, tabAt, qAt, Nat.reduceEqDiff, List.contains_cons, Nat.reduceBEq, Bool.or_true, Bool.or_self]
  refine w_callO (rsh := [[.sl [.sc, .sc, .sc, .sc]]]) (ys := [.fz (a0.Cases.map e_Case)]) h rfl (by rfl) fun b7 hb7 h => ⟨.own 4 (b7.map e_Case), slices_Clone_impl_Case_w hb7 (Own.nil _) fun v8 qv8 H hS => TV_ok rfl (TV_o 0 hS rfl qv8 (fun _ _ => by simp [takeE, takeT, takeC, plainA, e_Case]) fun H hS => TV_n rfl), (noFz_o _ (fun _ => rfl) _), ?_⟩
  refine thaw_1 ?_
  refine TH_o hS (fun _ _ => rfl) (fun _ => rfl) fun v10 H qv10 hS => ?_
  refine TH_n ?_
  try simp only [List.headD_cons]
  try simp only [W, EE, Nat.reduceAdd, Nat.reduceBEq, hS.var 2 rfl, Nat.reduceBEq]
  refine w_callO (rsh := [[.sl [.sc, .sc, .sc]]]) (ys := [.fz (a0.Line.map e_Slip)]) h rfl (by rfl) fun b11 hb11 h => ⟨.own 3 (b11.map e_Slip), slices_Clone_impl_Slip_w hb11 (Own.nil _) fun v12 qv12 H hS => TV_ok rfl (TV_o 0 hS rfl qv12 (fun _ _ => by simp [takeE, takeT, takeC, plainA, e_Slip]) fun H hS => TV_n rfl), (noFz_o _ (fun _ => rfl) _), ?_⟩
  refine thaw_1 ?_
  refine TH_o hS (fun _ _ => rfl) (fun _ => rfl) fun v14 H qv14 hS => ?_
  refine TH_n ?_
  try simp only [List.headD_cons]
  try simp only [W, EE]
  refine w_bld rfl rfl rfl rfl (by simp only [fillA, qv10.stora, qv10.cells, qv14.stora, qv14.cells]; simp [E, splice, AV.cells, storA, stor1] <;> rfl) ?_
  try simp only [W]
  refine w_stv (a := .agg [.int .i64 a0.Now, v10, v14]) (y' := .agg [.int .i64 a0.Now, v10, v14]) 2 hS rfl rfl rfl rfl rfl (by simp only [storA, List.all_cons, List.all_nil, qv10.stor, qv14.stor]; rfl) rfl rfl fun H hS => ?_
  try simp only [W]
  refine seq_n hK6 ?_
  refine w_ret ?_
  refine fin_r hK0 (res_c rfl rfl (hS.var 2 rfl) rfl rfl) ?_
  try obtain rfl := Option.some.inj h
  exact hP _ qv10 _ qv14 _ (hS.sel 4 [1, 0] (by decide))
theorem impl_in_w {a0 : Int} {a1 : Int} {a2 : Int} {r : (Bool)} (h : impl_in a0 a1 a2 = some r) {F : List It} {H : Heap} (hS : Own H (F)) {P : AV → Heap → Prop} (hP : ∀ H', Own H' (F) → P (.bool r) H') : ACall C 114 [.int .i64 a0, .int .i64 a1, .int .i64 a2] H P := by
  refine acall_of gC (res := [.tmp 6]) (n := 15) rfl rfl rfl rfl fun K0 hK0 => ?_
  simp only [W, Nat.reduceSub, Nat.reduceAdd, List.replicate]
  unfold impl_in at h
  refine w_seq fun K1 hK1 => ?_
  refine w_reg gC ?_
  try simp only [W, Nat.reduceAdd]
  refine seq_n hK1 ?_
  refine w_seq fun K2 hK2 => ?_
  refine w_reg gC ?_
  try simp only [W, EE, Nat.reduceAdd]
  refine w_grdT h (fun hc h => ?_) (fun hc h => ?_)
  · try simp only [W, EE, reduceIte, hc]
    refine seq_n hK2 ?_
    refine w_ret ?_
    refine fin_r1 hK0 rfl ?_
    try obtain rfl := Option.some.inj h
    exact hP _ hS
  · try simp only [W, hc]
    refine seq_n hK2 ?_
    refine w_ret ?_
    refine fin_r1 hK0 rfl ?_
    try obtain rfl := Option.some.inj h
    exact hP _ hS
theorem impl_isVerdict_w {a0 : Int} {r : (Bool)} (h : impl_isVerdict a0 = some r) {F : List It} {H : Heap} (hS : Own H (F)) {P : AV → Heap → Prop} (hP : ∀ H', Own H' (F) → P (.bool r) H') : ACall C 230 [.int .i64 a0] H P := by
  refine acall_of gC (res := [.tmp 2]) (n := 9) rfl rfl rfl rfl fun K0 hK0 => ?_
  simp only [W, Nat.reduceSub, Nat.reduceAdd, List.replicate]
  unfold impl_isVerdict at h
  refine w_seq fun K1 hK1 => ?_
  refine w_reg gC ?_
  try simp only [W, Nat.reduceAdd]
  refine seq_n hK1 ?_
  refine w_seq fun K2 hK2 => ?_
  refine w_reg gC ?_
  try simp only [W, EE, Nat.reduceAdd]
  refine w_grdT h (fun hc h => ?_) (fun hc h => ?_)
  · try simp only [W, hc]
    refine seq_n hK2 ?_
    refine w_ret ?_
    refine fin_r1 hK0 rfl ?_
    try obtain rfl := Option.some.inj h
    exact hP _ hS
  · try simp only [W, EE, reduceIte, Bool.false_eq_true, hc]
    refine seq_n hK2 ?_
    refine w_ret ?_
    refine fin_r1 hK0 rfl ?_
    try obtain rfl := Option.some.inj h
    exact hP _ hS
theorem impl_Court_isSlip_w {a0 : Court} {a1 : Slip} {i0 : Nat} {w0 : Nat} {r : (Bool)} (h : impl_Court_isSlip a0 a1 = some r) {F : List It} {H : Heap} (hm0 : ⟨.ptr i0 w0 0 0, 3, [.agg [.int .i64 a0.Now, .fz (a0.Cases.map e_Case), .fz (a0.Line.map e_Slip)]]⟩ ∈ F) (hS : Own H (F)) {P : AV → Heap → Prop} (hP : ∀ H', Own H' (F) → P (.bool r) H') : ACall C 148 [.ptr i0 w0 0 0, .agg [.int .i64 a1.Kind, .int .i64 a1.Case, .int .i64 a1.What]] H P := by
  refine acall_of gC (res := [.tmp 4]) (n := 48) rfl rfl rfl rfl fun K0 hK0 => ?_
  simp only [W, Nat.reduceSub, Nat.reduceAdd, List.replicate]
  unfold impl_Court_isSlip at h
  refine w_seq fun K1 hK1 => ?_
  refine w_reg gC ?_
  try simp only [W, Nat.reduceAdd]
  refine w_box hS rfl rfl rfl rfl fun ip2 wp2 H hS => ?_
  try simp only [W]
  refine seq_n hK1 ?_
  refine w_seq fun K4 hK4 => ?_
  refine w_seq fun K5 hK5 => ?_
  refine w_draw0 gC (by kernel_rfl) ?_
  try simp only [W, EE, Nat.reduceAdd, Nat.reduceBEq, hS.varm (List.mem_cons_of_mem _ (hm0)), hS.var 0 rfl]
  refine w_callS (rsh := [[.sc]]) (ys := [.int .i64 a1.Case, .int .i64 0, .int .i64 (IntKind.i64.wrap ((a0.Cases.length : Int) - 1))]) h rfl (by rfl) fun b6 hb6 h => ⟨.bool b6, impl_in_w hb6 (Own.nil _) fun H hS => TV_ok rfl (TV_p rfl (TV_n rfl)), ⟨rfl, rfl, fun _ => rfl⟩, ?_⟩
  try simp only [W]
  refine seq_n hK5 ?_
  refine w_if ?_
  simp only [W]
  refine w_cnd h (fun hc h => ?_) (fun hc h => ?_)
  · refine w_seq fun K7 hK7 => ?_
    refine w_reg gC ?_
    try simp only [W, Nat.reduceAdd]
    refine seq_n hK7 ?_
    refine w_ret ?_
    refine seq_r hK4 ?_
    refine fin_r1 hK0 rfl ?_
    try obtain rfl := Option.some.inj h
    exact hP _ (hS.sel 1 [] (by decide))
  · refine w_skip ?_
    refine seq_n hK4 ?_
    refine w_seq fun K8 hK8 => ?_
    refine w_seq fun K9 hK9 => ?_
    refine w_reg gC ?_
    try simp only [W, EE, Nat.reduceAdd, Nat.reduceBEq, hS.var 0 rfl]
    refine seq_n hK9 ?_
    refine w_if ?_
    simp only [W]
    refine w_cnd h (fun hc h => ?_) (fun hc h => ?_)
    · refine w_seq fun K10 hK10 => ?_
      refine w_draw0 gC (by kernel_rfl) ?_
      try simp only [W, EE, Nat.reduceAdd, Nat.reduceBEq, hS.var 0 rfl]
      refine w_callS (rsh := [[.sc]]) (ys := [.int .i64 a1.What]) h rfl (by rfl) fun b11 hb11 h => ⟨.bool b11, impl_isVerdict_w hb11 (Own.nil _) fun H hS => TV_ok rfl (TV_p rfl (TV_n rfl)), ⟨rfl, rfl, fun _ => rfl⟩, ?_⟩
      try simp only [W]
      refine w_grdT h (fun hc h => ?_) (fun hc h => ?_)
      · try simp only [W, EE, Nat.reduceAdd, Nat.reduceBEq, hS.varm (List.mem_cons_of_mem _ (hm0)), hS.var 0 rfl, hc]
        refine w_fz rfl rfl rfl (fun _ => rfl) h fun b12 hb12 h => ?_
        try simp only [W, EE, EN, reduceIte, Nat.reduceAdd, Nat.reduceBEq]
        refine seq_n hK10 ?_
        refine w_ret ?_
        refine seq_r hK8 ?_
        refine fin_r1 hK0 rfl ?_
        try obtain rfl := Option.some.inj h
        exact hP _ (hS.sel 1 [] (by decide))
      · try simp only [W, hc]
        refine seq_n hK10 ?_
        refine w_ret ?_
        refine seq_r hK8 ?_
        refine fin_r1 hK0 rfl ?_
        try obtain rfl := Option.some.inj h
        exact hP _ (hS.sel 1 [] (by decide))
    · refine w_skip ?_
      refine seq_n hK8 ?_
      refine w_seq fun K13 hK13 => ?_
      refine w_reg gC ?_
      try simp only [W, EE, Nat.reduceAdd, Nat.reduceBEq, hS.var 0 rfl]
      refine w_grdT h (fun hc h => ?_) (fun hc h => ?_)
      · try simp only [W, EE, reduceIte, Nat.reduceAdd, Nat.reduceBEq, hS.var 0 rfl, hc]
        refine seq_n hK13 ?_
        refine w_ret ?_
        refine fin_r1 hK0 rfl ?_
        try obtain rfl := Option.some.inj h
        exact hP _ (hS.sel 1 [] (by decide))
      · try simp only [W, EE, reduceIte, Nat.reduceAdd, Nat.reduceBEq, Bool.false_eq_true, hS.var 0 rfl, hc]
        refine w_grdT h (fun hc h => ?_) (fun hc h => ?_)
        · try simp only [W, EE, reduceIte, Nat.reduceAdd, Nat.reduceBEq, hS.var 0 rfl, hc]
          refine seq_n hK13 ?_
          refine w_ret ?_
          refine fin_r1 hK0 rfl ?_
          try obtain rfl := Option.some.inj h
          exact hP _ (hS.sel 1 [] (by decide))
        · try simp only [W, hc]
          refine seq_n hK13 ?_
          refine w_ret ?_
          refine fin_r1 hK0 rfl ?_
          try obtain rfl := Option.some.inj h
          exact hP _ (hS.sel 1 [] (by decide))
theorem impl_GoodCourt_1_w {a0 : Slip} {a1 : Court} {i1 : Nat} {w1 : Nat} {r : (Bool)} (h : impl_GoodCourt_1 a0 a1 = some r) {F : List It} {H : Heap} (hm1 : ⟨.ptr i1 w1 0 0, 3, [.agg [.int .i64 a1.Now, .fz (a1.Cases.map e_Case), .fz (a1.Line.map e_Slip)]]⟩ ∈ F) (hS : Own H (F)) {P : AV → Heap → Prop} (hP : ∀ H', Own H' (F) → P (.bool r) H') : ACall C 147 [.agg [.int .i64 a0.Kind, .int .i64 a0.Case, .int .i64 a0.What], .ptr i1 w1 0 0] H P := by
  refine acall_of gC (res := [.tmp 3]) (n := 7) rfl rfl rfl rfl fun K0 hK0 => ?_
  simp only [W, Nat.reduceSub, Nat.reduceAdd, List.replicate]
  unfold impl_GoodCourt_1 at h
  refine w_seq fun K1 hK1 => ?_
  refine w_reg gC ?_
  try simp only [W, Nat.reduceAdd]
  refine w_box hS rfl rfl rfl rfl fun ip2 wp2 H hS => ?_
  try simp only [W]
  refine seq_n hK1 ?_
  refine w_seq fun K4 hK4 => ?_
  refine w_reg gC ?_
  try simp only [W, EE, reduceIte, Nat.reduceAdd, Nat.reduceLeDiff, hS.var 0 rfl]
  refine w_call h fun b5 hb5 h => ?_
  refine impl_Court_isSlip_w hb5 (List.mem_cons_of_mem _ (hm1)) hS fun H hS => ?_
  try simp only [W]
  refine seq_n hK4 ?_
  refine w_ret ?_
  refine fin_r1 hK0 rfl ?_
  try obtain rfl := Option.some.inj h
  exact hP _ (hS.sel 1 [] (by decide))
theorem slices_IndexFunc_impl_Slip_w {a0 : List Slip} {g1 : Slip → Option Bool} {f1 : FuncId} {c1 : List AV} {r : (Int)} (h : slices_IndexFunc_impl_Slip a0 g1 = some r) {F : List It} {H : Heap} (hg1 : ∀ {x0 : Slip} {r : Bool}, g1 x0 = some r → ∀ (L : List It) (n : Nat), L.drop n = F → ∀ (H : Heap), Own H L → ∀ (P : AV → Heap → Prop), (∀ H', Own H' L → P (.bool r) H') → ACall C f1 ([.agg [.int .i64 x0.Kind, .int .i64 x0.Case, .int .i64 x0.What]] ++ c1) H P) (hS : Own H (F)) {P : AV → Heap → Prop} (hP : ∀ H', Own H' (F) → P (.int .i64 r) H') : ACall C 229 [.fz (a0.map e_Slip), .fn f1 c1] H P := by
  refine acall_of gC (res := [.tmp 4]) (n := 19) rfl rfl rfl rfl fun K0 hK0 => ?_
  simp only [W, Nat.reduceSub, Nat.reduceAdd, List.replicate]
  unfold slices_IndexFunc_impl_Slip at h
  refine w_seq fun K1 hK1 => ?_
  refine w_reg gC ?_
  try simp only [W, Nat.reduceAdd]
  refine seq_n hK1 ?_
  refine w_seq fun K2 hK2 => ?_
  refine w_seq fun K3 hK3 => ?_
  refine w_reg gC ?_
  try simp only [W, EE, Nat.reduceAdd]
  refine seq_n hK3 ?_
  obtain ⟨y5, hw6, g12⟩ := Option.bind_eq_some_iff.1 h
  refine w_join gC (fun s H => y5 = LR.next () ∧ s = [u, u, u, u, u, u, u, u, u, u, u, u, u, u, u, u, u, u, u] ∧ Own H (F)) (fun K7 hK7 => ?_) (fun s H hq => ?_)
  · refine w_blk fun K8 hK8 => ?_
    refine w_loop gC hw6 (fun x s H => s = [.fz (a0.map e_Slip), .fn f1 c1, u, u, u, u, u, .int .i64 (a0.length : Int), .int .i64 x, u, u, u, u, u, u, u, u, u, u] ∧ Own H (F)) ⟨rfl, hS⟩ (fun x4 y11 s H h hd10 hi K9 hK9 => ?_)
    skip
    try dsimp only at hi
    obtain ⟨rfl, hS⟩ := hi
    simp only [slices_IndexFunc_impl_Slip_l0] at h
    refine w_seq fun K13 hK13 => ?_
    refine w_reg gC ?_
    try simp only [W, EE, Nat.reduceAdd]
    refine seq_n hK13 ?_
    refine w_seq fun K14 hK14 => ?_
    refine w_if ?_
    simp only [W]
    refine w_cnd h (fun hc h => ?_) (fun hc h => ?_)
    · refine w_skip ?_
      refine seq_n hK14 ?_
      refine w_seq fun K15 hK15 => ?_
      refine w_blk fun K16 hK16 => ?_
      refine w_seq fun K17 hK17 => ?_
      refine w_reg gC ?_
      try simp only [W, Nat.reduceAdd]
      refine seq_n hK17 ?_
      refine w_seq fun K18 hK18 => ?_
      refine w_reg gC ?_
      try simp only [W, EE, Nat.reduceAdd]
      refine w_fz rfl rfl rfl (fun _ => rfl) h fun b19 hb19 h => ?_
      try simp only [W, EE, EN, reduceIte, Nat.reduceAdd, Nat.reduceLeDiff]
      refine w_call h fun b20 hb20 h => ?_
      refine hg1 hb20 _ 0 rfl _ hS _ fun H hS => ?_
      try simp only [W]
      refine seq_n hK18 ?_
      refine w_if ?_
      simp only [W]
      refine w_cnd h (fun hc h => ?_) (fun hc h => ?_)
      · refine w_seq fun K21 hK21 => ?_
        refine w_reg gC ?_
        try simp only [W, Nat.reduceAdd]
        refine seq_n hK21 ?_
        refine w_ret ?_
        refine blk_r hK16 ?_
        refine seq_r hK15 ?_
        try obtain rfl := Option.some.inj h
        obtain rfl := hd10 _ rfl
        have h : (some (LR.done x4) : Option (LR Unit (Int))) = some (LR.done x4) := rfl
        refine lp_r hK9 ?_
        refine blk_r hK8 ?_
        try obtain rfl := Option.some.inj h
        obtain rfl := Option.some.inj g12
        have h : (some x4 : Option (Int)) = some x4 := rfl
        refine cut_r hK7 ?_
        refine seq_r hK2 ?_
        refine fin_r1 hK0 rfl ?_
        try obtain rfl := Option.some.inj h
        exact hP _ hS
      · refine w_skip ?_
        refine blk_n0 hK16 ?_
        refine seq_n hK15 ?_
        refine w_reg gC ?_
        try simp only [W, EE, Nat.reduceAdd]
        exact lp_n hK9 h ⟨rfl, hS⟩
    · refine w_exit ?_
      refine seq_x hK14 ?_
      try obtain rfl := Option.some.inj h
      obtain rfl := hd10 _ rfl
      have h : (some (LR.next ()) : Option (LR Unit (Int))) = some (LR.next ()) := rfl
      refine lp_x hK9 ?_
      refine blk_e hK8 ?_
      exact cut_n hK7 ⟨(Option.some.inj h).symm, rfl, hS⟩
  · obtain ⟨rfl, rfl, hS⟩ := hq
    replace h := g12
    try dsimp only at h
    refine seq_n hK2 ?_
    refine w_seq fun K28 hK28 => ?_
    refine w_reg gC ?_
    try simp only [W, Nat.reduceAdd]
    refine seq_n hK28 ?_
    refine w_ret ?_
    refine fin_r1 hK0 rfl ?_
    try obtain rfl := Option.some.inj h
    exact hP _ hS
theorem slices_ContainsFunc_impl_Slip_w {a0 : List Slip} {g1 : Slip → Option Bool} {f1 : FuncId} {c1 : List AV} {r : (Bool)} (h : slices_ContainsFunc_impl_Slip a0 g1 = some r) {F : List It} {H : Heap} (hg1 : ∀ {x0 : Slip} {r : Bool}, g1 x0 = some r → ∀ (L : List It) (n : Nat), L.drop n = F → ∀ (H : Heap), Own H L → ∀ (P : AV → Heap → Prop), (∀ H', Own H' L → P (.bool r) H') → ACall C f1 ([.agg [.int .i64 x0.Kind, .int .i64 x0.Case, .int .i64 x0.What]] ++ c1) H P) (hS : Own H (F)) {P : AV → Heap → Prop} (hP : ∀ H', Own H' (F) → P (.bool r) H') : ACall C 146 [.fz (a0.map e_Slip), .fn f1 c1] H P := by
  refine acall_of gC (res := [.tmp 4]) (n := 9) rfl rfl rfl rfl fun K0 hK0 => ?_
  simp only [W, Nat.reduceSub, Nat.reduceAdd, List.replicate]
  unfold slices_ContainsFunc_impl_Slip at h
  refine w_seq fun K1 hK1 => ?_
  refine w_reg gC ?_
  try simp only [W, Nat.reduceAdd]
  refine seq_n hK1 ?_
  refine w_seq fun K2 hK2 => ?_
  refine w_reg gC ?_
  try simp only [W, Nat.reduceAdd]
  refine w_call h fun b3 hb3 h => ?_
  refine slices_IndexFunc_impl_Slip_w hb3 hg1 hS fun H hS => ?_
  try simp only [W, EE]
  refine seq_n hK2 ?_
  refine w_ret ?_
  refine fin_r1 hK0 rfl ?_
  try obtain rfl := Option.some.inj h
  exact hP _ hS
theorem impl_GoodCourt_w {a0 : Court} {r : (Bool)} (h : impl_GoodCourt a0 = some r) {F : List It} {H : Heap} (hS : Own H (F)) {P : AV → Heap → Prop} (hP : ∀ H', Own H' (F) → P (.bool r) H') : ACall C 53 [.agg [.int .i64 a0.Now, .fz (a0.Cases.map e_Case), .fz (a0.Line.map e_Slip)]] H P := by
  refine acall_of gC (res := [.tmp 2]) (n := 68) rfl rfl rfl rfl fun K0 hK0 => ?_
  simp only [W, Nat.reduceSub, Nat.reduceAdd, List.replicate]
  unfold impl_GoodCourt at h
  refine w_seq fun K1 hK1 => ?_
  refine w_reg gC ?_
  try simp only [W, Nat.reduceAdd]
  refine w_box hS rfl rfl rfl rfl fun ip2 wp2 H hS => ?_
  try simp only [W]
  refine seq_n hK1 ?_
  refine w_seq fun K4 hK4 => ?_
  refine w_seq fun K5 hK5 => ?_
  obtain ⟨y7, h, g8⟩ := Option.bind_eq_some_iff.1 h
  refine w_join gC (fun s H => ∃ x6 : Bool, y7 = (x6) ∧ s = (u :: .ptr ip2 wp2 0 0 :: u :: u :: u :: u :: u :: u :: u :: u :: u :: u :: u :: u :: u :: u :: u :: u :: u :: u :: .bool x6 :: u :: u :: u :: u :: u :: u :: u :: u :: u :: u :: u :: u :: u :: u :: u :: u :: u :: u :: u :: u :: u :: u :: u :: u :: u :: u :: u :: u :: u :: u :: u :: u :: u :: u :: u :: u :: u :: u :: u :: u :: u :: u :: u :: u :: u :: u :: u :: []) ∧ Own H (⟨.ptr ip2 wp2 0 0, 3, [.agg [.int .i64 a0.Now, .fz (a0.Cases.map e_Case), .fz (a0.Line.map e_Slip)]]⟩ :: F)) (fun K9 hK9 => ?_) (fun s H hq => ?_)
  · refine w_seq fun K10 hK10 => ?_
    refine w_reg gC ?_
    try simp only [W, EE, Nat.reduceAdd, Nat.reduceBEq, hS.var 0 rfl]
    refine w_call h fun b11 hb11 h => ?_
    refine impl_in_w hb11 hS fun H hS => ?_
    try simp only [W]
    refine w_grdT h (fun hc h => ?_) (fun hc h => ?_)
    · try simp only [W, hc]
      refine seq_n hK10 ?_
      refine w_killE (s' := (u :: .ptr ip2 wp2 0 0 :: u :: u :: u :: u :: u :: u :: u :: u :: u :: u :: u :: u :: u :: u :: u :: u :: u :: u :: .bool true :: u :: u :: u :: u :: u :: u :: u :: u :: u :: u :: u :: u :: u :: u :: u :: u :: u :: u :: u :: u :: u :: u :: u :: u :: u :: u :: u :: u :: u :: u :: u :: u :: u :: u :: u :: u :: u :: u :: u :: u :: u :: u :: u :: u :: u :: u :: u :: [])) rfl ?_
      exact cut_n hK9 ⟨_, (Option.some.inj h).symm, rfl, hS⟩
    · try simp only [W, EE, reduceIte, Nat.reduceAdd, Nat.reduceBEq, Bool.false_eq_true, hS.var 0 rfl, hc]
      refine w_grdT h (fun hc h => ?_) (fun hc h => ?_)
      · try simp only [W, hc]
        refine seq_n hK10 ?_
        refine w_killE (s' := (u :: .ptr ip2 wp2 0 0 :: u :: u :: u :: u :: u :: u :: u :: u :: u :: u :: u :: u :: u :: u :: u :: u :: u :: u :: .bool true :: u :: u :: u :: u :: u :: u :: u :: u :: u :: u :: u :: u :: u :: u :: u :: u :: u :: u :: u :: u :: u :: u :: u :: u :: u :: u :: u :: u :: u :: u :: u :: u :: u :: u :: u :: u :: u :: u :: u :: u :: u :: u :: u :: u :: u :: u :: u :: [])) rfl ?_
        exact cut_n hK9 ⟨_, (Option.some.inj h).symm, rfl, hS⟩
      · try simp only [W, EE, reduceIte, Nat.reduceAdd, Nat.reduceBEq, Bool.false_eq_true, hS.var 0 rfl, hc]
        refine seq_n hK10 ?_
        refine w_killE (s' := (u :: .ptr ip2 wp2 0 0 :: u :: u :: u :: u :: u :: u :: u :: u :: u :: u :: u :: u :: u :: u :: u :: u :: u :: u :: .bool (decide (30 < (a0.Line.length : Int))) :: u :: u :: u :: u :: u :: u :: u :: u :: u :: u :: u :: u :: u :: u :: u :: u :: u :: u :: u :: u :: u :: u :: u :: u :: u :: u :: u :: u :: u :: u :: u :: u :: u :: u :: u :: u :: u :: u :: u :: u :: u :: u :: u :: u :: u :: u :: u :: [])) rfl ?_
        exact cut_n hK9 ⟨_, (Option.some.inj h).symm, rfl, hS⟩
  · obtain ⟨x6, ey, rfl, hS⟩ := hq; obtain rfl := ey.symm
    replace h := g8
    try dsimp only at h
    refine seq_n hK5 ?_
    refine w_if ?_
    simp only [W]
    refine w_cnd h (fun hc h => ?_) (fun hc h => ?_)
    · refine w_seq fun K12 hK12 => ?_
      refine w_reg gC ?_
      try simp only [W, Nat.reduceAdd]
      refine seq_n hK12 ?_
      refine w_ret ?_
      refine seq_r hK4 ?_
      refine fin_r1 hK0 rfl ?_
      try obtain rfl := Option.some.inj h
      exact hP _ (hS.sel 1 [] (by decide))
    · refine w_skip ?_
      refine seq_n hK4 ?_
      refine w_seq fun K13 hK13 => ?_
      refine w_seq fun K14 hK14 => ?_
      refine w_reg gC ?_
      try simp only [W, EE, Nat.reduceAdd, Nat.reduceBEq, hS.var 0 rfl]
      refine seq_n hK14 ?_
      obtain ⟨y16, hw17, g23⟩ := Option.bind_eq_some_iff.1 h
      refine w_join gC (fun s H => y16 = LR.next () ∧ s = (u :: .ptr ip2 wp2 0 0 :: u :: u :: u :: u :: u :: u :: u :: u :: u :: u :: u :: u :: u :: u :: u :: u :: u :: u :: u :: u :: u :: u :: u :: u :: u :: u :: u :: u :: u :: u :: u :: u :: u :: u :: u :: u :: u :: u :: u :: u :: u :: u :: u :: u :: u :: u :: u :: u :: u :: u :: u :: u :: u :: u :: u :: u :: u :: u :: u :: u :: u :: u :: u :: u :: u :: u :: []) ∧ Own H (⟨.ptr ip2 wp2 0 0, 3, [.agg [.int .i64 a0.Now, .fz (a0.Cases.map e_Case), .fz (a0.Line.map e_Slip)]]⟩ :: F)) (fun K18 hK18 => ?_) (fun s H hq => ?_)
      · refine w_blk fun K19 hK19 => ?_
        refine w_loop gC hw17 (fun x s H => s = (u :: .ptr ip2 wp2 0 0 :: u :: u :: u :: u :: u :: u :: u :: u :: u :: u :: u :: u :: u :: u :: u :: u :: u :: u :: u :: u :: .fz (a0.Cases.map e_Case) :: .int .i64 (a0.Cases.length : Int) :: .int .i64 x :: u :: u :: u :: u :: u :: u :: u :: u :: u :: u :: u :: u :: u :: u :: u :: u :: u :: u :: u :: u :: u :: u :: u :: u :: u :: u :: u :: u :: u :: u :: u :: u :: u :: u :: u :: u :: u :: u :: u :: u :: u :: u :: u :: []) ∧ Own H (⟨.ptr ip2 wp2 0 0, 3, [.agg [.int .i64 a0.Now, .fz (a0.Cases.map e_Case), .fz (a0.Line.map e_Slip)]]⟩ :: F)) ⟨rfl, hS⟩ (fun x15 y22 s H h hd21 hi K20 hK20 => ?_)
        skip
        try dsimp only at hi
        obtain ⟨rfl, hS⟩ := hi
        simp only [impl_GoodCourt_l0] at h
        refine w_seq fun K24 hK24 => ?_
        refine w_reg gC ?_
        try simp only [W, EE, Nat.reduceAdd]
        refine seq_n hK24 ?_
        refine w_seq fun K25 hK25 => ?_
        refine w_if ?_
        simp only [W]
        refine w_cnd h (fun hc h => ?_) (fun hc h => ?_)
        · refine w_skip ?_
          refine seq_n hK25 ?_
          refine w_seq fun K26 hK26 => ?_
          refine w_blk fun K27 hK27 => ?_
          refine w_seq fun K28 hK28 => ?_
          refine w_reg gC ?_
          try simp only [W, EE, Nat.reduceAdd]
          refine w_fz rfl rfl rfl (fun _ => rfl) h fun b29 hb29 h => ?_
          try simp only [W, EE, EN, reduceIte, Nat.reduceAdd, Nat.reduceLeDiff]
          refine w_alloc hS rfl rfl fun ip30 wp30 H hS => ?_
          try simp only [W]
          refine w_stv (a := .agg [.int .i64 b29.End, .bool b29.Asks, .int .i64 b29.Final, .int .i64 b29.Said]) (y' := .agg [.int .i64 b29.End, .bool b29.Asks, .int .i64 b29.Final, .int .i64 b29.Said]) 0 hS rfl rfl rfl rfl rfl rfl rfl rfl fun H hS => ?_
          try simp only [W]
          refine seq_n hK28 ?_
          refine w_seq fun K32 hK32 => ?_
          obtain ⟨y34, h, g35⟩ := Option.bind_eq_some_iff.1 h
          refine w_join gC (fun s H => ∃ x33 : Bool, y34 = (x33) ∧ s = (u :: .ptr ip2 wp2 0 0 :: u :: u :: u :: u :: u :: u :: u :: u :: u :: u :: u :: u :: u :: u :: u :: u :: u :: u :: u :: u :: .fz (a0.Cases.map e_Case) :: .int .i64 (a0.Cases.length : Int) :: .int .i64 x15 :: u :: u :: u :: u :: u :: u :: u :: u :: u :: u :: u :: u :: u :: u :: u :: u :: u :: u :: u :: u :: u :: u :: u :: u :: u :: u :: u :: u :: u :: u :: u :: u :: u :: u :: u :: u :: .bool x33 :: u :: u :: u :: u :: u :: u :: []) ∧ Own H (⟨.ptr ip2 wp2 0 0, 3, [.agg [.int .i64 a0.Now, .fz (a0.Cases.map e_Case), .fz (a0.Line.map e_Slip)]]⟩ :: F)) (fun K36 hK36 => ?_) (fun s H hq => ?_)
          · refine w_seq fun K37 hK37 => ?_
            refine w_reg gC ?_
            try simp only [W, EE, Nat.reduceAdd, Nat.reduceBEq, hS.var 0 rfl]
            refine w_call h fun b38 hb38 h => ?_
            refine impl_in_w hb38 hS fun H hS => ?_
            try simp only [W]
            refine w_grdT h (fun hc h => ?_) (fun hc h => ?_)
            · try simp only [W, hc]
              refine seq_n hK37 ?_
              refine w_killE (s' := (u :: .ptr ip2 wp2 0 0 :: u :: u :: u :: u :: u :: u :: u :: u :: u :: u :: u :: u :: u :: u :: u :: u :: u :: u :: u :: u :: .fz (a0.Cases.map e_Case) :: .int .i64 (a0.Cases.length : Int) :: .int .i64 x15 :: u :: u :: u :: u :: u :: u :: u :: u :: u :: u :: u :: u :: u :: u :: u :: u :: u :: u :: u :: u :: u :: u :: u :: u :: u :: u :: u :: u :: u :: u :: u :: u :: u :: u :: u :: u :: .bool true :: u :: u :: u :: u :: u :: u :: [])) rfl ?_
              exact cut_n hK36 ⟨_, (Option.some.inj h).symm, rfl, (hS.sel 2 [1] (by decide))⟩
            · try simp only [W, EE, Nat.reduceAdd, Nat.reduceBEq, hS.var 0 rfl, hc]
              refine w_call h fun b39 hb39 h => ?_
              refine impl_in_w hb39 hS fun H hS => ?_
              try simp only [W, reduceIte, Bool.false_eq_true]
              refine w_grdT h (fun hc h => ?_) (fun hc h => ?_)
              · try simp only [W, hc]
                refine seq_n hK37 ?_
                refine w_killE (s' := (u :: .ptr ip2 wp2 0 0 :: u :: u :: u :: u :: u :: u :: u :: u :: u :: u :: u :: u :: u :: u :: u :: u :: u :: u :: u :: u :: .fz (a0.Cases.map e_Case) :: .int .i64 (a0.Cases.length : Int) :: .int .i64 x15 :: u :: u :: u :: u :: u :: u :: u :: u :: u :: u :: u :: u :: u :: u :: u :: u :: u :: u :: u :: u :: u :: u :: u :: u :: u :: u :: u :: u :: u :: u :: u :: u :: u :: u :: u :: u :: .bool true :: u :: u :: u :: u :: u :: u :: [])) rfl ?_
                exact cut_n hK36 ⟨_, (Option.some.inj h).symm, rfl, (hS.sel 2 [1] (by decide))⟩
              · try simp only [W, EE, Nat.reduceAdd, Nat.reduceBEq, hS.var 0 rfl, hc]
                refine w_grdT h (fun hc h => ?_) (fun hc h => ?_)
                · try simp only [W, EE, reduceIte, Nat.reduceAdd, Nat.reduceBEq, Bool.false_eq_true, hS.var 0 rfl, hc]
                  refine w_grdT h (fun hc h => ?_) (fun hc h => ?_)
                  · try simp only [W, hc]
                    refine seq_n hK37 ?_
                    refine w_killE (s' := (u :: .ptr ip2 wp2 0 0 :: u :: u :: u :: u :: u :: u :: u :: u :: u :: u :: u :: u :: u :: u :: u :: u :: u :: u :: u :: u :: .fz (a0.Cases.map e_Case) :: .int .i64 (a0.Cases.length : Int) :: .int .i64 x15 :: u :: u :: u :: u :: u :: u :: u :: u :: u :: u :: u :: u :: u :: u :: u :: u :: u :: u :: u :: u :: u :: u :: u :: u :: u :: u :: u :: u :: u :: u :: u :: u :: u :: u :: u :: u :: .bool true :: u :: u :: u :: u :: u :: u :: [])) rfl ?_
                    exact cut_n hK36 ⟨_, (Option.some.inj h).symm, rfl, (hS.sel 2 [1] (by decide))⟩
                  · try simp only [W, EE, Nat.reduceAdd, Nat.reduceBEq, hS.var 0 rfl, hc]
                    refine w_grdT h (fun hc h => ?_) (fun hc h => ?_)
                    · try simp only [W, EE, reduceIte, Nat.reduceAdd, Nat.reduceBEq, Bool.false_eq_true, hS.var 1 rfl, hS.var 0 rfl, hc]
                      refine seq_n hK37 ?_
                      refine w_killE (s' := (u :: .ptr ip2 wp2 0 0 :: u :: u :: u :: u :: u :: u :: u :: u :: u :: u :: u :: u :: u :: u :: u :: u :: u :: u :: u :: u :: .fz (a0.Cases.map e_Case) :: .int .i64 (a0.Cases.length : Int) :: .int .i64 x15 :: u :: u :: u :: u :: u :: u :: u :: u :: u :: u :: u :: u :: u :: u :: u :: u :: u :: u :: u :: u :: u :: u :: u :: u :: u :: u :: u :: u :: u :: u :: u :: u :: u :: u :: u :: u :: .bool (decide (b29.End < a0.Now)) :: u :: u :: u :: u :: u :: u :: [])) rfl ?_
                      exact cut_n hK36 ⟨_, (Option.some.inj h).symm, rfl, (hS.sel 2 [1] (by decide))⟩
                    · try simp only [W, reduceIte, Bool.false_eq_true, hc]
                      refine seq_n hK37 ?_
                      refine w_killE (s' := (u :: .ptr ip2 wp2 0 0 :: u :: u :: u :: u :: u :: u :: u :: u :: u :: u :: u :: u :: u :: u :: u :: u :: u :: u :: u :: u :: .fz (a0.Cases.map e_Case) :: .int .i64 (a0.Cases.length : Int) :: .int .i64 x15 :: u :: u :: u :: u :: u :: u :: u :: u :: u :: u :: u :: u :: u :: u :: u :: u :: u :: u :: u :: u :: u :: u :: u :: u :: u :: u :: u :: u :: u :: u :: u :: u :: u :: u :: u :: u :: .bool false :: u :: u :: u :: u :: u :: u :: [])) rfl ?_
                      exact cut_n hK36 ⟨_, (Option.some.inj h).symm, rfl, (hS.sel 2 [1] (by decide))⟩
                · try simp only [W, EE, reduceIte, Nat.reduceAdd, Nat.reduceBEq, Bool.false_eq_true, hS.var 0 rfl, hc]
                  refine w_grdT h (fun hc h => ?_) (fun hc h => ?_)
                  · try simp only [W, EE, reduceIte, Nat.reduceAdd, Nat.reduceBEq, Bool.false_eq_true, hS.var 1 rfl, hS.var 0 rfl, hc]
                    refine seq_n hK37 ?_
                    refine w_killE (s' := (u :: .ptr ip2 wp2 0 0 :: u :: u :: u :: u :: u :: u :: u :: u :: u :: u :: u :: u :: u :: u :: u :: u :: u :: u :: u :: u :: .fz (a0.Cases.map e_Case) :: .int .i64 (a0.Cases.length : Int) :: .int .i64 x15 :: u :: u :: u :: u :: u :: u :: u :: u :: u :: u :: u :: u :: u :: u :: u :: u :: u :: u :: u :: u :: u :: u :: u :: u :: u :: u :: u :: u :: u :: u :: u :: u :: u :: u :: u :: u :: .bool (decide (b29.End < a0.Now)) :: u :: u :: u :: u :: u :: u :: [])) rfl ?_
                    exact cut_n hK36 ⟨_, (Option.some.inj h).symm, rfl, (hS.sel 2 [1] (by decide))⟩
                  · try simp only [W, reduceIte, Bool.false_eq_true, hc]
                    refine seq_n hK37 ?_
                    refine w_killE (s' := (u :: .ptr ip2 wp2 0 0 :: u :: u :: u :: u :: u :: u :: u :: u :: u :: u :: u :: u :: u :: u :: u :: u :: u :: u :: u :: u :: .fz (a0.Cases.map e_Case) :: .int .i64 (a0.Cases.length : Int) :: .int .i64 x15 :: u :: u :: u :: u :: u :: u :: u :: u :: u :: u :: u :: u :: u :: u :: u :: u :: u :: u :: u :: u :: u :: u :: u :: u :: u :: u :: u :: u :: u :: u :: u :: u :: u :: u :: u :: u :: .bool false :: u :: u :: u :: u :: u :: u :: [])) rfl ?_
                    exact cut_n hK36 ⟨_, (Option.some.inj h).symm, rfl, (hS.sel 2 [1] (by decide))⟩
          · obtain ⟨x33, ey, rfl, hS⟩ := hq; obtain rfl := ey.symm
            replace h := g35
            try dsimp only at h
            refine seq_n hK32 ?_
            refine w_if ?_
            simp only [W]
            refine w_cnd h (fun hc h => ?_) (fun hc h => ?_)
            · refine w_seq fun K40 hK40 => ?_
              refine w_reg gC ?_
              try simp only [W, Nat.reduceAdd]
              refine seq_n hK40 ?_
              refine w_ret ?_
              refine blk_r hK27 ?_
              refine seq_r hK26 ?_
              try obtain rfl := Option.some.inj h
              obtain rfl := hd21 _ rfl
              have h : (some (LR.done false) : Option (LR Unit (Bool))) = some (LR.done false) := rfl
              refine lp_r hK20 ?_
              refine blk_r hK19 ?_
              try obtain rfl := Option.some.inj h
              obtain rfl := Option.some.inj g23
              have h : (some false : Option (Bool)) = some false := rfl
              refine cut_r hK18 ?_
              refine seq_r hK13 ?_
              refine fin_r1 hK0 rfl ?_
              try obtain rfl := Option.some.inj h
              exact hP _ (hS.sel 1 [] (by decide))
            · refine w_skip ?_
              refine blk_n0 hK27 ?_
              refine seq_n hK26 ?_
              refine w_reg gC ?_
              try simp only [W, EE, Nat.reduceAdd]
              exact lp_n hK20 h ⟨rfl, hS⟩
        · refine w_exit ?_
          refine seq_x hK25 ?_
          try obtain rfl := Option.some.inj h
          obtain rfl := hd21 _ rfl
          have h : (some (LR.next ()) : Option (LR Unit (Bool))) = some (LR.next ()) := rfl
          refine lp_x hK20 ?_
          refine blk_e hK19 ?_
          exact cut_n hK18 ⟨(Option.some.inj h).symm, rfl, hS⟩
      · obtain ⟨rfl, rfl, hS⟩ := hq
        replace h := g23
        try dsimp only at h
        refine seq_n hK13 ?_
        refine w_seq fun K47 hK47 => ?_
        refine w_reg gC ?_
        try simp only [W, EE, Nat.reduceAdd, Nat.reduceBEq, hS.var 0 rfl]
        refine w_call h fun b48 hb48 h => ?_
        refine slices_ContainsFunc_impl_Slip_w hb48 (fun h _ n hL _ hS _ hP => impl_GoodCourt_1_w h (memd hL (List.mem_of_getElem? (i := 0) rfl)) hS hP) hS fun H hS => ?_
        try simp only [W]
        refine seq_n hK47 ?_
        refine w_ret ?_
        refine fin_r1 hK0 rfl ?_
        try obtain rfl := Option.some.inj h
        exact hP _ (hS.sel 1 [] (by decide))
theorem impl_Court_goes_w {a0 : Court} {a1 : Slip} {i0 : Nat} {w0 : Nat} {m101 : AV} {m102 : AV} {r : (Court)} (h : impl_Court_goes a0 a1 = some r) {F : List It} {H : Heap} (hS : Own H (⟨.ptr i0 w0 0 0, 3, [.agg [.int .i64 a0.Now, m101, m102]]⟩ :: ⟨m101, 4, a0.Cases.map e_Case⟩ :: ⟨m102, 3, a0.Line.map e_Slip⟩ :: F)) (qm101 : isSl m101) (qm102 : isSl m102) {P : AV → Heap → Prop} (hP : ∀ nm101 : AV, isSl nm101 → ∀ nm102 : AV, isSl nm102 → ∀ H', Own H' (⟨.ptr i0 w0 0 0, 3, [.agg [.int .i64 r.Now, nm101, nm102]]⟩ :: ⟨nm101, 4, r.Cases.map e_Case⟩ :: ⟨nm102, 3, r.Line.map e_Slip⟩ :: F) → P (.tup []) H') : ACall C 223 [.ptr i0 w0 0 0, .agg [.int .i64 a1.Kind, .int .i64 a1.Case, .int .i64 a1.What]] H P := by
  refine acall_of gC (res := []) (n := 20) rfl rfl rfl rfl fun K0 hK0 => ?_
  simp only [W, Nat.reduceSub, Nat.reduceAdd, List.replicate]
  unfold impl_Court_goes at h
  refine w_seq fun K1 hK1 => ?_
  refine w_reg gC ?_
  try simp only [W, Nat.reduceAdd]
  refine w_box hS rfl rfl rfl rfl fun ip2 wp2 H hS => ?_
  try simp only [W]
  refine seq_n hK1 ?_
  refine w_seq fun K4 hK4 => ?_
  refine w_reg gC ?_
  try simp only [W, EE, Nat.reduceAdd, Nat.reduceBEq, hS.var 1 rfl]
  refine w_len 3 hS rfl qm102 rfl ?_
  try simp only [W, EE]
  refine seq_n hK4 ?_
  refine w_if ?_
  simp only [W]
  refine w_cnd h (fun hc h => ?_) (fun hc h => ?_)
  · refine w_drawL gC [(7, [0]), (10, [])] (by kernel_rfl) rfl (by kernel_rfl) ?_
    try simp only [W, EE, reduceIte, Nat.reduceAdd, Nat.reduceLeDiff, Nat.reduceBEq, hS.var 1 rfl, hS.var 0 rfl, tabAt, qAt, Nat.reduceEqDiff]
    refine w_lit (el := ([a1] : List Slip).map e_Slip) hS rfl rfl rfl rfl rfl rfl rfl fun v5 H qv5 hS => ?_
    try simp only [W, EE]
    refine w_appV (l := a0.Line) (c := e_Slip) 4 hS rfl qm102 rfl rfl rfl (hS.elems 0 rfl qv5) (fun _ => rfl) rfl h fun v8 H x7 qv8 hm h hS => ?_
    refine goK_late ?_
    refine lateG_s (by first | rfl | (simp [evalOp, W, EE, EN, rdAt, mkT, subL, AV.cells, hS.var 1 rfl, hS.var 2 rfl]; done)) ?_
    refine lateG_n ?_
    try simp only [W, EE, Nat.reduceAdd, Nat.reduceBEq, hS.var 2 rfl]
    refine w_stv (a := v8) (y' := .agg [.int .i64 a0.Now, m101, v8]) 2 hS rfl rfl rfl rfl (by rw [qv8.cells]; rfl) qv8.stora (qv8.wr _ _ (by simp)) rfl fun H hS => ?_
    try simp only [W]
    refine fin_n0 hK0 ?_
    try obtain rfl := Option.some.inj h
    exact hP _ qm101 _ qv8 _ (hS.sel 5 [2, 3, 4] (by decide))
  · refine w_skip ?_
    refine fin_n0 hK0 ?_
    try obtain rfl := Option.some.inj h
    exact hP _ qm101 _ qm102 _ (hS.sel 4 [1, 2, 3] (by decide))
theorem slices_Delete_impl_Slip_w {a0 : List Slip} {a1 : Int} {a2 : Int} {m0 : AV} {r : (List Slip)} (h : slices_Delete_impl_Slip a0 a1 a2 = some r) {F : List It} {H : Heap} (hS : Own H (⟨m0, 3, a0.map e_Slip⟩ :: F)) (qm0 : isSl m0) {P : AV → Heap → Prop} (hP : ∀ v21 : AV, isSl v21 → ∀ H', Own H' (⟨v21, 3, r.map e_Slip⟩ :: F) → P (v21) H') : ACall C 224 [m0, .int .i64 a1, .int .i64 a2] H P := by
  refine acall_of gC (res := [.tmp 6]) (n := 33) rfl rfl rfl rfl fun K0 hK0 => ?_
  simp only [W, Nat.reduceSub, Nat.reduceAdd, List.replicate]
  unfold slices_Delete_impl_Slip at h
  refine w_seq fun K1 hK1 => ?_
  refine w_reg gC ?_
  try simp only [W, Nat.reduceAdd]
  refine seq_n hK1 ?_
  refine w_seq fun K2 hK2 => ?_
  refine w_reg gC ?_
  try simp only [W, EE, Nat.reduceAdd]
  refine w_len 0 hS rfl qm0 rfl ?_
  try simp only [W, EE]
  refine w_slX 0 hS rfl qm0 rfl rfl rfl rfl h fun v4 x3 hx3 h => ?_
  try simp only [W]
  refine seq_n hK2 ?_
  refine w_seq fun K5 hK5 => ?_
  refine w_seq fun K6 hK6 => ?_
  refine w_reg gC ?_
  try simp only [W, EE, Nat.reduceAdd]
  refine seq_n hK6 ?_
  refine w_if ?_
  simp only [W]
  refine w_cnd h (fun hc h => ?_) (fun hc h => ?_)
  · refine w_seq fun K7 hK7 => ?_
    refine w_reg gC ?_
    try simp only [W, Nat.reduceAdd]
    refine seq_n hK7 ?_
    refine w_ret ?_
    refine seq_r hK5 ?_
    refine fin_r1 hK0 rfl ?_
    try obtain rfl := Option.some.inj h
    exact hP _ qm0 _ hS
  · refine w_skip ?_
    refine seq_n hK5 ?_
    refine w_seq fun K8 hK8 => ?_
    refine w_reg gC ?_
    try simp only [W, EE, Nat.reduceAdd]
    refine w_len 0 hS rfl qm0 rfl ?_
    try simp only [W]
    refine seq_n hK8 ?_
    refine w_seq fun K9 hK9 => ?_
    refine w_drawL gC [(6, [])] (by kernel_rfl) rfl (by kernel_rfl) ?_
    try simp only [W, EE, reduceIte, Nat.reduceAdd, tabAt, qAt, Nat.reduceEqDiff]
    refine w_slW 0 hS rfl qm0 rfl rfl rfl h fun v11 x10 qv11 wv11 hx10 h => ?_
    try simp only [W, EE]
    refine w_slW 0 hS rfl qm0 rfl rfl rfl h fun v13 x12 qv13 wv13 hx12 h => ?_
    try simp only [W, EE]
    refine w_appW (l := a0) (c := e_Slip) 0 hS rfl qv11 wv11 hx10 rfl rfl rfl (hS.elemsW 0 rfl wv13 hx12) (fun _ => rfl) rfl h fun v15 H x14 qv15 hmv15 h hS rmv15 => ?_
    try simp only [W]
    refine seq_n hK9 ?_
    refine w_seq fun K17 hK17 => ?_
    refine w_reg gC ?_
    try simp only [W, EE, Nat.reduceAdd]
    refine w_len 0 hS rfl qv15 rfl ?_
    try simp only [W, EE]
    have rf19 := rmv15 rfl (by obtain ⟨_, _, _, _⟩ := slc_len hx3; obtain ⟨_, _, _, _⟩ := slc_len hx10; obtain ⟨_, _, _, _⟩ := slc_len hx12; simp only [Option.getD_some, Option.getD_none] at *; omega)
    have ff19 : (x14).length ≤ (a0).length := by have := app_len hmv15; obtain ⟨_, _, _, _⟩ := slc_len hx3; obtain ⟨_, _, _, _⟩ := slc_len hx10; obtain ⟨_, _, _, _⟩ := slc_len hx12; simp only [Option.getD_some, Option.getD_none] at *; omega
    refine w_slR 0 hS rfl rfl rfl rfl rf19 rfl ff19 fun v18 wv18 => ?_
    try simp only [W]
    refine w_clr 0 hS rfl rfl rfl rfl rfl rf19 ff19 wv18 fun H hS => ?_
    try simp only [W]
    refine seq_n hK17 ?_
    refine w_seq fun K20 hK20 => ?_
    refine w_reg gC ?_
    try simp only [W, Nat.reduceAdd]
    refine seq_n hK20 ?_
    refine w_ret ?_
    refine fin_r1 hK0 rfl ?_
    try obtain rfl := Option.some.inj h
    exact hP _ qv15 _ hS
end Go.VxW
