import Derived.Test.YtcgnkhdeckgaaaaVqF
import Derived.Test.YtcgnkhdeckgaaaaProg
import Derived.Test.YtcgnkhdeckgaaaaVaE
import Derived.KernelRfl
open Go Go.VS
set_option maxRecDepth 8000
set_option maxHeartbeats 4000000
namespace Go.VxW
def e_Case (x : Case) : AV := .agg [.int .i64 x.End, .bool x.Asks, .int .i64 x.Final, .int .i64 x.Said]
def e_Slip (x : Slip) : AV := .agg [.int .i64 x.Kind, .int .i64 x.Case, .int .i64 x.What]
def e_Court (x : Court) : AV := .agg [.int .i64 x.Now, .fz (x.Cases.map e_Case), .fz (x.Line.map e_Slip)]
def e_CourtStep (x : CourtStep) : AV := .agg [.int .i64 x.Kind, .int .i64 x.K]
def E : TEnv := fun t => match t with
  | 3 => some { sz := 1, agg := false, zero := [AV.int IntKind.i64 0], bytes := 8, und := UD.it IntKind.i64, eqok := true }
  | 4 => some { sz := 1, agg := false, zero := [AV.bool false], bytes := 1, und := UD.bl, eqok := true }
  | 65 => some { sz := 1, agg := false, zero := [AV.nil], bytes := 24, und := UD.sl 78, eqok := true }
  | 66 => some { sz := 1, agg := false, zero := [AV.nil], bytes := 24, und := UD.sl 161, eqok := true }
  | 68 => some { sz := 3, agg := true, zero := [AV.int IntKind.i64 0, AV.nil, AV.nil], bytes := 56, und := UD.st [(0, 3), (1, 65), (2, 66)], eqok := true }
  | 78 => some { sz := 4, agg := true, zero := [AV.int IntKind.i64 0, AV.bool false, AV.int IntKind.i64 0, AV.int IntKind.i64 0], bytes := 32, und := UD.st [(0, 3), (1, 4), (2, 3), (3, 3)], eqok := true }
  | 108 => some { sz := 2, agg := true, zero := [AV.int IntKind.i64 0, AV.int IntKind.i64 0], bytes := 16, und := UD.st [(0, 3), (1, 3)], eqok := true }
  | 116 => some { sz := 1, agg := false, zero := [AV.nil], bytes := 24, und := UD.sl 238, eqok := true }
  | 117 => some { sz := 1, agg := false, zero := [AV.nil], bytes := 24, und := UD.sl 240, eqok := true }
  | 119 => some { sz := 3, agg := true, zero := [AV.int IntKind.i64 0, AV.nil, AV.nil], bytes := 56, und := UD.st [(0, 3), (1, 116), (2, 117)], eqok := true }
  | 161 => some { sz := 3, agg := true, zero := [AV.int IntKind.i64 0, AV.int IntKind.i64 0, AV.int IntKind.i64 0], bytes := 24, und := UD.st [(0, 3), (1, 3), (2, 3)], eqok := true }
  | 163 => some { sz := 1, agg := false, zero := [AV.undef], bytes := 8, und := UD.ot, eqok := true }
  | 215 => some { sz := 1, agg := false, zero := [AV.nilp], bytes := 8, und := UD.pt, eqok := true }
  | 223 => some { sz := 1, agg := false, zero := [AV.undef], bytes := 8, und := UD.ot, eqok := true }
  | 238 => some { sz := 4, agg := true, zero := [AV.int IntKind.i64 0, AV.bool false, AV.int IntKind.i64 0, AV.int IntKind.i64 0], bytes := 32, und := UD.st [(0, 3), (1, 4), (2, 3), (3, 3)], eqok := true }
  | 240 => some { sz := 3, agg := true, zero := [AV.int IntKind.i64 0, AV.int IntKind.i64 0, AV.int IntKind.i64 0], bytes := 24, und := UD.st [(0, 3), (1, 3), (2, 3)], eqok := true }
  | _ => none
def pol : FuncId → FPol := fun f => match f with
  | 13 => { rsh := [[.sc]], regs := [(5, [], [2]), (7, [], [1]), (24, [], [2])], frz := [(8, [], some [1, 4, 5, 6, 7, 8, 9, 10, 50]), (14, [], some [1, 4, 5, 6, 8, 76]), (25, [], some [8, 12, 108])] }
  | 53 => { rsh := [[.sc]], loops := [(0, { keep := [1, 22, 23, 24] })], blocks := [(0, [1])], frz := [(1, [], some [1, 20]), (6, [], some [1, 22, 23, 24, 61])] }
  | 54 => { rsh := [[.sc, .sl [.sc, .sc, .sc, .sc], .sl [.sc, .sc, .sc]], [.sc], [.sc]], loops := [(0, { keep := [2, 5, 6, 7] })], blocks := [(0, [2, 5, 6])] }
  | 87 => { rsh := [[.sc]], loops := [(0, { keep := [1, 8, 9, 10] }), (2, { keep := [1, 56, 57, 58] })], blocks := [(0, [1]), (2, [1])], frz := [(4, [], some [1, 8, 9, 10, 53]), (10, [], some [1, 6, 56, 57, 58, 78]), (12, [], some [1, 56, 57, 58, 108])] }
  | 89 => { rsh := [[.sc, .sl [.sc, .sc, .sc, .sc], .sl [.sc, .sc, .sc]], [.sc], [.sc]], loops := [(0, { keep := [2, 5, 6, 7] })], blocks := [(0, [2, 5, 6])], regs := [(13, [], [1])] }
  | 95 => { rsh := [[.sc]] }
  | 96 => { rsh := [[.sc, .sl [.sc, .sc, .sc, .sc], .sl [.sc, .sc, .sc]]] }
  | 97 => { rsh := [[.sc]] }
  | 98 => { rsh := [[.sc]] }
  | 99 => { rsh := [[.sc]] }
  | 109 => { rsh := [[.sc]] }
  | 114 => { rsh := [[.sc]] }
  | 143 => { rsh := [[.sc]], blocks := [(0, [0, 3]), (1, [])], regs := [(21, [8], []), (24, [9], []), (25, [10, 13], []), (31, [14, 17], [])], frz := [(4, [], some [0, 3, 8, 9, 33]), (33, [], some [0, 3, 49, 86, 152])], cnds := [(9, [0, 3, 8, 9]), (34, [0, 3, 8, 9, 34]), (50, []), (60, [0, 3, 5]), (67, []), (86, [0, 3, 49, 86]), (112, [0, 3, 49, 86]), (116, [0, 3, 49, 86])] }
  | 144 => { rsh := [[.sc, .sl [.sc, .sc, .sc, .sc], .sl [.sc, .sc, .sc]], [.sc]], loops := [(1, { keep := [2, 4, 29, 30, 31] })], blocks := [(2, [2, 4, 29, 30, 31]), (1, [2, 4])], frz := [(3, [], some [2, 4, 22]), (9, [], some [2, 4, 6, 29, 30, 31, 45]), (15, [], some [2, 3, 4, 90]), (24, [], some [2, 3, 4, 131])], cnds := [(45, [2, 4, 29, 30, 31]), (53, [2, 3, 4, 53]), (108, [2, 3, 4, 8])] }
  | 145 => { rsh := [[.sc, .sl [.sc, .sc, .sc, .sc], .sl [.sc, .sc, .sc]]] }
  | 146 => { rsh := [[.sc]] }
  | 147 => { rsh := [[.sc]] }
  | 148 => { rsh := [[.sc]] }
  | 149 => { rsh := [[.sc, .sl [.sc, .sc, .sc, .sc], .sl [.sc, .sc, .sc]]], regs := [(1, [9], [4, 7])] }
  | 150 => { rsh := [[.sc]] }
  | 192 => { rsh := [[.sc]] }
  | 194 => { rsh := [[.sc]], loops := [(0, { keep := [6, 7, 8] })], blocks := [(0, [])] }
  | 195 => { rsh := [[.sc]] }
  | 196 => { rsh := [[.sc]] }
  | 197 => { rsh := [[.sl [.sc, .sc, .sc, .sc]]], loops := [(0, { keep := [0, 3, 4] })], blocks := [(0, [3])] }
  | 198 => { rsh := [[.sl [.sc, .sc, .sc]]], loops := [(0, { keep := [0, 3, 4] })], blocks := [(0, [3])] }
  | 199 => { rsh := [[.sc]], loops := [(0, { keep := [0, 1, 5] })], blocks := [(0, [])] }
  | 200 => { rsh := [[.sc]], loops := [(0, { keep := [0, 1, 5] })], blocks := [(0, [])] }
  | 201 => { rsh := [[.sc]], loops := [(0, { keep := [0, 1, 5] })], blocks := [(0, [1])] }
  | 202 => { rsh := [[.sc]], loops := [(0, { keep := [0, 1, 5] })], blocks := [(0, [1])] }
  | 203 => { rsh := [[.sc]], loops := [(0, { keep := [0, 1, 5] })], blocks := [(0, [1])] }
  | 204 => { rsh := [[.sc]], loops := [(0, { keep := [0, 1, 5] })], blocks := [(0, [1])] }
  | 223 => { rsh := [], regs := [(2, [7, 10], [])] }
  | 224 => { rsh := [[.sl [.sc, .sc, .sc]]], regs := [(5, [6], [])] }
  | 225 => { rsh := [], regs := [(8, [8], [])], cnds := [(24, [0, 3, 4]), (30, [0, 3, 4])] }
  | 226 => { rsh := [], loops := [(0, { keep := [0, 14, 15, 16] })], blocks := [(1, [0, 14, 15, 16]), (0, [])], frz := [(4, [], some [0, 2, 14, 15, 16, 32])], cnds := [(32, [0, 14, 15, 16])] }
  | 227 => { rsh := [[.sc, .sl [.sc, .sc, .sc, .sc], .sl [.sc, .sc, .sc]]], cnds := [(8, [2, 4])] }
  | 228 => { rsh := [[.sc, .sl [.sc, .sc, .sc, .sc], .sl [.sc, .sc, .sc]]], regs := [(9, [11, 12], [])], cnds := [(25, [2, 3, 4]), (28, [2, 3, 4, 5])] }
  | 229 => { rsh := [[.sc]], loops := [(0, { keep := [0, 1, 7, 8] })], blocks := [(0, [])] }
  | 230 => { rsh := [[.sc]] }
  | 231 => { rsh := [[.sl [.sc, .sc, .sc, .sc]]] }
  | 232 => { rsh := [[.sl [.sc, .sc, .sc]]] }
  | 233 => { rsh := [[.sc]], loops := [(0, { keep := [0, 1, 7, 8] })], blocks := [(0, [])] }
  | 234 => { rsh := [[.sc]] }
  | 252 => { rsh := [[.sc, .sc, .sc, .sc]] }
  | 253 => { rsh := [[.sc, .sc, .sc]] }
  | 254 => { rsh := [[.sc]] }
  | 255 => { rsh := [[.sc]] }
  | _ => {}
noncomputable def code : FuncId → Option Func := fun f => match f with
  | 13 => some Go.Proofs.Try.f13
  | 53 => some Go.Proofs.Try.f53
  | 54 => some Go.Proofs.Try.f54
  | 87 => some Go.Proofs.Try.f87
  | 89 => some Go.Proofs.Try.f89
  | 95 => some Go.Proofs.Try.f95
  | 96 => some Go.Proofs.Try.f96
  | 97 => some Go.Proofs.Try.f97
  | 98 => some Go.Proofs.Try.f98
  | 99 => some Go.Proofs.Try.f99
  | 109 => some Go.Proofs.Try.f109
  | 114 => some Go.Proofs.Try.f114
  | 143 => some Go.Proofs.Try.f143
  | 144 => some Go.Proofs.Try.f144
  | 145 => some Go.Proofs.Try.f145
  | 146 => some Go.Proofs.Try.f146
  | 147 => some Go.Proofs.Try.f147
  | 148 => some Go.Proofs.Try.f148
  | 149 => some Go.Proofs.Try.f149
  | 150 => some Go.Proofs.Try.f150
  | 192 => some Go.Proofs.Try.f192
  | 194 => some Go.Proofs.Try.f194
  | 195 => some Go.Proofs.Try.f195
  | 196 => some Go.Proofs.Try.f196
  | 197 => some Go.Proofs.Try.f197
  | 198 => some Go.Proofs.Try.f198
  | 199 => some Go.Proofs.Try.f199
  | 200 => some Go.Proofs.Try.f200
  | 201 => some Go.Proofs.Try.f201
  | 202 => some Go.Proofs.Try.f202
  | 203 => some Go.Proofs.Try.f203
  | 204 => some Go.Proofs.Try.f204
  | 223 => some Go.Proofs.Try.f223
  | 224 => some Go.Proofs.Try.f224
  | 225 => some Go.Proofs.Try.f225
  | 226 => some Go.Proofs.Try.f226
  | 227 => some Go.Proofs.Try.f227
  | 228 => some Go.Proofs.Try.f228
  | 229 => some Go.Proofs.Try.f229
  | 230 => some Go.Proofs.Try.f230
  | 233 => some Go.Proofs.Try.f233
  | 234 => some Go.Proofs.Try.f234
  | 252 => some Go.Proofs.Try.f252
  | 253 => some Go.Proofs.Try.f253
  | 254 => some Go.Proofs.Try.f254
  | 255 => some Go.Proofs.Try.f255
  | _ => none
def cids : List (FuncId × Nat × Nat) := [(231, 4, 32), (232, 3, 24)]
noncomputable def C : Ctx := ⟨E, pol, code, cloneExt cids⟩
theorem gC : Good C := clone_good (ids := cids) rfl
theorem cE : C.E = E := rfl
theorem E3 : E 3 = some { sz := 1, agg := false, zero := [AV.int IntKind.i64 0], bytes := 8, und := UD.it IntKind.i64, eqok := true } := rfl
theorem E4 : E 4 = some { sz := 1, agg := false, zero := [AV.bool false], bytes := 1, und := UD.bl, eqok := true } := rfl
theorem E65 : E 65 = some { sz := 1, agg := false, zero := [AV.nil], bytes := 24, und := UD.sl 78, eqok := true } := rfl
theorem E66 : E 66 = some { sz := 1, agg := false, zero := [AV.nil], bytes := 24, und := UD.sl 161, eqok := true } := rfl
theorem E68 : E 68 = some { sz := 3, agg := true, zero := [AV.int IntKind.i64 0, AV.nil, AV.nil], bytes := 56, und := UD.st [(0, 3), (1, 65), (2, 66)], eqok := true } := rfl
theorem E78 : E 78 = some { sz := 4, agg := true, zero := [AV.int IntKind.i64 0, AV.bool false, AV.int IntKind.i64 0, AV.int IntKind.i64 0], bytes := 32, und := UD.st [(0, 3), (1, 4), (2, 3), (3, 3)], eqok := true } := rfl
theorem E108 : E 108 = some { sz := 2, agg := true, zero := [AV.int IntKind.i64 0, AV.int IntKind.i64 0], bytes := 16, und := UD.st [(0, 3), (1, 3)], eqok := true } := rfl
theorem E116 : E 116 = some { sz := 1, agg := false, zero := [AV.nil], bytes := 24, und := UD.sl 238, eqok := true } := rfl
theorem E117 : E 117 = some { sz := 1, agg := false, zero := [AV.nil], bytes := 24, und := UD.sl 240, eqok := true } := rfl
theorem E119 : E 119 = some { sz := 3, agg := true, zero := [AV.int IntKind.i64 0, AV.nil, AV.nil], bytes := 56, und := UD.st [(0, 3), (1, 116), (2, 117)], eqok := true } := rfl
theorem E161 : E 161 = some { sz := 3, agg := true, zero := [AV.int IntKind.i64 0, AV.int IntKind.i64 0, AV.int IntKind.i64 0], bytes := 24, und := UD.st [(0, 3), (1, 3), (2, 3)], eqok := true } := rfl
theorem E163 : E 163 = some { sz := 1, agg := false, zero := [AV.undef], bytes := 8, und := UD.ot, eqok := true } := rfl
theorem E215 : E 215 = some { sz := 1, agg := false, zero := [AV.nilp], bytes := 8, und := UD.pt, eqok := true } := rfl
theorem E223 : E 223 = some { sz := 1, agg := false, zero := [AV.undef], bytes := 8, und := UD.ot, eqok := true } := rfl
theorem E238 : E 238 = some { sz := 4, agg := true, zero := [AV.int IntKind.i64 0, AV.bool false, AV.int IntKind.i64 0, AV.int IntKind.i64 0], bytes := 32, und := UD.st [(0, 3), (1, 4), (2, 3), (3, 3)], eqok := true } := rfl
theorem E240 : E 240 = some { sz := 3, agg := true, zero := [AV.int IntKind.i64 0, AV.int IntKind.i64 0, AV.int IntKind.i64 0], bytes := 24, und := UD.st [(0, 3), (1, 3), (2, 3)], eqok := true } := rfl
theorem EE : type_of% (And.intro @cE <| And.intro @E3 <| And.intro @E4 <| And.intro @E65 <| And.intro @E66 <| And.intro @E68 <| And.intro @E78 <| And.intro @E108 <| And.intro @E116 <| And.intro @E117 <| And.intro @E119 <| And.intro @E161 <| And.intro @E163 <| And.intro @E215 <| And.intro @E223 <| And.intro @E238 @E240) := And.intro @cE <| And.intro @E3 <| And.intro @E4 <| And.intro @E65 <| And.intro @E66 <| And.intro @E68 <| And.intro @E78 <| And.intro @E108 <| And.intro @E116 <| And.intro @E117 <| And.intro @E119 <| And.intro @E161 <| And.intro @E163 <| And.intro @E215 <| And.intro @E223 <| And.intro @E238 @E240
theorem e_Case_d (x : Case) : e_Case x = .agg [.int .i64 x.End, .bool x.Asks, .int .i64 x.Final, .int .i64 x.Said] := rfl
theorem e_Court_d (x : Court) : e_Court x = .agg [.int .i64 x.Now, .fz (x.Cases.map e_Case), .fz (x.Line.map e_Slip)] := rfl
theorem e_CourtStep_d (x : CourtStep) : e_CourtStep x = .agg [.int .i64 x.Kind, .int .i64 x.K] := rfl
theorem e_Slip_d (x : Slip) : e_Slip x = .agg [.int .i64 x.Kind, .int .i64 x.Case, .int .i64 x.What] := rfl
theorem EN : type_of% (And.intro @e_Case_d <| And.intro @e_Court_d <| And.intro @e_CourtStep_d <| And.intro @e_Slip_d <| And.intro @fzl_d @killB_n) := And.intro @e_Case_d <| And.intro @e_Court_d <| And.intro @e_CourtStep_d <| And.intro @e_Slip_d <| And.intro @fzl_d @killB_n
theorem laws_szCaseS_w {a0 : List Case} {a1 : Int} {r : (Int)} (h : laws_szCaseS a0 a1 = some r) {F : List It} {H : Heap} (hS : Own H (F)) {P : AV → Heap → Prop} (hP : ∀ H', Own H' (F) → P (.int .i64 r) H') : ACall C 195 [.fz (a0.map e_Case), .int .i64 a1] H P := by
  refine acall_of gC (res := [.tmp 4]) (n := 12) rfl rfl rfl rfl fun K0 hK0 => ?_
  simp only [W, Nat.reduceSub, Nat.reduceAdd, List.replicate]
  unfold laws_szCaseS at h
  refine w_seq fun K1 hK1 => ?_
  refine w_reg gC ?_
  try simp only [W, Nat.reduceAdd]
  refine seq_n hK1 ?_
  refine w_seq fun K2 hK2 => ?_
  refine w_reg gC ?_
  try simp only [W, EE, Nat.reduceAdd]
  refine seq_n hK2 ?_
  refine w_seq fun K3 hK3 => ?_
  refine w_seq fun K4 hK4 => ?_
  refine w_reg gC ?_
  try simp only [W, EE, Nat.reduceAdd]
  refine seq_n hK4 ?_
  refine w_if ?_
  simp only [W]
  refine w_cnd h (fun hc h => ?_) (fun hc h => ?_)
  · refine w_seq fun K5 hK5 => ?_
    refine w_reg gC ?_
    try simp only [W, Nat.reduceAdd]
    refine seq_n hK5 ?_
    refine w_ret ?_
    refine seq_r hK3 ?_
    refine fin_r1 hK0 rfl ?_
    try obtain rfl := Option.some.inj h
    exact hP _ hS
  · refine w_skip ?_
    refine seq_n hK3 ?_
    refine w_seq fun K6 hK6 => ?_
    refine w_reg gC ?_
    try simp only [W, Nat.reduceAdd]
    refine seq_n hK6 ?_
    refine w_ret ?_
    refine fin_r1 hK0 rfl ?_
    try obtain rfl := Option.some.inj h
    exact hP _ hS
theorem laws_szSlipS_w {a0 : List Slip} {a1 : Int} {r : (Int)} (h : laws_szSlipS a0 a1 = some r) {F : List It} {H : Heap} (hS : Own H (F)) {P : AV → Heap → Prop} (hP : ∀ H', Own H' (F) → P (.int .i64 r) H') : ACall C 196 [.fz (a0.map e_Slip), .int .i64 a1] H P := by
  refine acall_of gC (res := [.tmp 4]) (n := 12) rfl rfl rfl rfl fun K0 hK0 => ?_
  simp only [W, Nat.reduceSub, Nat.reduceAdd, List.replicate]
  unfold laws_szSlipS at h
  refine w_seq fun K1 hK1 => ?_
  refine w_reg gC ?_
  try simp only [W, Nat.reduceAdd]
  refine seq_n hK1 ?_
  refine w_seq fun K2 hK2 => ?_
  refine w_reg gC ?_
  try simp only [W, EE, Nat.reduceAdd]
  refine seq_n hK2 ?_
  refine w_seq fun K3 hK3 => ?_
  refine w_seq fun K4 hK4 => ?_
  refine w_reg gC ?_
  try simp only [W, EE, Nat.reduceAdd]
  refine seq_n hK4 ?_
  refine w_if ?_
  simp only [W]
  refine w_cnd h (fun hc h => ?_) (fun hc h => ?_)
  · refine w_seq fun K5 hK5 => ?_
    refine w_reg gC ?_
    try simp only [W, Nat.reduceAdd]
    refine seq_n hK5 ?_
    refine w_ret ?_
    refine seq_r hK3 ?_
    refine fin_r1 hK0 rfl ?_
    try obtain rfl := Option.some.inj h
    exact hP _ hS
  · refine w_skip ?_
    refine seq_n hK3 ?_
    refine w_seq fun K6 hK6 => ?_
    refine w_reg gC ?_
    try simp only [W, Nat.reduceAdd]
    refine seq_n hK6 ?_
    refine w_ret ?_
    refine fin_r1 hK0 rfl ?_
    try obtain rfl := Option.some.inj h
    exact hP _ hS
theorem laws_szCourt_w {a0 : Court} {a1 : Int} {r : (Int)} (h : laws_szCourt a0 a1 = some r) {F : List It} {H : Heap} (hS : Own H (F)) {P : AV → Heap → Prop} (hP : ∀ H', Own H' (F) → P (.int .i64 r) H') : ACall C 95 [.agg [.int .i64 a0.Now, .fz (a0.Cases.map e_Case), .fz (a0.Line.map e_Slip)], .int .i64 a1] H P := by
  refine acall_of gC (res := [.tmp 4]) (n := 18) rfl rfl rfl rfl fun K0 hK0 => ?_
  simp only [W, Nat.reduceSub, Nat.reduceAdd, List.replicate]
  unfold laws_szCourt at h
  refine w_seq fun K1 hK1 => ?_
  refine w_reg gC ?_
  try simp only [W, Nat.reduceAdd]
  refine w_box hS rfl rfl rfl rfl fun ip2 wp2 H hS => ?_
  try simp only [W]
  refine seq_n hK1 ?_
  refine w_seq fun K4 hK4 => ?_
  refine w_reg gC ?_
  try simp only [W, EE, Nat.reduceAdd, Nat.reduceBEq, hS.var 0 rfl]
  refine w_call h fun b5 hb5 h => ?_
  refine laws_szCaseS_w hb5 hS fun H hS => ?_
  try simp only [W]
  refine seq_n hK4 ?_
  refine w_seq fun K6 hK6 => ?_
  refine w_seq fun K7 hK7 => ?_
  refine w_reg gC ?_
  try simp only [W, EE, Nat.reduceAdd]
  refine seq_n hK7 ?_
  refine w_if ?_
  simp only [W]
  refine w_cnd h (fun hc h => ?_) (fun hc h => ?_)
  · refine w_seq fun K8 hK8 => ?_
    refine w_reg gC ?_
    try simp only [W, Nat.reduceAdd]
    refine seq_n hK8 ?_
    refine w_ret ?_
    refine seq_r hK6 ?_
    refine fin_r1 hK0 rfl ?_
    try obtain rfl := Option.some.inj h
    exact hP _ (hS.sel 1 [] (by decide))
  · refine w_skip ?_
    refine seq_n hK6 ?_
    refine w_seq fun K9 hK9 => ?_
    refine w_reg gC ?_
    try simp only [W, EE, Nat.reduceAdd, Nat.reduceBEq, hS.var 0 rfl]
    refine w_call h fun b10 hb10 h => ?_
    refine laws_szSlipS_w hb10 hS fun H hS => ?_
    try simp only [W]
    refine seq_n hK9 ?_
    refine w_seq fun K11 hK11 => ?_
    refine w_seq fun K12 hK12 => ?_
    refine w_reg gC ?_
    try simp only [W, EE, Nat.reduceAdd]
    refine seq_n hK12 ?_
    refine w_if ?_
    simp only [W]
    refine w_cnd h (fun hc h => ?_) (fun hc h => ?_)
    · refine w_seq fun K13 hK13 => ?_
      refine w_reg gC ?_
      try simp only [W, Nat.reduceAdd]
      refine seq_n hK13 ?_
      refine w_ret ?_
      refine seq_r hK11 ?_
      refine fin_r1 hK0 rfl ?_
      try obtain rfl := Option.some.inj h
      exact hP _ (hS.sel 1 [] (by decide))
    · refine w_skip ?_
      refine seq_n hK11 ?_
      refine w_seq fun K14 hK14 => ?_
      refine w_reg gC ?_
      try simp only [W, Nat.reduceAdd]
      refine seq_n hK14 ?_
      refine w_ret ?_
      refine fin_r1 hK0 rfl ?_
      try obtain rfl := Option.some.inj h
      exact hP _ (hS.sel 1 [] (by decide))
theorem laws_toCase_w {a0 : Case} {r : (Case)} (h : laws_toCase a0 = some r) {F : List It} {H : Heap} (hS : Own H (F)) {P : AV → Heap → Prop} (hP : ∀ H', Own H' (F) → P (.agg [.int .i64 r.End, .bool r.Asks, .int .i64 r.Final, .int .i64 r.Said]) H') : ACall C 252 [.agg [.int .i64 a0.End, .bool a0.Asks, .int .i64 a0.Final, .int .i64 a0.Said]] H P := by
  refine acall_of gC (res := [.cell 2 78]) (n := 17) rfl rfl rfl rfl fun K0 hK0 => ?_
  simp only [W, Nat.reduceSub, Nat.reduceAdd, List.replicate]
  unfold laws_toCase at h
  refine w_seq fun K1 hK1 => ?_
  refine w_reg gC ?_
  try simp only [W, Nat.reduceAdd]
  refine w_box hS rfl rfl rfl rfl fun ip2 wp2 H hS => ?_
  try simp only [W]
  refine w_alloc hS rfl rfl fun ip4 wp4 H hS => ?_
  try simp only [W]
  refine seq_n hK1 ?_
  refine w_seq fun K6 hK6 => ?_
  refine w_reg gC ?_
  try simp only [W, Nat.reduceAdd]
  refine w_alloc hS rfl rfl fun ip7 wp7 H hS => ?_
  try simp only [W]
  refine seq_n hK6 ?_
  refine w_seq fun K9 hK9 => ?_
  refine w_reg gC ?_
  try simp only [W, EE, Nat.reduceAdd, Nat.reduceBEq, hS.var 2 rfl, hS.var 0 rfl]
  refine w_stv (a := .int .i64 a0.End) (y' := .agg [.int .i64 a0.End, .bool false, .int .i64 0, .int .i64 0]) 0 hS rfl rfl rfl rfl rfl rfl rfl rfl fun H hS => ?_
  try simp only [W]
  refine seq_n hK9 ?_
  refine w_seq fun K10 hK10 => ?_
  refine w_reg gC ?_
  try simp only [W, EE, Nat.reduceAdd, Nat.reduceBEq, hS.var 2 rfl, hS.var 0 rfl]
  refine w_stv (a := .bool a0.Asks) (y' := .agg [.int .i64 a0.End, .bool a0.Asks, .int .i64 0, .int .i64 0]) 0 hS rfl rfl rfl rfl rfl rfl rfl rfl fun H hS => ?_
  try simp only [W]
  refine seq_n hK10 ?_
  refine w_seq fun K11 hK11 => ?_
  refine w_reg gC ?_
  try simp only [W, EE, Nat.reduceAdd, Nat.reduceBEq, hS.var 2 rfl, hS.var 0 rfl]
  refine w_stv (a := .int .i64 a0.Final) (y' := .agg [.int .i64 a0.End, .bool a0.Asks, .int .i64 a0.Final, .int .i64 0]) 0 hS rfl rfl rfl rfl rfl rfl rfl rfl fun H hS => ?_
  try simp only [W]
  refine seq_n hK11 ?_
  refine w_seq fun K12 hK12 => ?_
  refine w_reg gC ?_
  try simp only [W, EE, Nat.reduceAdd, Nat.reduceBEq, hS.var 2 rfl, hS.var 0 rfl]
  refine w_stv (a := .int .i64 a0.Said) (y' := .agg [.int .i64 a0.End, .bool a0.Asks, .int .i64 a0.Final, .int .i64 a0.Said]) 0 hS rfl rfl rfl rfl rfl rfl rfl rfl fun H hS => ?_
  try simp only [W]
  refine seq_n hK12 ?_
  refine w_seq fun K13 hK13 => ?_
  refine w_reg gC ?_
  try simp only [W, EE, reduceIte, Nat.reduceAdd, Nat.reduceLeDiff, hS.var 0 rfl]
  refine w_stv (a := .agg [.int .i64 a0.End, .bool a0.Asks, .int .i64 a0.Final, .int .i64 a0.Said]) (y' := .agg [.int .i64 a0.End, .bool a0.Asks, .int .i64 a0.Final, .int .i64 a0.Said]) 1 hS rfl rfl rfl rfl rfl rfl rfl rfl fun H hS => ?_
  try simp only [W]
  refine seq_n hK13 ?_
  refine w_ret ?_
  refine fin_r hK0 (res_c rfl rfl (hS.var 1 rfl) rfl rfl) ?_
  try obtain rfl := Option.some.inj h
  exact hP _ (hS.sel 3 [] (by decide))
theorem laws_toCaseS_w {a0 : List Case} {r : (List Case)} (h : laws_toCaseS a0 = some r) {F : List It} {H : Heap} (hS : Own H (F)) {P : AV → Heap → Prop} (hP : ∀ v30 : AV, isSl v30 → ∀ H', Own H' (⟨v30, 4, r.map e_Case⟩ :: F) → P (v30) H') : ACall C 197 [.fz (a0.map e_Case)] H P := by
  refine acall_of gC (res := [.tmp 2]) (n := 23) rfl rfl rfl rfl fun K0 hK0 => ?_
  simp only [W, Nat.reduceSub, Nat.reduceAdd, List.replicate]
  unfold laws_toCaseS at h
  refine w_seq fun K1 hK1 => ?_
  refine w_reg gC ?_
  try simp only [W, Nat.reduceAdd]
  refine seq_n hK1 ?_
  refine w_seq fun K2 hK2 => ?_
  refine w_reg gC ?_
  try simp only [W, EE, Nat.reduceAdd]
  refine w_make (c := e_Case) hS rfl rfl rfl rfl rfl rfl h fun v3 H x5 qv3 hm h hS => ?_
  try simp only [W]
  refine seq_n hK2 ?_
  refine w_seq fun K6 hK6 => ?_
  refine w_seq fun K7 hK7 => ?_
  refine w_reg gC ?_
  try simp only [W, Nat.reduceAdd]
  refine seq_n hK7 ?_
  obtain ⟨y11, hw12, g18⟩ := Option.bind_eq_some_iff.1 h
  refine w_join gC (fun s H => ∃ x10 : List Case, y11 = (x10) ∧ s = [u, u, u, v3, u, u, u, u, u, u, u, u, u, u, u, u, u, u, u, u, u, u, u] ∧ Own H (⟨v3, 4, x10.map e_Case⟩ :: F)) (fun K13 hK13 => ?_) (fun s H hq => ?_)
  · refine w_blk fun K14 hK14 => ?_
    refine w_loop gC hw12 (fun x s H => match x with | (x8, x9) => s = [.fz (a0.map e_Case), u, u, v3, .int .i64 x9, u, u, u, u, u, u, u, u, u, u, u, u, u, u, u, u, u, u] ∧ Own H (⟨v3, 4, x8.map e_Case⟩ :: F)) ⟨rfl, hS⟩ (fun x y17 s H h hd16 hi K15 hK15 => ?_)
    obtain ⟨x8, x9⟩ := x
    try dsimp only at hi
    obtain ⟨rfl, hS⟩ := hi
    simp only [laws_toCaseS_l0] at h
    refine w_seq fun K19 hK19 => ?_
    refine w_seq fun K20 hK20 => ?_
    refine w_reg gC ?_
    try simp only [W, EE, Nat.reduceAdd]
    refine seq_n hK20 ?_
    refine w_if ?_
    simp only [W]
    refine w_cnd h (fun hc h => ?_) (fun hc h => ?_)
    · refine w_skip ?_
      refine seq_n hK19 ?_
      refine w_seq fun K21 hK21 => ?_
      refine w_blk fun K22 hK22 => ?_
      refine w_reg gC ?_
      try simp only [W, EE, Nat.reduceAdd]
      refine w_fz rfl rfl rfl (fun _ => rfl) h fun b23 hb23 h => ?_
      try simp only [W, EE, EN, reduceIte, Nat.reduceAdd, Nat.reduceLeDiff]
      refine w_call h fun b24 hb24 h => ?_
      refine laws_toCase_w hb24 hS fun H hS => ?_
      try simp only [W, EE]
      refine w_ow 0 hS rfl rfl rfl rfl rfl h (fun b25 in26 wn26 on26 hb25 h en26 => ?_) qv3.ne
      obtain ⟨kn26, hbn26, hen26⟩ := hS.elem 0 rfl en26 hb25
      try simp only [W]
      refine w_ste (a := .agg [.int .i64 b24.End, .bool b24.Asks, .int .i64 b24.Final, .int .i64 b24.Said]) (y' := b24) 0 hS rfl en26 hb25 rfl rfl rfl rfl rfl rfl rfl fun H hS => ?_
      try simp only [W]
      refine blk_n0 hK22 ?_
      refine seq_n hK21 ?_
      refine w_reg gC ?_
      try simp only [W, EE, Nat.reduceAdd]
      exact lp_n hK15 h ⟨rfl, hS⟩
    · refine w_exit ?_
      refine seq_x hK19 ?_
      try obtain rfl := Option.some.inj h
      obtain rfl := hd16 _ rfl
      have h : (some (x8) : Option ((List Case))) = some (x8) := rfl
      refine lp_x hK15 ?_
      refine blk_e hK14 ?_
      exact cut_n hK13 ⟨_, (Option.some.inj h).symm, rfl, hS⟩
  · obtain ⟨x10, ey, rfl, hS⟩ := hq; obtain rfl := ey.symm
    replace h := g18
    try dsimp only at h
    refine seq_n hK6 ?_
    refine w_seq fun K29 hK29 => ?_
    refine w_reg gC ?_
    try simp only [W, Nat.reduceAdd]
    refine seq_n hK29 ?_
    refine w_ret ?_
    refine fin_r1 hK0 rfl ?_
    try obtain rfl := Option.some.inj h
    exact hP _ qv3 _ hS
theorem laws_toSlip_w {a0 : Slip} {r : (Slip)} (h : laws_toSlip a0 = some r) {F : List It} {H : Heap} (hS : Own H (F)) {P : AV → Heap → Prop} (hP : ∀ H', Own H' (F) → P (.agg [.int .i64 r.Kind, .int .i64 r.Case, .int .i64 r.What]) H') : ACall C 253 [.agg [.int .i64 a0.Kind, .int .i64 a0.Case, .int .i64 a0.What]] H P := by
  refine acall_of gC (res := [.cell 2 161]) (n := 14) rfl rfl rfl rfl fun K0 hK0 => ?_
  simp only [W, Nat.reduceSub, Nat.reduceAdd, List.replicate]
  unfold laws_toSlip at h
  refine w_seq fun K1 hK1 => ?_
  refine w_reg gC ?_
  try simp only [W, Nat.reduceAdd]
  refine w_box hS rfl rfl rfl rfl fun ip2 wp2 H hS => ?_
  try simp only [W]
  refine w_alloc hS rfl rfl fun ip4 wp4 H hS => ?_
  try simp only [W]
  refine seq_n hK1 ?_
  refine w_seq fun K6 hK6 => ?_
  refine w_reg gC ?_
  try simp only [W, Nat.reduceAdd]
  refine w_alloc hS rfl rfl fun ip7 wp7 H hS => ?_
  try simp only [W]
  refine seq_n hK6 ?_
  refine w_seq fun K9 hK9 => ?_
  refine w_reg gC ?_
  try simp only [W, EE, Nat.reduceAdd, Nat.reduceBEq, hS.var 2 rfl, hS.var 0 rfl]
  refine w_stv (a := .int .i64 a0.Kind) (y' := .agg [.int .i64 a0.Kind, .int .i64 0, .int .i64 0]) 0 hS rfl rfl rfl rfl rfl rfl rfl rfl fun H hS => ?_
  try simp only [W]
  refine seq_n hK9 ?_
  refine w_seq fun K10 hK10 => ?_
  refine w_reg gC ?_
  try simp only [W, EE, Nat.reduceAdd, Nat.reduceBEq, hS.var 2 rfl, hS.var 0 rfl]
  refine w_stv (a := .int .i64 a0.Case) (y' := .agg [.int .i64 a0.Kind, .int .i64 a0.Case, .int .i64 0]) 0 hS rfl rfl rfl rfl rfl rfl rfl rfl fun H hS => ?_
  try simp only [W]
  refine seq_n hK10 ?_
  refine w_seq fun K11 hK11 => ?_
  refine w_reg gC ?_
  try simp only [W, EE, Nat.reduceAdd, Nat.reduceBEq, hS.var 2 rfl, hS.var 0 rfl]
  refine w_stv (a := .int .i64 a0.What) (y' := .agg [.int .i64 a0.Kind, .int .i64 a0.Case, .int .i64 a0.What]) 0 hS rfl rfl rfl rfl rfl rfl rfl rfl fun H hS => ?_
  try simp only [W]
  refine seq_n hK11 ?_
  refine w_seq fun K12 hK12 => ?_
  refine w_reg gC ?_
  try simp only [W, EE, reduceIte, Nat.reduceAdd, Nat.reduceLeDiff, hS.var 0 rfl]
  refine w_stv (a := .agg [.int .i64 a0.Kind, .int .i64 a0.Case, .int .i64 a0.What]) (y' := .agg [.int .i64 a0.Kind, .int .i64 a0.Case, .int .i64 a0.What]) 1 hS rfl rfl rfl rfl rfl rfl rfl rfl fun H hS => ?_
  try simp only [W]
  refine seq_n hK12 ?_
  refine w_ret ?_
  refine fin_r hK0 (res_c rfl rfl (hS.var 1 rfl) rfl rfl) ?_
  try obtain rfl := Option.some.inj h
  exact hP _ (hS.sel 3 [] (by decide))
theorem laws_toSlipS_w {a0 : List Slip} {r : (List Slip)} (h : laws_toSlipS a0 = some r) {F : List It} {H : Heap} (hS : Own H (F)) {P : AV → Heap → Prop} (hP : ∀ v30 : AV, isSl v30 → ∀ H', Own H' (⟨v30, 3, r.map e_Slip⟩ :: F) → P (v30) H') : ACall C 198 [.fz (a0.map e_Slip)] H P := by
  refine acall_of gC (res := [.tmp 2]) (n := 23) rfl rfl rfl rfl fun K0 hK0 => ?_
  simp only [W, Nat.reduceSub, Nat.reduceAdd, List.replicate]
  unfold laws_toSlipS at h
  refine w_seq fun K1 hK1 => ?_
  refine w_reg gC ?_
  try simp only [W, Nat.reduceAdd]
  refine seq_n hK1 ?_
  refine w_seq fun K2 hK2 => ?_
  refine w_reg gC ?_
  try simp only [W, EE, Nat.reduceAdd]
  refine w_make (c := e_Slip) hS rfl rfl rfl rfl rfl rfl h fun v3 H x5 qv3 hm h hS => ?_
  try simp only [W]
  refine seq_n hK2 ?_
  refine w_seq fun K6 hK6 => ?_
  refine w_seq fun K7 hK7 => ?_
  refine w_reg gC ?_
  try simp only [W, Nat.reduceAdd]
  refine seq_n hK7 ?_
  obtain ⟨y11, hw12, g18⟩ := Option.bind_eq_some_iff.1 h
  refine w_join gC (fun s H => ∃ x10 : List Slip, y11 = (x10) ∧ s = [u, u, u, v3, u, u, u, u, u, u, u, u, u, u, u, u, u, u, u, u, u, u, u] ∧ Own H (⟨v3, 3, x10.map e_Slip⟩ :: F)) (fun K13 hK13 => ?_) (fun s H hq => ?_)
  · refine w_blk fun K14 hK14 => ?_
    refine w_loop gC hw12 (fun x s H => match x with | (x8, x9) => s = [.fz (a0.map e_Slip), u, u, v3, .int .i64 x9, u, u, u, u, u, u, u, u, u, u, u, u, u, u, u, u, u, u] ∧ Own H (⟨v3, 3, x8.map e_Slip⟩ :: F)) ⟨rfl, hS⟩ (fun x y17 s H h hd16 hi K15 hK15 => ?_)
    obtain ⟨x8, x9⟩ := x
    try dsimp only at hi
    obtain ⟨rfl, hS⟩ := hi
    simp only [laws_toSlipS_l0] at h
    refine w_seq fun K19 hK19 => ?_
    refine w_seq fun K20 hK20 => ?_
    refine w_reg gC ?_
    try simp only [W, EE, Nat.reduceAdd]
    refine seq_n hK20 ?_
    refine w_if ?_
    simp only [W]
    refine w_cnd h (fun hc h => ?_) (fun hc h => ?_)
    · refine w_skip ?_
      refine seq_n hK19 ?_
      refine w_seq fun K21 hK21 => ?_
      refine w_blk fun K22 hK22 => ?_
      refine w_reg gC ?_
      try simp only [W, EE, Nat.reduceAdd]
      refine w_fz rfl rfl rfl (fun _ => rfl) h fun b23 hb23 h => ?_
      try simp only [W, EE, EN, reduceIte, Nat.reduceAdd, Nat.reduceLeDiff]
      refine w_call h fun b24 hb24 h => ?_
      refine laws_toSlip_w hb24 hS fun H hS => ?_
      try simp only [W, EE]
      refine w_ow 0 hS rfl rfl rfl rfl rfl h (fun b25 in26 wn26 on26 hb25 h en26 => ?_) qv3.ne
      obtain ⟨kn26, hbn26, hen26⟩ := hS.elem 0 rfl en26 hb25
      try simp only [W]
      refine w_ste (a := .agg [.int .i64 b24.Kind, .int .i64 b24.Case, .int .i64 b24.What]) (y' := b24) 0 hS rfl en26 hb25 rfl rfl rfl rfl rfl rfl rfl fun H hS => ?_
      try simp only [W]
      refine blk_n0 hK22 ?_
      refine seq_n hK21 ?_
      refine w_reg gC ?_
      try simp only [W, EE, Nat.reduceAdd]
      exact lp_n hK15 h ⟨rfl, hS⟩
    · refine w_exit ?_
      refine seq_x hK19 ?_
      try obtain rfl := Option.some.inj h
      obtain rfl := hd16 _ rfl
      have h : (some (x8) : Option ((List Slip))) = some (x8) := rfl
      refine lp_x hK15 ?_
      refine blk_e hK14 ?_
      exact cut_n hK13 ⟨_, (Option.some.inj h).symm, rfl, hS⟩
  · obtain ⟨x10, ey, rfl, hS⟩ := hq; obtain rfl := ey.symm
    replace h := g18
    try dsimp only at h
    refine seq_n hK6 ?_
    refine w_seq fun K29 hK29 => ?_
    refine w_reg gC ?_
    try simp only [W, Nat.reduceAdd]
    refine seq_n hK29 ?_
    refine w_ret ?_
    refine fin_r1 hK0 rfl ?_
    try obtain rfl := Option.some.inj h
    exact hP _ qv3 _ hS
theorem laws_toCourt_w {a0 : Court} {r : (Court)} (h : laws_toCourt a0 = some r) {F : List It} {H : Heap} (hS : Own H (F)) {P : AV → Heap → Prop} (hP : ∀ v19 : AV, isSl v19 → ∀ v21 : AV, isSl v21 → ∀ H', Own H' (⟨v19, 4, r.Cases.map e_Case⟩ :: ⟨v21, 3, r.Line.map e_Slip⟩ :: F) → P (.agg [.int .i64 r.Now, v19, v21]) H') : ACall C 96 [.agg [.int .i64 a0.Now, .fz (a0.Cases.map e_Case), .fz (a0.Line.map e_Slip)]] H P := by
  refine acall_of gC (res := [.cell 2 68]) (n := 16) rfl rfl rfl rfl fun K0 hK0 => ?_
  simp only [W, Nat.reduceSub, Nat.reduceAdd, List.replicate]
  unfold laws_toCourt at h
  refine w_seq fun K1 hK1 => ?_
  refine w_reg gC ?_
  try simp only [W, Nat.reduceAdd]
  refine w_box hS rfl rfl rfl rfl fun ip2 wp2 H hS => ?_
  try simp only [W]
  refine w_alloc hS rfl rfl fun ip4 wp4 H hS => ?_
  try simp only [W]
  refine seq_n hK1 ?_
  refine w_seq fun K6 hK6 => ?_
  refine w_reg gC ?_
  try simp only [W, Nat.reduceAdd]
  refine w_alloc hS rfl rfl fun ip7 wp7 H hS => ?_
  try simp only [W]
  refine seq_n hK6 ?_
  refine w_seq fun K9 hK9 => ?_
  refine w_reg gC ?_
  try simp only [W, EE, Nat.reduceAdd, Nat.reduceBEq, hS.var 2 rfl, hS.var 0 rfl]
  refine w_stv (a := .int .i64 a0.Now) (y' := .agg [.int .i64 a0.Now, .nil, .nil]) 0 hS rfl rfl rfl rfl rfl rfl rfl rfl fun H hS => ?_
  try simp only [W]
  refine seq_n hK9 ?_
  refine w_seq fun K10 hK10 => ?_
  refine w_reg gC ?_
  try simp only [W, EE, Nat.reduceAdd, Nat.reduceBEq, hS.var 2 rfl]
  refine w_call h fun b11 hb11 h => ?_
  refine laws_toCaseS_w hb11 hS fun v12 qv12 H hS => ?_
  try simp only [W, EE, Nat.reduceAdd, Nat.reduceBEq, hS.var 1 rfl]
  refine w_stv (a := v12) (y' := .agg [.int .i64 a0.Now, v12, .nil]) 1 hS rfl rfl rfl rfl (by rw [qv12.cells]; rfl) qv12.stora (qv12.wr _ _ (by simp)) rfl fun H hS => ?_
  try simp only [W]
  refine seq_n hK10 ?_
  refine w_seq fun K14 hK14 => ?_
  refine w_reg gC ?_
  try simp only [W, EE, Nat.reduceAdd, Nat.reduceBEq, hS.var 3 rfl]
  refine w_call h fun b15 hb15 h => ?_
  refine laws_toSlipS_w hb15 hS fun v16 qv16 H hS => ?_
  try simp only [W, EE, Nat.reduceAdd, Nat.reduceBEq, hS.var 2 rfl]
  refine w_stv (a := v16) (y' := .agg [.int .i64 a0.Now, v12, v16]) 2 hS rfl rfl rfl rfl (by rw [qv16.cells]; rfl) qv16.stora (qv16.wr _ _ (by simp)) rfl fun H hS => ?_
  try simp only [W]
  refine seq_n hK14 ?_
  refine w_seq fun K18 hK18 => ?_
  refine w_reg gC ?_
  try simp only [W, EE, reduceIte, Nat.reduceAdd, Nat.reduceLeDiff, hS.var 2 rfl]
  refine w_stv (a := .agg [.int .i64 a0.Now, v12, v16]) (y' := .agg [.int .i64 a0.Now, v12, v16]) 3 hS rfl rfl rfl rfl rfl (by simp only [storA, List.all_cons, List.all_nil, qv12.stor, qv16.stor]; rfl) rfl rfl fun H hS => ?_
  try simp only [W]
  refine seq_n hK18 ?_
  refine w_ret ?_
  refine fin_r hK0 (res_c rfl rfl (hS.var 3 rfl) rfl rfl) ?_
  try obtain rfl := Option.some.inj h
  exact hP _ qv12 _ qv16 _ (hS.sel 5 [1, 0] (by decide))
theorem spec_l1In_w {a0 : Int} {a1 : Int} {a2 : Int} {r : (Bool)} (h : spec_l1In a0 a1 a2 = some r) {F : List It} {H : Heap} (hS : Own H (F)) {P : AV → Heap → Prop} (hP : ∀ H', Own H' (F) → P (.bool r) H') : ACall C 109 [.int .i64 a0, .int .i64 a1, .int .i64 a2] H P := by
  refine acall_of gC (res := [.tmp 6]) (n := 15) rfl rfl rfl rfl fun K0 hK0 => ?_
  simp only [W, Nat.reduceSub, Nat.reduceAdd, List.replicate]
  unfold spec_l1In at h
  refine w_seq fun K1 hK1 => ?_
  refine w_reg gC ?_
  try simp only [W, Nat.reduceAdd]
  refine seq_n hK1 ?_
  refine w_seq fun K2 hK2 => ?_
  refine w_reg gC ?_
  try simp only [W, EE, Nat.reduceAdd]
  refine w_grdT h (fun hc h => ?_) (fun hc h => ?_)
  · try simp only [W, EE, reduceIte, hc]
    refine seq_n hK2 ?_
    refine w_ret ?_
    refine fin_r1 hK0 rfl ?_
    try obtain rfl := Option.some.inj h
    exact hP _ hS
  · try simp only [W, hc]
    refine seq_n hK2 ?_
    refine w_ret ?_
    refine fin_r1 hK0 rfl ?_
    try obtain rfl := Option.some.inj h
    exact hP _ hS
theorem spec_l16Verdict_w {a0 : Int} {r : (Bool)} (h : spec_l16Verdict a0 = some r) {F : List It} {H : Heap} (hS : Own H (F)) {P : AV → Heap → Prop} (hP : ∀ H', Own H' (F) → P (.bool r) H') : ACall C 192 [.int .i64 a0] H P := by
  refine acall_of gC (res := [.tmp 2]) (n := 5) rfl rfl rfl rfl fun K0 hK0 => ?_
  simp only [W, Nat.reduceSub, Nat.reduceAdd, List.replicate]
  unfold spec_l16Verdict at h
  refine w_seq fun K1 hK1 => ?_
  refine w_reg gC ?_
  try simp only [W, Nat.reduceAdd]
  refine seq_n hK1 ?_
  refine w_seq fun K2 hK2 => ?_
  refine w_reg gC ?_
  try simp only [W, Nat.reduceAdd]
  refine w_call h fun b3 hb3 h => ?_
  refine spec_l1In_w hb3 hS fun H hS => ?_
  try simp only [W]
  refine seq_n hK2 ?_
  refine w_ret ?_
  refine fin_r1 hK0 rfl ?_
  try obtain rfl := Option.some.inj h
  exact hP _ hS
theorem spec_GoodCourt_w {a0 : Court} {r : (Bool)} (h : spec_GoodCourt a0 = some r) {F : List It} {H : Heap} (hS : Own H (F)) {P : AV → Heap → Prop} (hP : ∀ H', Own H' (F) → P (.bool r) H') : ACall C 87 [.agg [.int .i64 a0.Now, .fz (a0.Cases.map e_Case), .fz (a0.Line.map e_Slip)]] H P := by
  refine acall_of gC (res := [.tmp 2]) (n := 125) rfl rfl rfl rfl fun K0 hK0 => ?_
  simp only [W, Nat.reduceSub, Nat.reduceAdd, List.replicate]
  unfold spec_GoodCourt at h
  refine w_seq fun K1 hK1 => ?_
  refine w_reg gC ?_
  try simp only [W, Nat.reduceAdd]
  refine w_box hS rfl rfl rfl rfl fun ip2 wp2 H hS => ?_
  try simp only [W]
  refine seq_n hK1 ?_
  refine w_seq fun K4 hK4 => ?_
  refine w_seq fun K5 hK5 => ?_
  refine w_reg gC ?_
  try simp only [W, EE, Nat.reduceAdd, Nat.reduceBEq, hS.var 0 rfl]
  refine seq_n hK5 ?_
  obtain ⟨y7, hw8, g14⟩ := Option.bind_eq_some_iff.1 h
  refine w_join gC (fun s H => y7 = LR.next () ∧ s = (u :: .ptr ip2 wp2 0 0 :: u :: u :: u :: u :: u :: u :: u :: u :: u :: u :: u :: u :: u :: u :: u :: u :: u :: u :: u :: u :: u :: u :: u :: u :: u :: u :: u :: u :: u :: u :: u :: u :: u :: u :: u :: u :: u :: u :: u :: u :: u :: u :: u :: u :: u :: u :: u :: u :: u :: u :: u :: u :: u :: u :: u :: u :: u :: u :: u :: u :: u :: u :: u :: u :: u :: u :: u :: u :: u :: u :: u :: u :: u :: u :: u :: u :: u :: u :: u :: u :: u :: u :: u :: u :: u :: u :: u :: u :: u :: u :: u :: u :: u :: u :: u :: u :: u :: u :: u :: u :: u :: u :: u :: u :: u :: u :: u :: u :: u :: u :: u :: u :: u :: u :: u :: u :: u :: u :: u :: u :: u :: u :: u :: []) ∧ Own H (⟨.ptr ip2 wp2 0 0, 3, [.agg [.int .i64 a0.Now, .fz (a0.Cases.map e_Case), .fz (a0.Line.map e_Slip)]]⟩ :: F)) (fun K9 hK9 => ?_) (fun s H hq => ?_)
  · refine w_blk fun K10 hK10 => ?_
    refine w_loop gC hw8 (fun x s H => s = (u :: .ptr ip2 wp2 0 0 :: u :: u :: u :: u :: u :: u :: .fz (a0.Cases.map e_Case) :: .int .i64 (a0.Cases.length : Int) :: .int .i64 x :: u :: u :: u :: u :: u :: u :: u :: u :: u :: u :: u :: u :: u :: u :: u :: u :: u :: u :: u :: u :: u :: u :: u :: u :: u :: u :: u :: u :: u :: u :: u :: u :: u :: u :: u :: u :: u :: u :: u :: u :: u :: u :: u :: u :: u :: u :: u :: u :: u :: u :: u :: u :: u :: u :: u :: u :: u :: u :: u :: u :: u :: u :: u :: u :: u :: u :: u :: u :: u :: u :: u :: u :: u :: u :: u :: u :: u :: u :: u :: u :: u :: u :: u :: u :: u :: u :: u :: u :: u :: u :: u :: u :: u :: u :: u :: u :: u :: u :: u :: u :: u :: u :: u :: u :: u :: u :: u :: u :: u :: u :: u :: u :: u :: u :: []) ∧ Own H (⟨.ptr ip2 wp2 0 0, 3, [.agg [.int .i64 a0.Now, .fz (a0.Cases.map e_Case), .fz (a0.Line.map e_Slip)]]⟩ :: F)) ⟨rfl, hS⟩ (fun x6 y13 s H h hd12 hi K11 hK11 => ?_)
    skip
    try dsimp only at hi
    obtain ⟨rfl, hS⟩ := hi
    simp only [spec_GoodCourt_l0] at h
    refine w_seq fun K15 hK15 => ?_
    refine w_reg gC ?_
    try simp only [W, EE, Nat.reduceAdd]
    refine seq_n hK15 ?_
    refine w_seq fun K16 hK16 => ?_
    refine w_if ?_
    simp only [W]
    refine w_cnd h (fun hc h => ?_) (fun hc h => ?_)
    · refine w_skip ?_
      refine seq_n hK16 ?_
      refine w_seq fun K17 hK17 => ?_
      refine w_blk fun K18 hK18 => ?_
      refine w_seq fun K19 hK19 => ?_
      refine w_reg gC ?_
      try simp only [W, EE, Nat.reduceAdd]
      refine w_fz rfl rfl rfl (fun _ => rfl) h fun b20 hb20 h => ?_
      try simp only [W, EE, EN, reduceIte, Nat.reduceAdd, Nat.reduceLeDiff]
      refine w_alloc hS rfl rfl fun ip21 wp21 H hS => ?_
      try simp only [W]
      refine w_stv (a := .agg [.int .i64 b20.End, .bool b20.Asks, .int .i64 b20.Final, .int .i64 b20.Said]) (y' := .agg [.int .i64 b20.End, .bool b20.Asks, .int .i64 b20.Final, .int .i64 b20.Said]) 0 hS rfl rfl rfl rfl rfl rfl rfl rfl fun H hS => ?_
      try simp only [W]
      refine seq_n hK19 ?_
      refine w_seq fun K23 hK23 => ?_
      obtain ⟨y25, h, g26⟩ := Option.bind_eq_some_iff.1 h
      refine w_join gC (fun s H => ∃ x24 : Bool, y25 = (x24) ∧ s = (u :: .ptr ip2 wp2 0 0 :: u :: u :: u :: u :: u :: u :: .fz (a0.Cases.map e_Case) :: .int .i64 (a0.Cases.length : Int) :: .int .i64 x6 :: u :: u :: u :: u :: u :: u :: u :: u :: u :: u :: u :: u :: u :: u :: u :: u :: u :: u :: u :: u :: u :: u :: u :: u :: u :: u :: u :: u :: u :: u :: u :: u :: u :: u :: u :: u :: u :: u :: u :: u :: u :: u :: .bool x24 :: u :: u :: u :: u :: u :: u :: u :: u :: u :: u :: u :: u :: u :: u :: u :: u :: u :: u :: u :: u :: u :: u :: u :: u :: u :: u :: u :: u :: u :: u :: u :: u :: u :: u :: u :: u :: u :: u :: u :: u :: u :: u :: u :: u :: u :: u :: u :: u :: u :: u :: u :: u :: u :: u :: u :: u :: u :: u :: u :: u :: u :: u :: u :: u :: u :: u :: u :: u :: u :: u :: u :: []) ∧ Own H (⟨.ptr ip2 wp2 0 0, 3, [.agg [.int .i64 a0.Now, .fz (a0.Cases.map e_Case), .fz (a0.Line.map e_Slip)]]⟩ :: F)) (fun K27 hK27 => ?_) (fun s H hq => ?_)
      · refine w_seq fun K28 hK28 => ?_
        refine w_reg gC ?_
        try simp only [W, EE, Nat.reduceAdd, Nat.reduceBEq, hS.var 0 rfl]
        refine w_call h fun b29 hb29 h => ?_
        refine spec_l1In_w hb29 hS fun H hS => ?_
        try simp only [W]
        refine w_grdT h (fun hc h => ?_) (fun hc h => ?_)
        · try simp only [W, hc]
          refine seq_n hK28 ?_
          refine w_killE (s' := (u :: .ptr ip2 wp2 0 0 :: u :: u :: u :: u :: u :: u :: .fz (a0.Cases.map e_Case) :: .int .i64 (a0.Cases.length : Int) :: .int .i64 x6 :: u :: u :: u :: u :: u :: u :: u :: u :: u :: u :: u :: u :: u :: u :: u :: u :: u :: u :: u :: u :: u :: u :: u :: u :: u :: u :: u :: u :: u :: u :: u :: u :: u :: u :: u :: u :: u :: u :: u :: u :: u :: u :: .bool true :: u :: u :: u :: u :: u :: u :: u :: u :: u :: u :: u :: u :: u :: u :: u :: u :: u :: u :: u :: u :: u :: u :: u :: u :: u :: u :: u :: u :: u :: u :: u :: u :: u :: u :: u :: u :: u :: u :: u :: u :: u :: u :: u :: u :: u :: u :: u :: u :: u :: u :: u :: u :: u :: u :: u :: u :: u :: u :: u :: u :: u :: u :: u :: u :: u :: u :: u :: u :: u :: u :: u :: [])) rfl ?_
          exact cut_n hK27 ⟨_, (Option.some.inj h).symm, rfl, (hS.sel 2 [1] (by decide))⟩
        · try simp only [W, EE, Nat.reduceAdd, Nat.reduceBEq, hS.var 0 rfl, hc]
          refine w_call h fun b30 hb30 h => ?_
          refine spec_l16Verdict_w hb30 hS fun H hS => ?_
          try simp only [W, reduceIte, Bool.false_eq_true]
          refine w_grdT h (fun hc h => ?_) (fun hc h => ?_)
          · try simp only [W, hc]
            refine seq_n hK28 ?_
            refine w_killE (s' := (u :: .ptr ip2 wp2 0 0 :: u :: u :: u :: u :: u :: u :: .fz (a0.Cases.map e_Case) :: .int .i64 (a0.Cases.length : Int) :: .int .i64 x6 :: u :: u :: u :: u :: u :: u :: u :: u :: u :: u :: u :: u :: u :: u :: u :: u :: u :: u :: u :: u :: u :: u :: u :: u :: u :: u :: u :: u :: u :: u :: u :: u :: u :: u :: u :: u :: u :: u :: u :: u :: u :: u :: .bool true :: u :: u :: u :: u :: u :: u :: u :: u :: u :: u :: u :: u :: u :: u :: u :: u :: u :: u :: u :: u :: u :: u :: u :: u :: u :: u :: u :: u :: u :: u :: u :: u :: u :: u :: u :: u :: u :: u :: u :: u :: u :: u :: u :: u :: u :: u :: u :: u :: u :: u :: u :: u :: u :: u :: u :: u :: u :: u :: u :: u :: u :: u :: u :: u :: u :: u :: u :: u :: u :: u :: u :: [])) rfl ?_
            exact cut_n hK27 ⟨_, (Option.some.inj h).symm, rfl, (hS.sel 2 [1] (by decide))⟩
          · try simp only [W, EE, Nat.reduceAdd, Nat.reduceBEq, hS.var 0 rfl, hc]
            refine w_call h fun b31 hb31 h => ?_
            refine spec_l16Verdict_w hb31 hS fun H hS => ?_
            try simp only [W, reduceIte, Bool.false_eq_true]
            refine w_grdT h (fun hc h => ?_) (fun hc h => ?_)
            · try simp only [W, hc]
              refine seq_n hK28 ?_
              refine w_killE (s' := (u :: .ptr ip2 wp2 0 0 :: u :: u :: u :: u :: u :: u :: .fz (a0.Cases.map e_Case) :: .int .i64 (a0.Cases.length : Int) :: .int .i64 x6 :: u :: u :: u :: u :: u :: u :: u :: u :: u :: u :: u :: u :: u :: u :: u :: u :: u :: u :: u :: u :: u :: u :: u :: u :: u :: u :: u :: u :: u :: u :: u :: u :: u :: u :: u :: u :: u :: u :: u :: u :: u :: u :: .bool true :: u :: u :: u :: u :: u :: u :: u :: u :: u :: u :: u :: u :: u :: u :: u :: u :: u :: u :: u :: u :: u :: u :: u :: u :: u :: u :: u :: u :: u :: u :: u :: u :: u :: u :: u :: u :: u :: u :: u :: u :: u :: u :: u :: u :: u :: u :: u :: u :: u :: u :: u :: u :: u :: u :: u :: u :: u :: u :: u :: u :: u :: u :: u :: u :: u :: u :: u :: u :: u :: u :: u :: [])) rfl ?_
              exact cut_n hK27 ⟨_, (Option.some.inj h).symm, rfl, (hS.sel 2 [1] (by decide))⟩
            · try simp only [W, EE, Nat.reduceAdd, Nat.reduceBEq, hS.var 0 rfl, hc]
              refine w_grdT h (fun hc h => ?_) (fun hc h => ?_)
              · try simp only [W, EE, reduceIte, Nat.reduceAdd, Nat.reduceBEq, Bool.false_eq_true, hS.var 0 rfl, hc]
                refine w_grdT h (fun hc h => ?_) (fun hc h => ?_)
                · try simp only [W, hc]
                  refine seq_n hK28 ?_
                  refine w_killE (s' := (u :: .ptr ip2 wp2 0 0 :: u :: u :: u :: u :: u :: u :: .fz (a0.Cases.map e_Case) :: .int .i64 (a0.Cases.length : Int) :: .int .i64 x6 :: u :: u :: u :: u :: u :: u :: u :: u :: u :: u :: u :: u :: u :: u :: u :: u :: u :: u :: u :: u :: u :: u :: u :: u :: u :: u :: u :: u :: u :: u :: u :: u :: u :: u :: u :: u :: u :: u :: u :: u :: u :: u :: .bool true :: u :: u :: u :: u :: u :: u :: u :: u :: u :: u :: u :: u :: u :: u :: u :: u :: u :: u :: u :: u :: u :: u :: u :: u :: u :: u :: u :: u :: u :: u :: u :: u :: u :: u :: u :: u :: u :: u :: u :: u :: u :: u :: u :: u :: u :: u :: u :: u :: u :: u :: u :: u :: u :: u :: u :: u :: u :: u :: u :: u :: u :: u :: u :: u :: u :: u :: u :: u :: u :: u :: u :: [])) rfl ?_
                  exact cut_n hK27 ⟨_, (Option.some.inj h).symm, rfl, (hS.sel 2 [1] (by decide))⟩
                · try simp only [W, EE, Nat.reduceAdd, Nat.reduceBEq, hS.var 0 rfl, hc]
                  refine w_grdT h (fun hc h => ?_) (fun hc h => ?_)
                  · try simp only [W, EE, reduceIte, Nat.reduceAdd, Nat.reduceBEq, Bool.false_eq_true, hS.var 0 rfl, hS.var 1 rfl, hc]
                    refine seq_n hK28 ?_
                    refine w_killE (s' := (u :: .ptr ip2 wp2 0 0 :: u :: u :: u :: u :: u :: u :: .fz (a0.Cases.map e_Case) :: .int .i64 (a0.Cases.length : Int) :: .int .i64 x6 :: u :: u :: u :: u :: u :: u :: u :: u :: u :: u :: u :: u :: u :: u :: u :: u :: u :: u :: u :: u :: u :: u :: u :: u :: u :: u :: u :: u :: u :: u :: u :: u :: u :: u :: u :: u :: u :: u :: u :: u :: u :: u :: .bool (decide (b20.End < a0.Now)) :: u :: u :: u :: u :: u :: u :: u :: u :: u :: u :: u :: u :: u :: u :: u :: u :: u :: u :: u :: u :: u :: u :: u :: u :: u :: u :: u :: u :: u :: u :: u :: u :: u :: u :: u :: u :: u :: u :: u :: u :: u :: u :: u :: u :: u :: u :: u :: u :: u :: u :: u :: u :: u :: u :: u :: u :: u :: u :: u :: u :: u :: u :: u :: u :: u :: u :: u :: u :: u :: u :: u :: [])) rfl ?_
                    exact cut_n hK27 ⟨_, (Option.some.inj h).symm, rfl, (hS.sel 2 [1] (by decide))⟩
                  · try simp only [W, reduceIte, Bool.false_eq_true, hc]
                    refine seq_n hK28 ?_
                    refine w_killE (s' := (u :: .ptr ip2 wp2 0 0 :: u :: u :: u :: u :: u :: u :: .fz (a0.Cases.map e_Case) :: .int .i64 (a0.Cases.length : Int) :: .int .i64 x6 :: u :: u :: u :: u :: u :: u :: u :: u :: u :: u :: u :: u :: u :: u :: u :: u :: u :: u :: u :: u :: u :: u :: u :: u :: u :: u :: u :: u :: u :: u :: u :: u :: u :: u :: u :: u :: u :: u :: u :: u :: u :: u :: .bool false :: u :: u :: u :: u :: u :: u :: u :: u :: u :: u :: u :: u :: u :: u :: u :: u :: u :: u :: u :: u :: u :: u :: u :: u :: u :: u :: u :: u :: u :: u :: u :: u :: u :: u :: u :: u :: u :: u :: u :: u :: u :: u :: u :: u :: u :: u :: u :: u :: u :: u :: u :: u :: u :: u :: u :: u :: u :: u :: u :: u :: u :: u :: u :: u :: u :: u :: u :: u :: u :: u :: u :: [])) rfl ?_
                    exact cut_n hK27 ⟨_, (Option.some.inj h).symm, rfl, (hS.sel 2 [1] (by decide))⟩
              · try simp only [W, EE, reduceIte, Nat.reduceAdd, Nat.reduceBEq, Bool.false_eq_true, hS.var 0 rfl, hc]
                refine w_grdT h (fun hc h => ?_) (fun hc h => ?_)
                · try simp only [W, EE, reduceIte, Nat.reduceAdd, Nat.reduceBEq, Bool.false_eq_true, hS.var 0 rfl, hS.var 1 rfl, hc]
                  refine seq_n hK28 ?_
                  refine w_killE (s' := (u :: .ptr ip2 wp2 0 0 :: u :: u :: u :: u :: u :: u :: .fz (a0.Cases.map e_Case) :: .int .i64 (a0.Cases.length : Int) :: .int .i64 x6 :: u :: u :: u :: u :: u :: u :: u :: u :: u :: u :: u :: u :: u :: u :: u :: u :: u :: u :: u :: u :: u :: u :: u :: u :: u :: u :: u :: u :: u :: u :: u :: u :: u :: u :: u :: u :: u :: u :: u :: u :: u :: u :: .bool (decide (b20.End < a0.Now)) :: u :: u :: u :: u :: u :: u :: u :: u :: u :: u :: u :: u :: u :: u :: u :: u :: u :: u :: u :: u :: u :: u :: u :: u :: u :: u :: u :: u :: u :: u :: u :: u :: u :: u :: u :: u :: u :: u :: u :: u :: u :: u :: u :: u :: u :: u :: u :: u :: u :: u :: u :: u :: u :: u :: u :: u :: u :: u :: u :: u :: u :: u :: u :: u :: u :: u :: u :: u :: u :: u :: u :: [])) rfl ?_
                  exact cut_n hK27 ⟨_, (Option.some.inj h).symm, rfl, (hS.sel 2 [1] (by decide))⟩
                · try simp only [W, reduceIte, Bool.false_eq_true, hc]
                  refine seq_n hK28 ?_
                  refine w_killE (s' := (u :: .ptr ip2 wp2 0 0 :: u :: u :: u :: u :: u :: u :: .fz (a0.Cases.map e_Case) :: .int .i64 (a0.Cases.length : Int) :: .int .i64 x6 :: u :: u :: u :: u :: u :: u :: u :: u :: u :: u :: u :: u :: u :: u :: u :: u :: u :: u :: u :: u :: u :: u :: u :: u :: u :: u :: u :: u :: u :: u :: u :: u :: u :: u :: u :: u :: u :: u :: u :: u :: u :: u :: .bool false :: u :: u :: u :: u :: u :: u :: u :: u :: u :: u :: u :: u :: u :: u :: u :: u :: u :: u :: u :: u :: u :: u :: u :: u :: u :: u :: u :: u :: u :: u :: u :: u :: u :: u :: u :: u :: u :: u :: u :: u :: u :: u :: u :: u :: u :: u :: u :: u :: u :: u :: u :: u :: u :: u :: u :: u :: u :: u :: u :: u :: u :: u :: u :: u :: u :: u :: u :: u :: u :: u :: u :: [])) rfl ?_
                  exact cut_n hK27 ⟨_, (Option.some.inj h).symm, rfl, (hS.sel 2 [1] (by decide))⟩
      · obtain ⟨x24, ey, rfl, hS⟩ := hq; obtain rfl := ey.symm
        replace h := g26
        try dsimp only at h
        refine seq_n hK23 ?_
        refine w_if ?_
        simp only [W]
        refine w_cnd h (fun hc h => ?_) (fun hc h => ?_)
        · refine w_seq fun K32 hK32 => ?_
          refine w_reg gC ?_
          try simp only [W, Nat.reduceAdd]
          refine seq_n hK32 ?_
          refine w_ret ?_
          refine blk_r hK18 ?_
          refine seq_r hK17 ?_
          try obtain rfl := Option.some.inj h
          obtain rfl := hd12 _ rfl
          have h : (some (LR.done false) : Option (LR Unit (Bool))) = some (LR.done false) := rfl
          refine lp_r hK11 ?_
          refine blk_r hK10 ?_
          try obtain rfl := Option.some.inj h
          obtain rfl := Option.some.inj g14
          have h : (some false : Option (Bool)) = some false := rfl
          refine cut_r hK9 ?_
          refine seq_r hK4 ?_
          refine fin_r1 hK0 rfl ?_
          try obtain rfl := Option.some.inj h
          exact hP _ (hS.sel 1 [] (by decide))
        · refine w_skip ?_
          refine blk_n0 hK18 ?_
          refine seq_n hK17 ?_
          refine w_reg gC ?_
          try simp only [W, EE, Nat.reduceAdd]
          exact lp_n hK11 h ⟨rfl, hS⟩
    · refine w_exit ?_
      refine seq_x hK16 ?_
      try obtain rfl := Option.some.inj h
      obtain rfl := hd12 _ rfl
      have h : (some (LR.next ()) : Option (LR Unit (Bool))) = some (LR.next ()) := rfl
      refine lp_x hK11 ?_
      refine blk_e hK10 ?_
      exact cut_n hK9 ⟨(Option.some.inj h).symm, rfl, hS⟩
  · obtain ⟨rfl, rfl, hS⟩ := hq
    replace h := g14
    try dsimp only at h
    refine seq_n hK4 ?_
    refine w_seq fun K39 hK39 => ?_
    refine w_seq fun K40 hK40 => ?_
    refine w_reg gC ?_
    try simp only [W, EE, Nat.reduceAdd, Nat.reduceBEq, hS.var 0 rfl]
    refine seq_n hK40 ?_
    obtain ⟨y42, hw43, g49⟩ := Option.bind_eq_some_iff.1 h
    refine w_join gC (fun s H => y42 = LR.next () ∧ s = (u :: .ptr ip2 wp2 0 0 :: u :: u :: u :: u :: u :: u :: u :: u :: u :: u :: u :: u :: u :: u :: u :: u :: u :: u :: u :: u :: u :: u :: u :: u :: u :: u :: u :: u :: u :: u :: u :: u :: u :: u :: u :: u :: u :: u :: u :: u :: u :: u :: u :: u :: u :: u :: u :: u :: u :: u :: u :: u :: u :: u :: u :: u :: u :: u :: u :: u :: u :: u :: u :: u :: u :: u :: u :: u :: u :: u :: u :: u :: u :: u :: u :: u :: u :: u :: u :: u :: u :: u :: u :: u :: u :: u :: u :: u :: u :: u :: u :: u :: u :: u :: u :: u :: u :: u :: u :: u :: u :: u :: u :: u :: u :: u :: u :: u :: u :: u :: u :: u :: u :: u :: u :: u :: u :: u :: u :: u :: u :: u :: u :: []) ∧ Own H (⟨.ptr ip2 wp2 0 0, 3, [.agg [.int .i64 a0.Now, .fz (a0.Cases.map e_Case), .fz (a0.Line.map e_Slip)]]⟩ :: F)) (fun K44 hK44 => ?_) (fun s H hq => ?_)
    · refine w_blk fun K45 hK45 => ?_
      refine w_loop gC hw43 (fun x s H => s = (u :: .ptr ip2 wp2 0 0 :: u :: u :: u :: u :: u :: u :: u :: u :: u :: u :: u :: u :: u :: u :: u :: u :: u :: u :: u :: u :: u :: u :: u :: u :: u :: u :: u :: u :: u :: u :: u :: u :: u :: u :: u :: u :: u :: u :: u :: u :: u :: u :: u :: u :: u :: u :: u :: u :: u :: u :: u :: u :: u :: u :: .fz (a0.Line.map e_Slip) :: .int .i64 (a0.Line.length : Int) :: .int .i64 x :: u :: u :: u :: u :: u :: u :: u :: u :: u :: u :: u :: u :: u :: u :: u :: u :: u :: u :: u :: u :: u :: u :: u :: u :: u :: u :: u :: u :: u :: u :: u :: u :: u :: u :: u :: u :: u :: u :: u :: u :: u :: u :: u :: u :: u :: u :: u :: u :: u :: u :: u :: u :: u :: u :: u :: u :: u :: u :: u :: u :: u :: u :: u :: u :: u :: u :: []) ∧ Own H (⟨.ptr ip2 wp2 0 0, 3, [.agg [.int .i64 a0.Now, .fz (a0.Cases.map e_Case), .fz (a0.Line.map e_Slip)]]⟩ :: F)) ⟨rfl, hS⟩ (fun x41 y48 s H h hd47 hi K46 hK46 => ?_)
      skip
      try dsimp only at hi
      obtain ⟨rfl, hS⟩ := hi
      simp only [spec_GoodCourt_l1] at h
      refine w_seq fun K50 hK50 => ?_
      refine w_reg gC ?_
      try simp only [W, EE, Nat.reduceAdd]
      refine seq_n hK50 ?_
      refine w_seq fun K51 hK51 => ?_
      refine w_if ?_
      simp only [W]
      refine w_cnd h (fun hc h => ?_) (fun hc h => ?_)
      · refine w_skip ?_
        refine seq_n hK51 ?_
        refine w_seq fun K52 hK52 => ?_
        refine w_blk fun K53 hK53 => ?_
        refine w_seq fun K54 hK54 => ?_
        refine w_reg gC ?_
        try simp only [W, EE, Nat.reduceAdd]
        refine w_fz rfl rfl rfl (fun _ => rfl) h fun b55 hb55 h => ?_
        try simp only [W, EE, EN, reduceIte, Nat.reduceAdd, Nat.reduceLeDiff]
        refine w_alloc hS rfl rfl fun ip56 wp56 H hS => ?_
        try simp only [W]
        refine w_stv (a := .agg [.int .i64 b55.Kind, .int .i64 b55.Case, .int .i64 b55.What]) (y' := .agg [.int .i64 b55.Kind, .int .i64 b55.Case, .int .i64 b55.What]) 0 hS rfl rfl rfl rfl rfl rfl rfl rfl fun H hS => ?_
        try simp only [W]
        refine seq_n hK54 ?_
        refine w_seq fun K58 hK58 => ?_
        refine w_seq fun K59 hK59 => ?_
        obtain ⟨y61, h, g62⟩ := Option.bind_eq_some_iff.1 h
        refine w_join gC (fun s H => ∃ x60 : Bool, y61 = (x60) ∧ s = (u :: .ptr ip2 wp2 0 0 :: u :: u :: u :: u :: .ptr ip56 wp56 0 0 :: u :: u :: u :: u :: u :: u :: u :: u :: u :: u :: u :: u :: u :: u :: u :: u :: u :: u :: u :: u :: u :: u :: u :: u :: u :: u :: u :: u :: u :: u :: u :: u :: u :: u :: u :: u :: u :: u :: u :: u :: u :: u :: u :: u :: u :: u :: u :: u :: u :: .fz (a0.Line.map e_Slip) :: .int .i64 (a0.Line.length : Int) :: .int .i64 x41 :: u :: u :: u :: u :: u :: u :: u :: u :: u :: u :: u :: u :: u :: u :: u :: u :: u :: u :: u :: .bool x60 :: u :: u :: u :: u :: u :: u :: u :: u :: u :: u :: u :: u :: u :: u :: u :: u :: u :: u :: u :: u :: u :: u :: u :: u :: u :: u :: u :: u :: u :: u :: u :: u :: u :: u :: u :: u :: u :: u :: u :: u :: u :: u :: u :: u :: u :: u :: []) ∧ Own H (⟨.ptr ip2 wp2 0 0, 3, [.agg [.int .i64 a0.Now, .fz (a0.Cases.map e_Case), .fz (a0.Line.map e_Slip)]]⟩ :: ⟨.ptr ip56 wp56 0 0, 3, [.agg [.int .i64 b55.Kind, .int .i64 b55.Case, .int .i64 b55.What]]⟩ :: F)) (fun K63 hK63 => ?_) (fun s H hq => ?_)
        · refine w_seq fun K64 hK64 => ?_
          refine w_reg gC ?_
          try simp only [W, EE, Nat.reduceAdd, Nat.reduceBEq, hS.var 0 rfl]
          refine w_grdT h (fun hc h => ?_) (fun hc h => ?_)
          · try simp only [W, hc]
            refine seq_n hK64 ?_
            refine w_killE (s' := (u :: .ptr ip2 wp2 0 0 :: u :: u :: u :: u :: .ptr ip56 wp56 0 0 :: u :: u :: u :: u :: u :: u :: u :: u :: u :: u :: u :: u :: u :: u :: u :: u :: u :: u :: u :: u :: u :: u :: u :: u :: u :: u :: u :: u :: u :: u :: u :: u :: u :: u :: u :: u :: u :: u :: u :: u :: u :: u :: u :: u :: u :: u :: u :: u :: u :: .fz (a0.Line.map e_Slip) :: .int .i64 (a0.Line.length : Int) :: .int .i64 x41 :: u :: u :: u :: u :: u :: u :: u :: u :: u :: u :: u :: u :: u :: u :: u :: u :: u :: u :: u :: .bool true :: u :: u :: u :: u :: u :: u :: u :: u :: u :: u :: u :: u :: u :: u :: u :: u :: u :: u :: u :: u :: u :: u :: u :: u :: u :: u :: u :: u :: u :: u :: u :: u :: u :: u :: u :: u :: u :: u :: u :: u :: u :: u :: u :: u :: u :: u :: [])) rfl ?_
            exact cut_n hK63 ⟨_, (Option.some.inj h).symm, rfl, (hS.sel 2 [1, 0] (by decide))⟩
          · try simp only [W, EE, reduceIte, Nat.reduceAdd, Nat.reduceBEq, Bool.false_eq_true, hS.var 1 rfl, hS.var 0 rfl, hc]
            refine w_grdT h (fun hc h => ?_) (fun hc h => ?_)
            · try simp only [W, hc]
              refine seq_n hK64 ?_
              refine w_killE (s' := (u :: .ptr ip2 wp2 0 0 :: u :: u :: u :: u :: .ptr ip56 wp56 0 0 :: u :: u :: u :: u :: u :: u :: u :: u :: u :: u :: u :: u :: u :: u :: u :: u :: u :: u :: u :: u :: u :: u :: u :: u :: u :: u :: u :: u :: u :: u :: u :: u :: u :: u :: u :: u :: u :: u :: u :: u :: u :: u :: u :: u :: u :: u :: u :: u :: u :: .fz (a0.Line.map e_Slip) :: .int .i64 (a0.Line.length : Int) :: .int .i64 x41 :: u :: u :: u :: u :: u :: u :: u :: u :: u :: u :: u :: u :: u :: u :: u :: u :: u :: u :: u :: .bool true :: u :: u :: u :: u :: u :: u :: u :: u :: u :: u :: u :: u :: u :: u :: u :: u :: u :: u :: u :: u :: u :: u :: u :: u :: u :: u :: u :: u :: u :: u :: u :: u :: u :: u :: u :: u :: u :: u :: u :: u :: u :: u :: u :: u :: u :: u :: [])) rfl ?_
              exact cut_n hK63 ⟨_, (Option.some.inj h).symm, rfl, (hS.sel 2 [1, 0] (by decide))⟩
            · try simp only [W, EE, Nat.reduceAdd, Nat.reduceBEq, hS.var 0 rfl, hc]
              refine w_call h fun b65 hb65 h => ?_
              refine spec_l1In_w hb65 hS fun H hS => ?_
              try simp only [W, reduceIte, Bool.false_eq_true]
              refine seq_n hK64 ?_
              refine w_killE (s' := (u :: .ptr ip2 wp2 0 0 :: u :: u :: u :: u :: .ptr ip56 wp56 0 0 :: u :: u :: u :: u :: u :: u :: u :: u :: u :: u :: u :: u :: u :: u :: u :: u :: u :: u :: u :: u :: u :: u :: u :: u :: u :: u :: u :: u :: u :: u :: u :: u :: u :: u :: u :: u :: u :: u :: u :: u :: u :: u :: u :: u :: u :: u :: u :: u :: u :: .fz (a0.Line.map e_Slip) :: .int .i64 (a0.Line.length : Int) :: .int .i64 x41 :: u :: u :: u :: u :: u :: u :: u :: u :: u :: u :: u :: u :: u :: u :: u :: u :: u :: u :: u :: .bool (!b65) :: u :: u :: u :: u :: u :: u :: u :: u :: u :: u :: u :: u :: u :: u :: u :: u :: u :: u :: u :: u :: u :: u :: u :: u :: u :: u :: u :: u :: u :: u :: u :: u :: u :: u :: u :: u :: u :: u :: u :: u :: u :: u :: u :: u :: u :: u :: [])) rfl ?_
              exact cut_n hK63 ⟨_, (Option.some.inj h).symm, rfl, (hS.sel 2 [1, 0] (by decide))⟩
        · obtain ⟨x60, ey, rfl, hS⟩ := hq; obtain rfl := ey.symm
          replace h := g62
          try dsimp only at h
          refine seq_n hK59 ?_
          refine w_if ?_
          simp only [W]
          refine w_cnd h (fun hc h => ?_) (fun hc h => ?_)
          · refine w_seq fun K66 hK66 => ?_
            refine w_reg gC ?_
            try simp only [W, Nat.reduceAdd]
            refine seq_n hK66 ?_
            refine w_ret ?_
            refine seq_r hK58 ?_
            refine blk_r hK53 ?_
            refine seq_r hK52 ?_
            try obtain rfl := Option.some.inj h
            obtain rfl := hd47 _ rfl
            have h : (some (LR.done false) : Option (LR Unit (Bool))) = some (LR.done false) := rfl
            refine lp_r hK46 ?_
            refine blk_r hK45 ?_
            try obtain rfl := Option.some.inj h
            obtain rfl := Option.some.inj g49
            have h : (some false : Option (Bool)) = some false := rfl
            refine cut_r hK44 ?_
            refine seq_r hK39 ?_
            refine fin_r1 hK0 rfl ?_
            try obtain rfl := Option.some.inj h
            exact hP _ (hS.sel 2 [] (by decide))
          · refine w_skip ?_
            refine seq_n hK58 ?_
            refine w_seq fun K71 hK71 => ?_
            obtain ⟨y73, h, g74⟩ := Option.bind_eq_some_iff.1 h
            refine w_join gC (fun s H => ∃ x72 : Bool, y73 = (x72) ∧ s = (u :: .ptr ip2 wp2 0 0 :: u :: u :: u :: u :: u :: u :: u :: u :: u :: u :: u :: u :: u :: u :: u :: u :: u :: u :: u :: u :: u :: u :: u :: u :: u :: u :: u :: u :: u :: u :: u :: u :: u :: u :: u :: u :: u :: u :: u :: u :: u :: u :: u :: u :: u :: u :: u :: u :: u :: u :: u :: u :: u :: u :: .fz (a0.Line.map e_Slip) :: .int .i64 (a0.Line.length : Int) :: .int .i64 x41 :: u :: u :: u :: u :: u :: u :: u :: u :: u :: u :: u :: u :: u :: u :: u :: u :: u :: u :: u :: u :: u :: u :: u :: u :: u :: u :: u :: u :: u :: u :: u :: u :: u :: u :: u :: u :: u :: u :: u :: u :: u :: u :: u :: u :: u :: u :: u :: u :: u :: .bool x72 :: u :: u :: u :: u :: u :: u :: u :: u :: u :: u :: u :: u :: u :: u :: u :: u :: []) ∧ Own H (⟨.ptr ip2 wp2 0 0, 3, [.agg [.int .i64 a0.Now, .fz (a0.Cases.map e_Case), .fz (a0.Line.map e_Slip)]]⟩ :: F)) (fun K75 hK75 => ?_) (fun s H hq => ?_)
            · refine w_seq fun K76 hK76 => ?_
              refine w_draw0 gC (by kernel_rfl) ?_
              try simp only [W, EE, Nat.reduceAdd, Nat.reduceBEq, hS.var 1 rfl]
              refine w_grdT h (fun hc h => ?_) (fun hc h => ?_)
              · try simp only [W, EE, Nat.reduceAdd, Nat.reduceBEq, hS.var 1 rfl, hc]
                refine w_grdT h (fun hc h => ?_) (fun hc h => ?_)
                · try simp only [W, reduceIte, hc]
                  refine seq_n hK76 ?_
                  refine w_killE (s' := (u :: .ptr ip2 wp2 0 0 :: u :: u :: u :: u :: u :: u :: u :: u :: u :: u :: u :: u :: u :: u :: u :: u :: u :: u :: u :: u :: u :: u :: u :: u :: u :: u :: u :: u :: u :: u :: u :: u :: u :: u :: u :: u :: u :: u :: u :: u :: u :: u :: u :: u :: u :: u :: u :: u :: u :: u :: u :: u :: u :: u :: .fz (a0.Line.map e_Slip) :: .int .i64 (a0.Line.length : Int) :: .int .i64 x41 :: u :: u :: u :: u :: u :: u :: u :: u :: u :: u :: u :: u :: u :: u :: u :: u :: u :: u :: u :: u :: u :: u :: u :: u :: u :: u :: u :: u :: u :: u :: u :: u :: u :: u :: u :: u :: u :: u :: u :: u :: u :: u :: u :: u :: u :: u :: u :: u :: u :: .bool true :: u :: u :: u :: u :: u :: u :: u :: u :: u :: u :: u :: u :: u :: u :: u :: u :: [])) rfl ?_
                  exact cut_n hK75 ⟨_, (Option.some.inj h).symm, rfl, (hS.sel 2 [0] (by decide))⟩
                · try simp only [W, EE, Nat.reduceAdd, Nat.reduceBEq, hS.var 0 rfl, hS.var 1 rfl, hc]
                  refine w_fz rfl rfl rfl (fun _ => rfl) h fun b77 hb77 h => ?_
                  try simp only [W, EE, EN, reduceIte, Nat.reduceAdd, Nat.reduceBEq, Bool.false_eq_true]
                  refine w_grdT h (fun hc h => ?_) (fun hc h => ?_)
                  · try simp only [W, hc]
                    refine seq_n hK76 ?_
                    refine w_killE (s' := (u :: .ptr ip2 wp2 0 0 :: u :: u :: u :: u :: u :: u :: u :: u :: u :: u :: u :: u :: u :: u :: u :: u :: u :: u :: u :: u :: u :: u :: u :: u :: u :: u :: u :: u :: u :: u :: u :: u :: u :: u :: u :: u :: u :: u :: u :: u :: u :: u :: u :: u :: u :: u :: u :: u :: u :: u :: u :: u :: u :: u :: .fz (a0.Line.map e_Slip) :: .int .i64 (a0.Line.length : Int) :: .int .i64 x41 :: u :: u :: u :: u :: u :: u :: u :: u :: u :: u :: u :: u :: u :: u :: u :: u :: u :: u :: u :: u :: u :: u :: u :: u :: u :: u :: u :: u :: u :: u :: u :: u :: u :: u :: u :: u :: u :: u :: u :: u :: u :: u :: u :: u :: u :: u :: u :: u :: u :: .bool true :: u :: u :: u :: u :: u :: u :: u :: u :: u :: u :: u :: u :: u :: u :: u :: u :: [])) rfl ?_
                    exact cut_n hK75 ⟨_, (Option.some.inj h).symm, rfl, (hS.sel 2 [0] (by decide))⟩
                  · try simp only [W, EE, Nat.reduceAdd, Nat.reduceBEq, hS.var 1 rfl, hc]
                    refine w_grdT h (fun hc h => ?_) (fun hc h => ?_)
                    · try simp only [W, EE, reduceIte, Nat.reduceAdd, Nat.reduceBEq, Bool.false_eq_true, hS.var 1 rfl, hc]
                      refine seq_n hK76 ?_
                      refine w_killE (s' := (u :: .ptr ip2 wp2 0 0 :: u :: u :: u :: u :: u :: u :: u :: u :: u :: u :: u :: u :: u :: u :: u :: u :: u :: u :: u :: u :: u :: u :: u :: u :: u :: u :: u :: u :: u :: u :: u :: u :: u :: u :: u :: u :: u :: u :: u :: u :: u :: u :: u :: u :: u :: u :: u :: u :: u :: u :: u :: u :: u :: u :: .fz (a0.Line.map e_Slip) :: .int .i64 (a0.Line.length : Int) :: .int .i64 x41 :: u :: u :: u :: u :: u :: u :: u :: u :: u :: u :: u :: u :: u :: u :: u :: u :: u :: u :: u :: u :: u :: u :: u :: u :: u :: u :: u :: u :: u :: u :: u :: u :: u :: u :: u :: u :: u :: u :: u :: u :: u :: u :: u :: u :: u :: u :: u :: u :: u :: .bool (b55.What != 0) :: u :: u :: u :: u :: u :: u :: u :: u :: u :: u :: u :: u :: u :: u :: u :: u :: [])) rfl ?_
                      exact cut_n hK75 ⟨_, (Option.some.inj h).symm, rfl, (hS.sel 2 [0] (by decide))⟩
                    · try simp only [W, reduceIte, Bool.false_eq_true, hc]
                      refine seq_n hK76 ?_
                      refine w_killE (s' := (u :: .ptr ip2 wp2 0 0 :: u :: u :: u :: u :: u :: u :: u :: u :: u :: u :: u :: u :: u :: u :: u :: u :: u :: u :: u :: u :: u :: u :: u :: u :: u :: u :: u :: u :: u :: u :: u :: u :: u :: u :: u :: u :: u :: u :: u :: u :: u :: u :: u :: u :: u :: u :: u :: u :: u :: u :: u :: u :: u :: u :: .fz (a0.Line.map e_Slip) :: .int .i64 (a0.Line.length : Int) :: .int .i64 x41 :: u :: u :: u :: u :: u :: u :: u :: u :: u :: u :: u :: u :: u :: u :: u :: u :: u :: u :: u :: u :: u :: u :: u :: u :: u :: u :: u :: u :: u :: u :: u :: u :: u :: u :: u :: u :: u :: u :: u :: u :: u :: u :: u :: u :: u :: u :: u :: u :: u :: .bool false :: u :: u :: u :: u :: u :: u :: u :: u :: u :: u :: u :: u :: u :: u :: u :: u :: [])) rfl ?_
                      exact cut_n hK75 ⟨_, (Option.some.inj h).symm, rfl, (hS.sel 2 [0] (by decide))⟩
              · try simp only [W, EE, Nat.reduceAdd, Nat.reduceBEq, hS.var 1 rfl, hc]
                refine w_grdT h (fun hc h => ?_) (fun hc h => ?_)
                · try simp only [W, EE, reduceIte, Nat.reduceAdd, Nat.reduceBEq, Bool.false_eq_true, hS.var 1 rfl, hc]
                  refine seq_n hK76 ?_
                  refine w_killE (s' := (u :: .ptr ip2 wp2 0 0 :: u :: u :: u :: u :: u :: u :: u :: u :: u :: u :: u :: u :: u :: u :: u :: u :: u :: u :: u :: u :: u :: u :: u :: u :: u :: u :: u :: u :: u :: u :: u :: u :: u :: u :: u :: u :: u :: u :: u :: u :: u :: u :: u :: u :: u :: u :: u :: u :: u :: u :: u :: u :: u :: u :: .fz (a0.Line.map e_Slip) :: .int .i64 (a0.Line.length : Int) :: .int .i64 x41 :: u :: u :: u :: u :: u :: u :: u :: u :: u :: u :: u :: u :: u :: u :: u :: u :: u :: u :: u :: u :: u :: u :: u :: u :: u :: u :: u :: u :: u :: u :: u :: u :: u :: u :: u :: u :: u :: u :: u :: u :: u :: u :: u :: u :: u :: u :: u :: u :: u :: .bool (b55.What != 0) :: u :: u :: u :: u :: u :: u :: u :: u :: u :: u :: u :: u :: u :: u :: u :: u :: [])) rfl ?_
                  exact cut_n hK75 ⟨_, (Option.some.inj h).symm, rfl, (hS.sel 2 [0] (by decide))⟩
                · try simp only [W, reduceIte, Bool.false_eq_true, hc]
                  refine seq_n hK76 ?_
                  refine w_killE (s' := (u :: .ptr ip2 wp2 0 0 :: u :: u :: u :: u :: u :: u :: u :: u :: u :: u :: u :: u :: u :: u :: u :: u :: u :: u :: u :: u :: u :: u :: u :: u :: u :: u :: u :: u :: u :: u :: u :: u :: u :: u :: u :: u :: u :: u :: u :: u :: u :: u :: u :: u :: u :: u :: u :: u :: u :: u :: u :: u :: u :: u :: .fz (a0.Line.map e_Slip) :: .int .i64 (a0.Line.length : Int) :: .int .i64 x41 :: u :: u :: u :: u :: u :: u :: u :: u :: u :: u :: u :: u :: u :: u :: u :: u :: u :: u :: u :: u :: u :: u :: u :: u :: u :: u :: u :: u :: u :: u :: u :: u :: u :: u :: u :: u :: u :: u :: u :: u :: u :: u :: u :: u :: u :: u :: u :: u :: u :: .bool false :: u :: u :: u :: u :: u :: u :: u :: u :: u :: u :: u :: u :: u :: u :: u :: u :: [])) rfl ?_
                  exact cut_n hK75 ⟨_, (Option.some.inj h).symm, rfl, (hS.sel 2 [0] (by decide))⟩
            · obtain ⟨x72, ey, rfl, hS⟩ := hq; obtain rfl := ey.symm
              replace h := g74
              try dsimp only at h
              refine seq_n hK71 ?_
              refine w_if ?_
              simp only [W]
              refine w_cnd h (fun hc h => ?_) (fun hc h => ?_)
              · refine w_seq fun K78 hK78 => ?_
                refine w_reg gC ?_
                try simp only [W, Nat.reduceAdd]
                refine seq_n hK78 ?_
                refine w_ret ?_
                refine blk_r hK53 ?_
                refine seq_r hK52 ?_
                try obtain rfl := Option.some.inj h
                obtain rfl := hd47 _ rfl
                have h : (some (LR.done false) : Option (LR Unit (Bool))) = some (LR.done false) := rfl
                refine lp_r hK46 ?_
                refine blk_r hK45 ?_
                try obtain rfl := Option.some.inj h
                obtain rfl := Option.some.inj g49
                have h : (some false : Option (Bool)) = some false := rfl
                refine cut_r hK44 ?_
                refine seq_r hK39 ?_
                refine fin_r1 hK0 rfl ?_
                try obtain rfl := Option.some.inj h
                exact hP _ (hS.sel 1 [] (by decide))
              · refine w_skip ?_
                refine blk_n0 hK53 ?_
                refine seq_n hK52 ?_
                refine w_reg gC ?_
                try simp only [W, EE, Nat.reduceAdd]
                exact lp_n hK46 h ⟨rfl, hS⟩
      · refine w_exit ?_
        refine seq_x hK51 ?_
        try obtain rfl := Option.some.inj h
        obtain rfl := hd47 _ rfl
        have h : (some (LR.next ()) : Option (LR Unit (Bool))) = some (LR.next ()) := rfl
        refine lp_x hK46 ?_
        refine blk_e hK45 ?_
        exact cut_n hK44 ⟨(Option.some.inj h).symm, rfl, hS⟩
    · obtain ⟨rfl, rfl, hS⟩ := hq
      replace h := g49
      try dsimp only at h
      refine seq_n hK39 ?_
      refine w_seq fun K85 hK85 => ?_
      refine w_reg gC ?_
      try simp only [W, EE, Nat.reduceAdd, Nat.reduceBEq, hS.var 0 rfl]
      refine w_grdT h (fun hc h => ?_) (fun hc h => ?_)
      · try simp only [W, EE, Nat.reduceAdd, Nat.reduceBEq, hS.var 0 rfl, hc]
        refine w_call h fun b86 hb86 h => ?_
        refine spec_l1In_w hb86 hS fun H hS => ?_
        try simp only [W, reduceIte]
        refine w_grdT h (fun hc h => ?_) (fun hc h => ?_)
        · try simp only [W, EE, reduceIte, Nat.reduceAdd, Nat.reduceBEq, hS.var 0 rfl, hc]
          refine seq_n hK85 ?_
          refine w_ret ?_
          refine fin_r1 hK0 rfl ?_
          try obtain rfl := Option.some.inj h
          exact hP _ (hS.sel 1 [] (by decide))
        · try simp only [W, hc]
          refine seq_n hK85 ?_
          refine w_ret ?_
          refine fin_r1 hK0 rfl ?_
          try obtain rfl := Option.some.inj h
          exact hP _ (hS.sel 1 [] (by decide))
      · try simp only [W, hc]
        refine seq_n hK85 ?_
        refine w_ret ?_
        refine fin_r1 hK0 rfl ?_
        try obtain rfl := Option.some.inj h
        exact hP _ (hS.sel 1 [] (by decide))
theorem spec_l16Own_w {a0 : Court} {r : (Court)} (h : spec_l16Own a0 = some r) {F : List It} {H : Heap} (hS : Own H (F)) {P : AV → Heap → Prop} (hP : ∀ v17 : AV, isSl v17 → ∀ v19 : AV, isSl v19 → ∀ H', Own H' (⟨v17, 4, r.Cases.map e_Case⟩ :: ⟨v19, 3, r.Line.map e_Slip⟩ :: F) → P (.agg [.int .i64 r.Now, v17, v19]) H') : ACall C 145 [.agg [.int .i64 a0.Now, .fz (a0.Cases.map e_Case), .fz (a0.Line.map e_Slip)]] H P := by
  refine acall_of gC (res := [.cell 2 68]) (n := 14) rfl rfl rfl rfl fun K0 hK0 => ?_
  simp only [W, Nat.reduceSub, Nat.reduceAdd, List.replicate]
  unfold spec_l16Own at h
  refine w_seq fun K1 hK1 => ?_
  refine w_reg gC ?_
  try simp only [W, Nat.reduceAdd]
  refine w_box hS rfl rfl rfl rfl fun ip2 wp2 H hS => ?_
  try simp only [W]
  refine w_alloc hS rfl rfl fun ip4 wp4 H hS => ?_
  try simp only [W]
  refine seq_n hK1 ?_
  refine w_seq fun K6 hK6 => ?_
  refine w_reg gC ?_
  try simp only [W, Nat.reduceAdd]
  refine w_lit0 rfl rfl ?_
  try simp only [W, EE, Nat.reduceAdd, Nat.reduceBEq, hS.var 1 rfl]
  have hS := hS.e0_ 4
  refine w_appV (l := ([] : List Case)) (c := e_Case) 0 hS rfl isSl_e0 rfl rfl rfl rfl (fun _ => rfl) rfl h fun v9 H x8 qv9 hm h hS => ?_
  try simp only [W, EE, Nat.reduceAdd, Nat.reduceBEq, hS.var 2 rfl]
  refine w_stv (a := v9) (y' := .agg [.int .i64 a0.Now, v9, .fz (a0.Line.map e_Slip)]) 2 hS rfl rfl rfl rfl (by rw [qv9.cells]; rfl) qv9.stora (qv9.wr _ _ (by simp)) rfl fun H hS => ?_
  try simp only [W]
  refine seq_n hK6 ?_
  refine w_seq fun K11 hK11 => ?_
  refine w_reg gC ?_
  try simp only [W, Nat.reduceAdd]
  refine w_lit0 rfl rfl ?_
  try simp only [W, EE, Nat.reduceAdd, Nat.reduceBEq, hS.var 2 rfl]
  have hS := hS.e0_ 3
  refine w_appV (l := ([] : List Slip)) (c := e_Slip) 0 hS rfl isSl_e0 rfl rfl rfl rfl (fun _ => rfl) rfl h fun v14 H x13 qv14 hm h hS => ?_
  try simp only [W, EE, Nat.reduceAdd, Nat.reduceBEq, hS.var 3 rfl]
  refine w_stv (a := v14) (y' := .agg [.int .i64 a0.Now, v9, v14]) 3 hS rfl rfl rfl rfl (by rw [qv14.cells]; rfl) qv14.stora (qv14.wr _ _ (by simp)) rfl fun H hS => ?_
  try simp only [W]
  refine seq_n hK11 ?_
  refine w_seq fun K16 hK16 => ?_
  refine w_reg gC ?_
  try simp only [W, EE, reduceIte, Nat.reduceAdd, Nat.reduceLeDiff, hS.var 3 rfl]
  refine w_stv (a := .agg [.int .i64 a0.Now, v9, v14]) (y' := .agg [.int .i64 a0.Now, v9, v14]) 2 hS rfl rfl rfl rfl rfl (by simp only [storA, List.all_cons, List.all_nil, qv9.stor, qv14.stor]; rfl) rfl rfl fun H hS => ?_
  try simp only [W]
  refine seq_n hK16 ?_
  refine w_ret ?_
  refine fin_r hK0 (res_c rfl rfl (hS.var 2 rfl) rfl rfl) ?_
  try obtain rfl := Option.some.inj h
  exact hP _ qv9 _ qv14 _ (hS.sel 4 [1, 0] (by decide))
theorem spec_l16Open_w {a0 : Court} {r : (Int)} (h : spec_l16Open a0 = some r) {F : List It} {H : Heap} (hS : Own H (F)) {P : AV → Heap → Prop} (hP : ∀ H', Own H' (F) → P (.int .i64 r) H') : ACall C 194 [.agg [.int .i64 a0.Now, .fz (a0.Cases.map e_Case), .fz (a0.Line.map e_Slip)]] H P := by
  refine acall_of gC (res := [.tmp 2]) (n := 18) rfl rfl rfl rfl fun K0 hK0 => ?_
  simp only [W, Nat.reduceSub, Nat.reduceAdd, List.replicate]
  unfold spec_l16Open at h
  refine w_seq fun K1 hK1 => ?_
  refine w_reg gC ?_
  try simp only [W, Nat.reduceAdd]
  refine w_box hS rfl rfl rfl rfl fun ip2 wp2 H hS => ?_
  try simp only [W]
  refine seq_n hK1 ?_
  refine w_seq fun K4 hK4 => ?_
  refine w_seq fun K5 hK5 => ?_
  refine w_reg gC ?_
  try simp only [W, EE, Nat.reduceAdd, Nat.reduceBEq, hS.var 0 rfl]
  refine seq_n hK5 ?_
  obtain ⟨y7, hw8, g14⟩ := Option.bind_eq_some_iff.1 h
  refine w_join gC (fun s H => y7 = LR.next () ∧ s = [u, u, u, u, u, u, u, u, u, u, u, u, u, u, u, u, u, u] ∧ Own H (F)) (fun K9 hK9 => ?_) (fun s H hq => ?_)
  · refine w_blk fun K10 hK10 => ?_
    refine w_loop gC hw8 (fun x s H => s = [u, u, u, u, u, u, .fz (a0.Cases.map e_Case), .int .i64 (a0.Cases.length : Int), .int .i64 x, u, u, u, u, u, u, u, u, u] ∧ Own H (F)) ⟨rfl, (hS.sel 1 [] (by decide))⟩ (fun x6 y13 s H h hd12 hi K11 hK11 => ?_)
    skip
    try dsimp only at hi
    obtain ⟨rfl, hS⟩ := hi
    simp only [spec_l16Open_l0] at h
    refine w_seq fun K15 hK15 => ?_
    refine w_reg gC ?_
    try simp only [W, EE, Nat.reduceAdd]
    refine seq_n hK15 ?_
    refine w_seq fun K16 hK16 => ?_
    refine w_if ?_
    simp only [W]
    refine w_cnd h (fun hc h => ?_) (fun hc h => ?_)
    · refine w_skip ?_
      refine seq_n hK16 ?_
      refine w_seq fun K17 hK17 => ?_
      refine w_blk fun K18 hK18 => ?_
      refine w_seq fun K19 hK19 => ?_
      refine w_reg gC ?_
      try simp only [W, EE, Nat.reduceAdd]
      refine w_fz rfl rfl rfl (fun _ => rfl) h fun b20 hb20 h => ?_
      try simp only [W, EE, EN, reduceIte, Nat.reduceAdd, Nat.reduceLeDiff]
      refine w_alloc hS rfl rfl fun ip21 wp21 H hS => ?_
      try simp only [W]
      refine w_stv (a := .agg [.int .i64 b20.End, .bool b20.Asks, .int .i64 b20.Final, .int .i64 b20.Said]) (y' := .agg [.int .i64 b20.End, .bool b20.Asks, .int .i64 b20.Final, .int .i64 b20.Said]) 0 hS rfl rfl rfl rfl rfl rfl rfl rfl fun H hS => ?_
      try simp only [W]
      refine seq_n hK19 ?_
      refine w_seq fun K23 hK23 => ?_
      refine w_reg gC ?_
      try simp only [W, EE, Nat.reduceAdd, Nat.reduceBEq, hS.var 0 rfl]
      refine seq_n hK23 ?_
      refine w_if ?_
      simp only [W]
      refine w_cnd h (fun hc h => ?_) (fun hc h => ?_)
      · refine w_seq fun K24 hK24 => ?_
        refine w_reg gC ?_
        try simp only [W, Nat.reduceAdd]
        refine seq_n hK24 ?_
        refine w_ret ?_
        refine blk_r hK18 ?_
        refine seq_r hK17 ?_
        try obtain rfl := Option.some.inj h
        obtain rfl := hd12 _ rfl
        have h : (some (LR.done x6) : Option (LR Unit (Int))) = some (LR.done x6) := rfl
        refine lp_r hK11 ?_
        refine blk_r hK10 ?_
        try obtain rfl := Option.some.inj h
        obtain rfl := Option.some.inj g14
        have h : (some x6 : Option (Int)) = some x6 := rfl
        refine cut_r hK9 ?_
        refine seq_r hK4 ?_
        refine fin_r1 hK0 rfl ?_
        try obtain rfl := Option.some.inj h
        exact hP _ (hS.sel 1 [] (by decide))
      · refine w_skip ?_
        refine blk_n0 hK18 ?_
        refine seq_n hK17 ?_
        refine w_reg gC ?_
        try simp only [W, EE, Nat.reduceAdd]
        exact lp_n hK11 h ⟨rfl, (hS.sel 1 [] (by decide))⟩
    · refine w_exit ?_
      refine seq_x hK16 ?_
      try obtain rfl := Option.some.inj h
      obtain rfl := hd12 _ rfl
      have h : (some (LR.next ()) : Option (LR Unit (Int))) = some (LR.next ()) := rfl
      refine lp_x hK11 ?_
      refine blk_e hK10 ?_
      exact cut_n hK9 ⟨(Option.some.inj h).symm, rfl, hS⟩
  · obtain ⟨rfl, rfl, hS⟩ := hq
    replace h := g14
    try dsimp only at h
    refine seq_n hK4 ?_
    refine w_seq fun K31 hK31 => ?_
    refine w_reg gC ?_
    try simp only [W, Nat.reduceAdd]
    refine seq_n hK31 ?_
    refine w_ret ?_
    refine fin_r1 hK0 rfl ?_
    try obtain rfl := Option.some.inj h
    exact hP _ hS
theorem spec_l16Write_w {a0 : Court} {a1 : Slip} {m1 : AV} {m2 : AV} {r : (Court)} (h : spec_l16Write a0 a1 = some r) {F : List It} {H : Heap} (hS : Own H (⟨m1, 4, a0.Cases.map e_Case⟩ :: ⟨m2, 3, a0.Line.map e_Slip⟩ :: F)) (qm1 : isSl m1) (qm2 : isSl m2) {P : AV → Heap → Prop} (hP : ∀ v23 : AV, isSl v23 → ∀ v25 : AV, isSl v25 → ∀ H', Own H' (⟨v23, 4, r.Cases.map e_Case⟩ :: ⟨v25, 3, r.Line.map e_Slip⟩ :: F) → P (.agg [.int .i64 r.Now, v23, v25]) H') : ACall C 227 [.agg [.int .i64 a0.Now, m1, m2], .agg [.int .i64 a1.Kind, .int .i64 a1.Case, .int .i64 a1.What]] H P := by
  refine acall_of gC (res := [.cell 4 68]) (n := 16) rfl rfl rfl rfl fun K0 hK0 => ?_
  simp only [W, Nat.reduceSub, Nat.reduceAdd, List.replicate]
  unfold spec_l16Write at h
  refine w_seq fun K1 hK1 => ?_
  refine w_reg gC ?_
  try simp only [W, Nat.reduceAdd]
  refine w_box hS rfl rfl rfl (by simp only [W, storA, List.all_cons, List.all_nil, qm1.stor, qm2.stor]; rfl) fun ip2 wp2 H hS => ?_
  try simp only [W]
  refine w_box hS rfl rfl rfl rfl fun ip4 wp4 H hS => ?_
  try simp only [W]
  refine w_alloc hS rfl rfl fun ip6 wp6 H hS => ?_
  try simp only [W]
  refine seq_n hK1 ?_
  refine w_seq fun K8 hK8 => ?_
  refine w_seq fun K9 hK9 => ?_
  refine w_reg gC ?_
  try simp only [W, EE, Nat.reduceAdd, Nat.reduceBEq, hS.var 2 rfl]
  refine w_len 4 hS rfl qm2 rfl ?_
  try simp only [W, EE]
  refine seq_n hK9 ?_
  obtain ⟨y13, h, g14⟩ := Option.bind_eq_some_iff.1 h
  refine w_join gC (fun s H => ∃ x10 : List Slip, y13 = (x10) ∧ ∃ v11 : AV, isSl v11 ∧ s = [u, u, .ptr ip2 wp2 0 0, u, .ptr ip6 wp6 0 0, u, u, u, u, u, u, u, u, u, u, u] ∧ Own H (⟨m1, 4, a0.Cases.map e_Case⟩ :: ⟨v11, 3, x10.map e_Slip⟩ :: ⟨.ptr ip2 wp2 0 0, 3, [.agg [.int .i64 a0.Now, m1, v11]]⟩ :: ⟨.ptr ip6 wp6 0 0, 3, [.agg [.int .i64 0, .nil, .nil]]⟩ :: F)) (fun K15 hK15 => ?_) (fun s H hq => ?_)
  · refine w_seq fun K16 hK16 => ?_
    refine w_if ?_
    simp only [W]
    refine w_cnd h (fun hc h => ?_) (fun hc h => ?_)
    · refine w_reg gC ?_
      try simp only [W, EE, reduceIte, Nat.reduceAdd, Nat.reduceLeDiff, Nat.reduceBEq, hS.var 2 rfl, hS.var 1 rfl]
      refine w_lit (el := ([a1] : List Slip).map e_Slip) hS rfl rfl rfl rfl rfl rfl rfl fun v17 H qv17 hS => ?_
      try simp only [W, EE]
      refine w_appV (l := a0.Line) (c := e_Slip) 5 hS rfl qm2 rfl rfl rfl (hS.elems 0 rfl qv17) (fun _ => rfl) rfl h fun v20 H x19 qv20 hm h hS => ?_
      try simp only [W, EE, Nat.reduceAdd, Nat.reduceBEq, hS.var 3 rfl]
      refine w_stv (a := v20) (y' := .agg [.int .i64 a0.Now, m1, v20]) 3 hS rfl rfl rfl rfl (by rw [qv20.cells]; rfl) qv20.stora (qv20.wr _ _ (by simp)) rfl fun H hS => ?_
      try simp only [W]
      refine seq_n hK16 ?_
      refine w_kill ?_
      exact cut_n hK15 ⟨_, (Option.some.inj h).symm, _, qv20, rfl, (hS.sel 6 [4, 5, 3, 1] (by decide))⟩
    · refine w_skip ?_
      refine seq_n hK16 ?_
      refine w_kill ?_
      exact cut_n hK15 ⟨_, (Option.some.inj h).symm, _, qm2, rfl, (hS.sel 5 [3, 4, 2, 0] (by decide))⟩
  · obtain ⟨x10, ey, v11, qv11, rfl, hS⟩ := hq; obtain rfl := ey.symm
    replace h := g14
    try dsimp only at h
    refine seq_n hK8 ?_
    refine w_seq fun K22 hK22 => ?_
    refine w_reg gC ?_
    try simp only [W, EE, reduceIte, Nat.reduceAdd, Nat.reduceLeDiff, hS.var 2 rfl]
    refine w_stv (a := .agg [.int .i64 a0.Now, m1, v11]) (y' := .agg [.int .i64 a0.Now, m1, v11]) 3 hS rfl rfl rfl rfl rfl (by simp only [storA, List.all_cons, List.all_nil, qm1.stor, qv11.stor]; rfl) rfl rfl fun H hS => ?_
    try simp only [W]
    refine seq_n hK22 ?_
    refine w_ret ?_
    refine fin_r hK0 (res_c rfl rfl (hS.var 3 rfl) rfl rfl) ?_
    try obtain rfl := Option.some.inj h
    exact hP _ qm1 _ qv11 _ (hS.sel 4 [0, 1] (by decide))
theorem spec_l16Take_w {a0 : Court} {a1 : Slip} {m1 : AV} {m2 : AV} {r : (Court)} (h : spec_l16Take a0 a1 = some r) {F : List It} {H : Heap} (hS : Own H (⟨m1, 4, a0.Cases.map e_Case⟩ :: ⟨m2, 3, a0.Line.map e_Slip⟩ :: F)) (qm1 : isSl m1) (qm2 : isSl m2) {P : AV → Heap → Prop} (hP : ∀ v41 : AV, isSl v41 → ∀ v43 : AV, isSl v43 → ∀ H', Own H' (⟨v41, 4, r.Cases.map e_Case⟩ :: ⟨v43, 3, r.Line.map e_Slip⟩ :: F) → P (.agg [.int .i64 r.Now, v41, v43]) H') : ACall C 228 [.agg [.int .i64 a0.Now, m1, m2], .agg [.int .i64 a1.Kind, .int .i64 a1.Case, .int .i64 a1.What]] H P := by
  refine acall_of gC (res := [.cell 4 68]) (n := 48) rfl rfl rfl rfl fun K0 hK0 => ?_
  simp only [W, Nat.reduceSub, Nat.reduceAdd, List.replicate]
  unfold spec_l16Take at h
  refine w_seq fun K1 hK1 => ?_
  refine w_reg gC ?_
  try simp only [W, Nat.reduceAdd]
  refine w_box hS rfl rfl rfl (by simp only [W, storA, List.all_cons, List.all_nil, qm1.stor, qm2.stor]; rfl) fun ip2 wp2 H hS => ?_
  try simp only [W]
  refine w_box hS rfl rfl rfl rfl fun ip4 wp4 H hS => ?_
  try simp only [W]
  refine w_alloc hS rfl rfl fun ip6 wp6 H hS => ?_
  try simp only [W]
  refine seq_n hK1 ?_
  refine w_seq fun K8 hK8 => ?_
  refine w_seq fun K9 hK9 => ?_
  refine w_reg gC ?_
  try simp only [W, EE, Nat.reduceAdd, Nat.reduceBEq, hS.var 1 rfl]
  refine seq_n hK9 ?_
  refine w_if ?_
  simp only [W]
  refine w_cnd h (fun hc h => ?_) (fun hc h => ?_)
  · refine w_seq fun K10 hK10 => ?_
    refine w_reg gC ?_
    try simp only [W, EE, Nat.reduceAdd, Nat.reduceBEq, hS.var 2 rfl, hS.var 1 rfl]
    refine w_ow 3 hS rfl rfl rfl rfl rfl h (fun b11 in12 wn12 on12 hb11 h en12 => ?_) qm1.ne
    obtain ⟨kn12, hbn12, hen12⟩ := hS.elem 3 rfl en12 hb11
    try simp only [W, EE, Nat.reduceAdd, Nat.reduceBEq, hbn12]
    refine w_ste (a := .int .i64 a1.What) (y' := (⟨b11.End, b11.Asks, a1.What, b11.Said⟩ : Case)) 3 hS rfl en12 hb11 rfl rfl rfl rfl rfl rfl rfl fun H hS => ?_
    try simp only [W]
    refine seq_n hK10 ?_
    refine w_seq fun K13 hK13 => ?_
    refine w_reg gC ?_
    try simp only [W, EE, reduceIte, Nat.reduceAdd, Nat.reduceLeDiff, hS.var 2 rfl]
    refine w_stv (a := .agg [.int .i64 a0.Now, m1, m2]) (y' := .agg [.int .i64 a0.Now, m1, m2]) 0 hS rfl rfl rfl rfl rfl (by simp only [storA, List.all_cons, List.all_nil, qm1.stor, qm2.stor]; rfl) rfl rfl fun H hS => ?_
    try simp only [W]
    refine seq_n hK13 ?_
    refine w_ret ?_
    refine seq_r hK8 ?_
    refine fin_r hK0 (res_c rfl rfl (hS.var 0 rfl) rfl rfl) ?_
    try obtain rfl := Option.some.inj h
    exact hP _ qm1 _ qm2 _ (hS.sel 5 [3, 4] (by decide))
  · refine w_skip ?_
    refine seq_n hK8 ?_
    refine w_seq fun K14 hK14 => ?_
    refine w_seq fun K15 hK15 => ?_
    refine w_reg gC ?_
    try simp only [W, EE, Nat.reduceAdd, Nat.reduceBEq, hS.var 2 rfl, hS.var 1 rfl]
    refine w_ow 3 hS rfl rfl rfl rfl rfl h (fun b16 in17 wn17 on17 hb16 h en17 => ?_) qm1.ne
    obtain ⟨kn17, hbn17, hen17⟩ := hS.elem 3 rfl en17 hb16
    try simp only [W, EE, EN, Nat.reduceAdd, Nat.reduceBEq, hbn17, hen17]
    refine seq_n hK15 ?_
    obtain ⟨y19, h, g20⟩ := Option.bind_eq_some_iff.1 h
    refine w_join gC (fun s H => ∃ x18 : List Case, y19 = (x18) ∧ s = [u, u, .ptr ip2 wp2 0 0, .ptr ip4 wp4 0 0, .ptr ip6 wp6 0 0, u, u, u, u, u, u, u, u, u, u, u, u, u, u, u, u, u, u, u, u, u, u, u, u, u, u, u, u, u, u, u, u, u, u, u, u, u, u, u, u, u, u, u] ∧ Own H (⟨m1, 4, x18.map e_Case⟩ :: ⟨m2, 3, a0.Line.map e_Slip⟩ :: ⟨.ptr ip2 wp2 0 0, 3, [.agg [.int .i64 a0.Now, m1, m2]]⟩ :: ⟨.ptr ip4 wp4 0 0, 3, [.agg [.int .i64 a1.Kind, .int .i64 a1.Case, .int .i64 a1.What]]⟩ :: ⟨.ptr ip6 wp6 0 0, 3, [.agg [.int .i64 0, .nil, .nil]]⟩ :: F)) (fun K21 hK21 => ?_) (fun s H hq => ?_)
    · refine w_seq fun K22 hK22 => ?_
      refine w_if ?_
      simp only [W]
      refine w_cnd h (fun hc h => ?_) (fun hc h => ?_)
      · refine w_seq fun K23 hK23 => ?_
        refine w_reg gC ?_
        try simp only [W, Nat.reduceAdd]
        refine seq_n hK23 ?_
        refine w_seq fun K24 hK24 => ?_
        refine w_seq fun K25 hK25 => ?_
        refine w_reg gC ?_
        try simp only [W, EE, Nat.reduceAdd, Nat.reduceBEq, hS.var 1 rfl]
        refine seq_n hK25 ?_
        obtain ⟨y27, h, g28⟩ := Option.bind_eq_some_iff.1 h
        refine w_join gC (fun s H => ∃ x26 : Int, y27 = (x26) ∧ s = [u, u, .ptr ip2 wp2 0 0, .ptr ip4 wp4 0 0, .ptr ip6 wp6 0 0, .int .i64 x26, u, u, u, u, u, u, u, u, u, u, u, u, u, u, u, u, u, u, u, u, u, u, u, u, u, u, u, u, u, u, u, u, u, u, u, u, u, u, u, u, u, u] ∧ Own H (⟨m1, 4, a0.Cases.map e_Case⟩ :: ⟨m2, 3, a0.Line.map e_Slip⟩ :: ⟨.ptr ip2 wp2 0 0, 3, [.agg [.int .i64 a0.Now, m1, m2]]⟩ :: ⟨.ptr ip4 wp4 0 0, 3, [.agg [.int .i64 a1.Kind, .int .i64 a1.Case, .int .i64 a1.What]]⟩ :: ⟨.ptr ip6 wp6 0 0, 3, [.agg [.int .i64 0, .nil, .nil]]⟩ :: F)) (fun K29 hK29 => ?_) (fun s H hq => ?_)
        · refine w_seq fun K30 hK30 => ?_
          refine w_if ?_
          simp only [W]
          refine w_cnd h (fun hc h => ?_) (fun hc h => ?_)
          · refine w_reg gC ?_
            try simp only [W, Nat.reduceAdd]
            refine seq_n hK30 ?_
            refine w_kill ?_
            exact cut_n hK29 ⟨_, (Option.some.inj h).symm, rfl, (hS.sel 5 [3, 4, 2, 1, 0] (by decide))⟩
          · refine w_skip ?_
            refine seq_n hK30 ?_
            refine w_kill ?_
            exact cut_n hK29 ⟨_, (Option.some.inj h).symm, rfl, (hS.sel 5 [3, 4, 2, 1, 0] (by decide))⟩
        · obtain ⟨x26, ey, rfl, hS⟩ := hq; obtain rfl := ey.symm
          replace h := g28
          try dsimp only at h
          refine seq_n hK24 ?_
          refine w_reg gC ?_
          try simp only [W, EE, Nat.reduceAdd, Nat.reduceBEq, hS.var 2 rfl, hS.var 3 rfl]
          refine w_ow 0 hS rfl rfl rfl rfl rfl h (fun b31 in32 wn32 on32 hb31 h en32 => ?_) qm1.ne
          obtain ⟨kn32, hbn32, hen32⟩ := hS.elem 0 rfl en32 hb31
          try simp only [W, EE, Nat.reduceAdd, Nat.reduceBEq, hbn32]
          refine w_ste (a := .int .i64 x26) (y' := (⟨b31.End, b31.Asks, b31.Final, x26⟩ : Case)) 0 hS rfl en32 hb31 rfl rfl rfl rfl rfl rfl rfl fun H hS => ?_
          try simp only [W]
          refine seq_n hK22 ?_
          refine w_kill ?_
          exact cut_n hK21 ⟨_, (Option.some.inj h).symm, rfl, hS⟩
      · refine w_skip ?_
        refine seq_n hK22 ?_
        refine w_kill ?_
        exact cut_n hK21 ⟨_, (Option.some.inj h).symm, rfl, (hS.sel 5 [3, 4, 2, 1, 0] (by decide))⟩
    · obtain ⟨x18, ey, rfl, hS⟩ := hq; obtain rfl := ey.symm
      replace h := g20
      try dsimp only at h
      refine seq_n hK14 ?_
      refine w_seq fun K33 hK33 => ?_
      refine w_drawL gC [(11, []), (12, [])] (by kernel_rfl) rfl (by kernel_rfl) ?_
      try simp only [W, EE, reduceIte, Nat.reduceAdd, Nat.reduceLeDiff, Nat.reduceBEq, hS.var 2 rfl, hS.var 3 rfl, tabAt, qAt, Nat.reduceEqDiff]
      refine w_ow 0 hS rfl rfl rfl rfl rfl h (fun b34 in35 wn35 on35 hb34 h en35 => ?_) qm1.ne
      obtain ⟨kn35, hbn35, hen35⟩ := hS.elem 0 rfl en35 hb34
      try simp only [W, EE, EN, Nat.reduceAdd, Nat.reduceBEq, hbn35, hen35]
      refine w_bld rfl rfl rfl rfl rfl ?_
      try simp only [W]
      refine w_call h fun b36 hb36 h => ?_
      refine spec_l16Write_w hb36 hS qm1 qm2 fun v37 qv37 v39 qv39 H hS => ?_
      try simp only [W]
      refine w_stv (a := .agg [.int .i64 b36.Now, v37, v39]) (y' := .agg [.int .i64 b36.Now, v37, v39]) 4 hS rfl rfl rfl rfl rfl (by simp only [storA, List.all_cons, List.all_nil, qv37.stor, qv39.stor]; rfl) rfl rfl fun H hS => ?_
      try simp only [W]
      refine seq_n hK33 ?_
      refine w_ret ?_
      refine fin_r hK0 (res_c rfl rfl (hS.var 4 rfl) rfl rfl) ?_
      try obtain rfl := Option.some.inj h
      exact hP _ qv37 _ qv39 _ (hS.sel 5 [0, 1] (by decide))
theorem spec_l16Step_w {a0 : Court} {a1 : CourtStep} {m1 : AV} {m2 : AV} {r : (Court × Bool)} (h : spec_l16Step a0 a1 = some r) {F : List It} {H : Heap} (hS : Own H (⟨m1, 4, a0.Cases.map e_Case⟩ :: ⟨m2, 3, a0.Line.map e_Slip⟩ :: F)) (qm1 : isSl m1) (qm2 : isSl m2) {P : AV → Heap → Prop} (hP : ∀ v153 : AV, isSl v153 → ∀ v155 : AV, isSl v155 → ∀ H', Own H' (⟨v153, 4, r.1.Cases.map e_Case⟩ :: ⟨v155, 3, r.1.Line.map e_Slip⟩ :: F) → P (.tup [.agg [.int .i64 r.1.Now, v153, v155], .bool r.2]) H') : ACall C 144 [.agg [.int .i64 a0.Now, m1, m2], .agg [.int .i64 a1.Kind, .int .i64 a1.K]] H P := by
  refine acall_of gC (res := [.cell 4 68, .tmp 5]) (n := 173) rfl rfl rfl rfl fun K0 hK0 => ?_
  simp only [W, Nat.reduceSub, Nat.reduceAdd, List.replicate]
  unfold spec_l16Step at h
  refine w_seq fun K1 hK1 => ?_
  refine w_reg gC ?_
  try simp only [W, Nat.reduceAdd]
  refine w_box hS rfl rfl rfl (by simp only [W, storA, List.all_cons, List.all_nil, qm1.stor, qm2.stor]; rfl) fun ip2 wp2 H hS => ?_
  try simp only [W]
  refine w_box hS rfl rfl rfl rfl fun ip4 wp4 H hS => ?_
  try simp only [W]
  refine w_alloc hS rfl rfl fun ip6 wp6 H hS => ?_
  try simp only [W]
  refine seq_n hK1 ?_
  refine w_seq fun K8 hK8 => ?_
  refine w_seq fun K9 hK9 => ?_
  refine w_reg gC ?_
  try simp only [W, EE, Nat.reduceAdd, Nat.reduceBEq, hS.var 1 rfl]
  refine seq_n hK9 ?_
  refine w_blk fun K10 hK10 => ?_
  refine w_seq fun K11 hK11 => ?_
  refine w_reg gC ?_
  try simp only [W, EE, Nat.reduceAdd]
  refine seq_n hK11 ?_
  refine w_if ?_
  simp only [W]
  refine w_cnd h (fun hc h => ?_) (fun hc h => ?_)
  · refine w_seq fun K12 hK12 => ?_
    refine w_seq fun K13 hK13 => ?_
    obtain ⟨y15, h, g16⟩ := Option.bind_eq_some_iff.1 h
    refine w_join gC (fun s H => ∃ x14 : Bool, y15 = (x14) ∧ s = (u :: u :: .ptr ip2 wp2 0 0 :: u :: .ptr ip6 wp6 0 0 :: u :: u :: u :: u :: u :: u :: u :: u :: u :: u :: u :: u :: u :: u :: u :: u :: u :: .bool x14 :: u :: u :: u :: u :: u :: u :: u :: u :: u :: u :: u :: u :: u :: u :: u :: u :: u :: u :: u :: u :: u :: u :: u :: u :: u :: u :: u :: u :: u :: u :: u :: u :: u :: u :: u :: u :: u :: u :: u :: u :: u :: u :: u :: u :: u :: u :: u :: u :: u :: u :: u :: u :: u :: u :: u :: u :: u :: u :: u :: u :: u :: u :: u :: u :: u :: u :: u :: u :: u :: u :: u :: u :: u :: u :: u :: u :: u :: u :: u :: u :: u :: u :: u :: u :: u :: u :: u :: u :: u :: u :: u :: u :: u :: u :: u :: u :: u :: u :: u :: u :: u :: u :: u :: u :: u :: u :: u :: u :: u :: u :: u :: u :: u :: u :: u :: u :: u :: u :: u :: u :: u :: u :: u :: u :: u :: u :: u :: u :: u :: u :: u :: u :: u :: u :: u :: u :: u :: u :: u :: u :: u :: u :: u :: u :: u :: u :: u :: u :: u :: u :: []) ∧ Own H (⟨m1, 4, a0.Cases.map e_Case⟩ :: ⟨m2, 3, a0.Line.map e_Slip⟩ :: ⟨.ptr ip2 wp2 0 0, 3, [.agg [.int .i64 a0.Now, m1, m2]]⟩ :: ⟨.ptr ip6 wp6 0 0, 3, [.agg [.int .i64 0, .nil, .nil]]⟩ :: F)) (fun K17 hK17 => ?_) (fun s H hq => ?_)
    · refine w_seq fun K18 hK18 => ?_
      refine w_reg gC ?_
      try simp only [W, EE, Nat.reduceAdd, Nat.reduceBEq, hS.var 1 rfl]
      refine w_grdT h (fun hc h => ?_) (fun hc h => ?_)
      · try simp only [W, hc]
        refine seq_n hK18 ?_
        refine w_killE (s' := (u :: u :: .ptr ip2 wp2 0 0 :: u :: .ptr ip6 wp6 0 0 :: u :: u :: u :: u :: u :: u :: u :: u :: u :: u :: u :: u :: u :: u :: u :: u :: u :: .bool true :: u :: u :: u :: u :: u :: u :: u :: u :: u :: u :: u :: u :: u :: u :: u :: u :: u :: u :: u :: u :: u :: u :: u :: u :: u :: u :: u :: u :: u :: u :: u :: u :: u :: u :: u :: u :: u :: u :: u :: u :: u :: u :: u :: u :: u :: u :: u :: u :: u :: u :: u :: u :: u :: u :: u :: u :: u :: u :: u :: u :: u :: u :: u :: u :: u :: u :: u :: u :: u :: u :: u :: u :: u :: u :: u :: u :: u :: u :: u :: u :: u :: u :: u :: u :: u :: u :: u :: u :: u :: u :: u :: u :: u :: u :: u :: u :: u :: u :: u :: u :: u :: u :: u :: u :: u :: u :: u :: u :: u :: u :: u :: u :: u :: u :: u :: u :: u :: u :: u :: u :: u :: u :: u :: u :: u :: u :: u :: u :: u :: u :: u :: u :: u :: u :: u :: u :: u :: u :: u :: u :: u :: u :: u :: u :: u :: u :: u :: u :: u :: u :: [])) rfl ?_
        exact cut_n hK17 ⟨_, (Option.some.inj h).symm, rfl, (hS.sel 5 [3, 4, 2, 0] (by decide))⟩
      · try simp only [W, EE, reduceIte, Nat.reduceAdd, Nat.reduceBEq, Bool.false_eq_true, hS.var 2 rfl, hc]
        refine seq_n hK18 ?_
        refine w_killE (s' := (u :: u :: .ptr ip2 wp2 0 0 :: u :: .ptr ip6 wp6 0 0 :: u :: u :: u :: u :: u :: u :: u :: u :: u :: u :: u :: u :: u :: u :: u :: u :: u :: .bool (a0.Now == 200) :: u :: u :: u :: u :: u :: u :: u :: u :: u :: u :: u :: u :: u :: u :: u :: u :: u :: u :: u :: u :: u :: u :: u :: u :: u :: u :: u :: u :: u :: u :: u :: u :: u :: u :: u :: u :: u :: u :: u :: u :: u :: u :: u :: u :: u :: u :: u :: u :: u :: u :: u :: u :: u :: u :: u :: u :: u :: u :: u :: u :: u :: u :: u :: u :: u :: u :: u :: u :: u :: u :: u :: u :: u :: u :: u :: u :: u :: u :: u :: u :: u :: u :: u :: u :: u :: u :: u :: u :: u :: u :: u :: u :: u :: u :: u :: u :: u :: u :: u :: u :: u :: u :: u :: u :: u :: u :: u :: u :: u :: u :: u :: u :: u :: u :: u :: u :: u :: u :: u :: u :: u :: u :: u :: u :: u :: u :: u :: u :: u :: u :: u :: u :: u :: u :: u :: u :: u :: u :: u :: u :: u :: u :: u :: u :: u :: u :: u :: u :: u :: u :: [])) rfl ?_
        exact cut_n hK17 ⟨_, (Option.some.inj h).symm, rfl, (hS.sel 5 [3, 4, 2, 0] (by decide))⟩
    · obtain ⟨x14, ey, rfl, hS⟩ := hq; obtain rfl := ey.symm
      replace h := g16
      try dsimp only at h
      refine seq_n hK13 ?_
      refine w_if ?_
      simp only [W]
      refine w_cnd h (fun hc h => ?_) (fun hc h => ?_)
      · refine w_seq fun K19 hK19 => ?_
        refine w_reg gC ?_
        try simp only [W, EE, reduceIte, Nat.reduceAdd, Nat.reduceLeDiff, hS.var 2 rfl]
        refine w_stv (a := .agg [.int .i64 a0.Now, m1, m2]) (y' := .agg [.int .i64 a0.Now, m1, m2]) 3 hS rfl rfl rfl rfl rfl (by simp only [storA, List.all_cons, List.all_nil, qm1.stor, qm2.stor]; rfl) rfl rfl fun H hS => ?_
        try simp only [W]
        refine seq_n hK19 ?_
        refine w_ret ?_
        refine seq_r hK12 ?_
        refine blk_r hK10 ?_
        refine seq_r hK8 ?_
        refine fin_r hK0 (res_c rfl rfl (hS.var 3 rfl) rfl (res_tc rfl rfl)) ?_
        try obtain rfl := Option.some.inj h
        exact hP _ qm1 _ qm2 _ (hS.sel 4 [0, 1] (by decide))
      · refine w_skip ?_
        refine seq_n hK12 ?_
        refine w_seq fun K20 hK20 => ?_
        refine w_reg gC ?_
        try simp only [W, EE, Nat.reduceAdd, Nat.reduceBEq, hS.var 2 rfl]
        refine w_stv (a := .int .i64 (IntKind.i64.wrap (a0.Now + 1))) (y' := .agg [.int .i64 (IntKind.i64.wrap (a0.Now + 1)), m1, m2]) 2 hS rfl rfl rfl rfl rfl rfl rfl rfl fun H hS => ?_
        try simp only [W]
        refine seq_n hK20 ?_
        refine w_seq fun K21 hK21 => ?_
        refine w_seq fun K22 hK22 => ?_
        refine w_reg gC ?_
        try simp only [W, EE, Nat.reduceAdd, Nat.reduceBEq, hS.var 2 rfl]
        refine w_len 0 hS rfl qm1 rfl ?_
        try simp only [W]
        refine seq_n hK22 ?_
        obtain ⟨y26, hw27, g33⟩ := Option.bind_eq_some_iff.1 h
        refine w_join gC (fun s H => ∃ x25 : List Case, y26 = (x25) ∧ s = (u :: u :: .ptr ip2 wp2 0 0 :: u :: .ptr ip6 wp6 0 0 :: u :: u :: u :: u :: u :: u :: u :: u :: u :: u :: u :: u :: u :: u :: u :: u :: u :: u :: u :: u :: u :: u :: u :: u :: u :: u :: u :: u :: u :: u :: u :: u :: u :: u :: u :: u :: u :: u :: u :: u :: u :: u :: u :: u :: u :: u :: u :: u :: u :: u :: u :: u :: u :: u :: u :: u :: u :: u :: u :: u :: u :: u :: u :: u :: u :: u :: u :: u :: u :: u :: u :: u :: u :: u :: u :: u :: u :: u :: u :: u :: u :: u :: u :: u :: u :: u :: u :: u :: u :: u :: u :: u :: u :: u :: u :: u :: u :: u :: u :: u :: u :: u :: u :: u :: u :: u :: u :: u :: u :: u :: u :: u :: u :: u :: u :: u :: u :: u :: u :: u :: u :: u :: u :: u :: u :: u :: u :: u :: u :: u :: u :: u :: u :: u :: u :: u :: u :: u :: u :: u :: u :: u :: u :: u :: u :: u :: u :: u :: u :: u :: u :: u :: u :: u :: u :: u :: u :: u :: u :: u :: u :: u :: u :: u :: u :: u :: u :: u :: []) ∧ Own H (⟨m1, 4, x25.map e_Case⟩ :: ⟨m2, 3, a0.Line.map e_Slip⟩ :: ⟨.ptr ip2 wp2 0 0, 3, [.agg [.int .i64 (IntKind.i64.wrap (a0.Now + 1)), m1, m2]]⟩ :: ⟨.ptr ip6 wp6 0 0, 3, [.agg [.int .i64 0, .nil, .nil]]⟩ :: F)) (fun K28 hK28 => ?_) (fun s H hq => ?_)
        · refine w_blk fun K29 hK29 => ?_
          refine w_loop gC hw27 (fun x s H => match x with | (x23, x24) => s = (u :: u :: .ptr ip2 wp2 0 0 :: u :: .ptr ip6 wp6 0 0 :: u :: u :: u :: u :: u :: u :: u :: u :: u :: u :: u :: u :: u :: u :: u :: u :: u :: u :: u :: u :: u :: u :: u :: u :: m1 :: .int .i64 (a0.Cases.length : Int) :: .int .i64 x24 :: u :: u :: u :: u :: u :: u :: u :: u :: u :: u :: u :: u :: u :: u :: u :: u :: u :: u :: u :: u :: u :: u :: u :: u :: u :: u :: u :: u :: u :: u :: u :: u :: u :: u :: u :: u :: u :: u :: u :: u :: u :: u :: u :: u :: u :: u :: u :: u :: u :: u :: u :: u :: u :: u :: u :: u :: u :: u :: u :: u :: u :: u :: u :: u :: u :: u :: u :: u :: u :: u :: u :: u :: u :: u :: u :: u :: u :: u :: u :: u :: u :: u :: u :: u :: u :: u :: u :: u :: u :: u :: u :: u :: u :: u :: u :: u :: u :: u :: u :: u :: u :: u :: u :: u :: u :: u :: u :: u :: u :: u :: u :: u :: u :: u :: u :: u :: u :: u :: u :: u :: u :: u :: u :: u :: u :: u :: u :: u :: u :: u :: u :: u :: u :: u :: u :: u :: u :: u :: u :: u :: u :: []) ∧ Own H (⟨m1, 4, x23.map e_Case⟩ :: ⟨m2, 3, a0.Line.map e_Slip⟩ :: ⟨.ptr ip2 wp2 0 0, 3, [.agg [.int .i64 (IntKind.i64.wrap (a0.Now + 1)), m1, m2]]⟩ :: ⟨.ptr ip6 wp6 0 0, 3, [.agg [.int .i64 0, .nil, .nil]]⟩ :: F)) ⟨rfl, hS⟩ (fun x y32 s H h hd31 hi K30 hK30 => ?_)
          obtain ⟨x23, x24⟩ := x
          try dsimp only at hi
          obtain ⟨rfl, hS⟩ := hi
          simp only [spec_l16Step_l0] at h
          refine w_seq fun K34 hK34 => ?_
          refine w_reg gC ?_
          try simp only [W, EE, Nat.reduceAdd]
          refine seq_n hK34 ?_
          refine w_seq fun K35 hK35 => ?_
          refine w_if ?_
          simp only [W]
          refine w_cnd h (fun hc h => ?_) (fun hc h => ?_)
          · refine w_skip ?_
            refine seq_n hK35 ?_
            refine w_seq fun K36 hK36 => ?_
            obtain ⟨y39, h, g40⟩ := Option.bind_eq_some_iff.1 h
            refine w_join gC (fun s H => ∃ x38 : List Case, y39 = (x38) ∧ s = (u :: u :: .ptr ip2 wp2 0 0 :: u :: .ptr ip6 wp6 0 0 :: u :: u :: u :: u :: u :: u :: u :: u :: u :: u :: u :: u :: u :: u :: u :: u :: u :: u :: u :: u :: u :: u :: u :: u :: m1 :: .int .i64 (a0.Cases.length : Int) :: .int .i64 x24 :: u :: u :: u :: u :: u :: u :: u :: u :: u :: u :: u :: u :: u :: u :: u :: u :: u :: u :: u :: u :: u :: u :: u :: u :: u :: u :: u :: u :: u :: u :: u :: u :: u :: u :: u :: u :: u :: u :: u :: u :: u :: u :: u :: u :: u :: u :: u :: u :: u :: u :: u :: u :: u :: u :: u :: u :: u :: u :: u :: u :: u :: u :: u :: u :: u :: u :: u :: u :: u :: u :: u :: u :: u :: u :: u :: u :: u :: u :: u :: u :: u :: u :: u :: u :: u :: u :: u :: u :: u :: u :: u :: u :: u :: u :: u :: u :: u :: u :: u :: u :: u :: u :: u :: u :: u :: u :: u :: u :: u :: u :: u :: u :: u :: u :: u :: u :: u :: u :: u :: u :: u :: u :: u :: u :: u :: u :: u :: u :: u :: u :: u :: u :: u :: u :: u :: u :: u :: u :: u :: u :: u :: []) ∧ Own H (⟨m1, 4, x38.map e_Case⟩ :: ⟨m2, 3, a0.Line.map e_Slip⟩ :: ⟨.ptr ip2 wp2 0 0, 3, [.agg [.int .i64 (IntKind.i64.wrap (a0.Now + 1)), m1, m2]]⟩ :: ⟨.ptr ip6 wp6 0 0, 3, [.agg [.int .i64 0, .nil, .nil]]⟩ :: F)) (fun K41 hK41 => ?_) (fun s H hq => ?_)
            · refine w_blk fun K37 hK37 => ?_
              refine w_seq fun K42 hK42 => ?_
              refine w_reg gC ?_
              try simp only [W, EE, Nat.reduceAdd]
              refine w_ow 0 hS rfl rfl rfl rfl rfl h (fun b43 in44 wn44 on44 hb43 h en44 => ?_) qm1.ne
              obtain ⟨kn44, hbn44, hen44⟩ := hS.elem 0 rfl en44 hb43
              try simp only [W, EE, EN, reduceIte, Nat.reduceAdd, Nat.reduceLeDiff, hbn44, hen44]
              refine w_alloc hS rfl rfl fun ip45 wp45 H hS => ?_
              try simp only [W]
              refine w_stv (a := .agg [.int .i64 b43.End, .bool b43.Asks, .int .i64 b43.Final, .int .i64 b43.Said]) (y' := .agg [.int .i64 b43.End, .bool b43.Asks, .int .i64 b43.Final, .int .i64 b43.Said]) 0 hS rfl rfl rfl rfl rfl rfl rfl rfl fun H hS => ?_
              try simp only [W]
              refine seq_n hK42 ?_
              refine w_seq fun K47 hK47 => ?_
              obtain ⟨y49, h, g50⟩ := Option.bind_eq_some_iff.1 h
              refine w_join gC (fun s H => ∃ x48 : Bool, y49 = (x48) ∧ s = (u :: u :: .ptr ip2 wp2 0 0 :: u :: .ptr ip6 wp6 0 0 :: u :: .int .i64 x24 :: u :: u :: u :: u :: u :: u :: u :: u :: u :: u :: u :: u :: u :: u :: u :: u :: u :: u :: u :: u :: u :: u :: m1 :: .int .i64 (a0.Cases.length : Int) :: .int .i64 x24 :: u :: u :: u :: u :: u :: u :: u :: u :: u :: u :: u :: u :: u :: .bool x48 :: u :: u :: u :: u :: u :: u :: u :: u :: u :: u :: u :: u :: u :: u :: u :: u :: u :: u :: u :: u :: u :: u :: u :: u :: u :: u :: u :: u :: u :: u :: u :: u :: u :: u :: u :: u :: u :: u :: u :: u :: u :: u :: u :: u :: u :: u :: u :: u :: u :: u :: u :: u :: u :: u :: u :: u :: u :: u :: u :: u :: u :: u :: u :: u :: u :: u :: u :: u :: u :: u :: u :: u :: u :: u :: u :: u :: u :: u :: u :: u :: u :: u :: u :: u :: u :: u :: u :: u :: u :: u :: u :: u :: u :: u :: u :: u :: u :: u :: u :: u :: u :: u :: u :: u :: u :: u :: u :: u :: u :: u :: u :: u :: u :: u :: u :: u :: u :: u :: u :: u :: u :: u :: u :: u :: u :: u :: u :: []) ∧ Own H (⟨m1, 4, x23.map e_Case⟩ :: ⟨m2, 3, a0.Line.map e_Slip⟩ :: ⟨.ptr ip2 wp2 0 0, 3, [.agg [.int .i64 (IntKind.i64.wrap (a0.Now + 1)), m1, m2]]⟩ :: ⟨.ptr ip6 wp6 0 0, 3, [.agg [.int .i64 0, .nil, .nil]]⟩ :: F)) (fun K51 hK51 => ?_) (fun s H hq => ?_)
              · refine w_seq fun K52 hK52 => ?_
                refine w_reg gC ?_
                try simp only [W, EE, Nat.reduceAdd, Nat.reduceBEq, hS.var 0 rfl]
                refine w_grdT h (fun hc h => ?_) (fun hc h => ?_)
                · try simp only [W, EE, reduceIte, Nat.reduceAdd, Nat.reduceBEq, hS.var 3 rfl, hS.var 0 rfl, hc]
                  refine seq_n hK52 ?_
                  refine w_killE (s' := (u :: u :: .ptr ip2 wp2 0 0 :: u :: .ptr ip6 wp6 0 0 :: u :: .int .i64 x24 :: u :: u :: u :: u :: u :: u :: u :: u :: u :: u :: u :: u :: u :: u :: u :: u :: u :: u :: u :: u :: u :: u :: m1 :: .int .i64 (a0.Cases.length : Int) :: .int .i64 x24 :: u :: u :: u :: u :: u :: u :: u :: u :: u :: u :: u :: u :: u :: .bool (decide (b43.End < (IntKind.i64.wrap (a0.Now + 1)))) :: u :: u :: u :: u :: u :: u :: u :: u :: u :: u :: u :: u :: u :: u :: u :: u :: u :: u :: u :: u :: u :: u :: u :: u :: u :: u :: u :: u :: u :: u :: u :: u :: u :: u :: u :: u :: u :: u :: u :: u :: u :: u :: u :: u :: u :: u :: u :: u :: u :: u :: u :: u :: u :: u :: u :: u :: u :: u :: u :: u :: u :: u :: u :: u :: u :: u :: u :: u :: u :: u :: u :: u :: u :: u :: u :: u :: u :: u :: u :: u :: u :: u :: u :: u :: u :: u :: u :: u :: u :: u :: u :: u :: u :: u :: u :: u :: u :: u :: u :: u :: u :: u :: u :: u :: u :: u :: u :: u :: u :: u :: u :: u :: u :: u :: u :: u :: u :: u :: u :: u :: u :: u :: u :: u :: u :: u :: u :: [])) rfl ?_
                  exact cut_n hK51 ⟨_, (Option.some.inj h).symm, rfl, (hS.sel 5 [1, 2, 3, 4] (by decide))⟩
                · try simp only [W, hc]
                  refine seq_n hK52 ?_
                  refine w_killE (s' := (u :: u :: .ptr ip2 wp2 0 0 :: u :: .ptr ip6 wp6 0 0 :: u :: .int .i64 x24 :: u :: u :: u :: u :: u :: u :: u :: u :: u :: u :: u :: u :: u :: u :: u :: u :: u :: u :: u :: u :: u :: u :: m1 :: .int .i64 (a0.Cases.length : Int) :: .int .i64 x24 :: u :: u :: u :: u :: u :: u :: u :: u :: u :: u :: u :: u :: u :: .bool false :: u :: u :: u :: u :: u :: u :: u :: u :: u :: u :: u :: u :: u :: u :: u :: u :: u :: u :: u :: u :: u :: u :: u :: u :: u :: u :: u :: u :: u :: u :: u :: u :: u :: u :: u :: u :: u :: u :: u :: u :: u :: u :: u :: u :: u :: u :: u :: u :: u :: u :: u :: u :: u :: u :: u :: u :: u :: u :: u :: u :: u :: u :: u :: u :: u :: u :: u :: u :: u :: u :: u :: u :: u :: u :: u :: u :: u :: u :: u :: u :: u :: u :: u :: u :: u :: u :: u :: u :: u :: u :: u :: u :: u :: u :: u :: u :: u :: u :: u :: u :: u :: u :: u :: u :: u :: u :: u :: u :: u :: u :: u :: u :: u :: u :: u :: u :: u :: u :: u :: u :: u :: u :: u :: u :: u :: u :: u :: [])) rfl ?_
                  exact cut_n hK51 ⟨_, (Option.some.inj h).symm, rfl, (hS.sel 5 [1, 2, 3, 4] (by decide))⟩
              · obtain ⟨x48, ey, rfl, hS⟩ := hq; obtain rfl := ey.symm
                replace h := g50
                try dsimp only at h
                refine seq_n hK47 ?_
                obtain ⟨y54, h, g55⟩ := Option.bind_eq_some_iff.1 h
                refine w_join gC (fun s H => ∃ x53 : List Case, y54 = (x53) ∧ s = (u :: u :: .ptr ip2 wp2 0 0 :: u :: .ptr ip6 wp6 0 0 :: u :: u :: u :: u :: u :: u :: u :: u :: u :: u :: u :: u :: u :: u :: u :: u :: u :: u :: u :: u :: u :: u :: u :: u :: m1 :: .int .i64 (a0.Cases.length : Int) :: .int .i64 x24 :: u :: u :: u :: u :: u :: u :: u :: u :: u :: u :: u :: u :: u :: u :: u :: u :: u :: u :: u :: u :: u :: u :: u :: u :: u :: u :: u :: u :: u :: u :: u :: u :: u :: u :: u :: u :: u :: u :: u :: u :: u :: u :: u :: u :: u :: u :: u :: u :: u :: u :: u :: u :: u :: u :: u :: u :: u :: u :: u :: u :: u :: u :: u :: u :: u :: u :: u :: u :: u :: u :: u :: u :: u :: u :: u :: u :: u :: u :: u :: u :: u :: u :: u :: u :: u :: u :: u :: u :: u :: u :: u :: u :: u :: u :: u :: u :: u :: u :: u :: u :: u :: u :: u :: u :: u :: u :: u :: u :: u :: u :: u :: u :: u :: u :: u :: u :: u :: u :: u :: u :: u :: u :: u :: u :: u :: u :: u :: u :: u :: u :: u :: u :: u :: u :: u :: u :: u :: u :: u :: u :: u :: []) ∧ Own H (⟨m1, 4, x53.map e_Case⟩ :: ⟨m2, 3, a0.Line.map e_Slip⟩ :: ⟨.ptr ip2 wp2 0 0, 3, [.agg [.int .i64 (IntKind.i64.wrap (a0.Now + 1)), m1, m2]]⟩ :: ⟨.ptr ip6 wp6 0 0, 3, [.agg [.int .i64 0, .nil, .nil]]⟩ :: F)) (fun K56 hK56 => ?_) (fun s H hq => ?_)
                · refine w_seq fun K57 hK57 => ?_
                  refine w_if ?_
                  simp only [W]
                  refine w_cnd h (fun hc h => ?_) (fun hc h => ?_)
                  · refine w_reg gC ?_
                    try simp only [W, EE, Nat.reduceAdd, Nat.reduceBEq, hS.var 2 rfl]
                    refine w_ow 0 hS rfl rfl rfl rfl rfl h (fun b58 in59 wn59 on59 hb58 h en59 => ?_) qm1.ne
                    obtain ⟨kn59, hbn59, hen59⟩ := hS.elem 0 rfl en59 hb58
                    try simp only [W, EE, Nat.reduceAdd, Nat.reduceBEq, hbn59]
                    refine w_ste (a := .int .i64 2) (y' := (⟨b58.End, b58.Asks, b58.Final, 2⟩ : Case)) 0 hS rfl en59 hb58 rfl rfl rfl rfl rfl rfl rfl fun H hS => ?_
                    try simp only [W]
                    refine seq_n hK57 ?_
                    refine w_killE (s' := (u :: u :: .ptr ip2 wp2 0 0 :: u :: .ptr ip6 wp6 0 0 :: u :: u :: u :: u :: u :: u :: u :: u :: u :: u :: u :: u :: u :: u :: u :: u :: u :: u :: u :: u :: u :: u :: u :: u :: m1 :: .int .i64 (a0.Cases.length : Int) :: .int .i64 x24 :: u :: u :: u :: u :: u :: u :: u :: u :: u :: u :: u :: u :: u :: u :: u :: u :: u :: u :: u :: u :: u :: u :: u :: u :: u :: u :: u :: u :: u :: u :: u :: u :: u :: u :: u :: u :: u :: u :: u :: u :: u :: u :: u :: u :: u :: u :: u :: u :: u :: u :: u :: u :: u :: u :: u :: u :: u :: u :: u :: u :: u :: u :: u :: u :: u :: u :: u :: u :: u :: u :: u :: u :: u :: u :: u :: u :: u :: u :: u :: u :: u :: u :: u :: u :: u :: u :: u :: u :: u :: u :: u :: u :: u :: u :: u :: u :: u :: u :: u :: u :: u :: u :: u :: u :: u :: u :: u :: u :: u :: u :: u :: u :: u :: u :: u :: u :: u :: u :: u :: u :: u :: u :: u :: u :: u :: u :: u :: u :: u :: u :: u :: u :: u :: u :: u :: u :: u :: u :: u :: u :: u :: [])) rfl ?_
                    exact cut_n hK56 ⟨_, (Option.some.inj h).symm, rfl, hS⟩
                  · refine w_skip ?_
                    refine seq_n hK57 ?_
                    refine w_killE (s' := (u :: u :: .ptr ip2 wp2 0 0 :: u :: .ptr ip6 wp6 0 0 :: u :: u :: u :: u :: u :: u :: u :: u :: u :: u :: u :: u :: u :: u :: u :: u :: u :: u :: u :: u :: u :: u :: u :: u :: m1 :: .int .i64 (a0.Cases.length : Int) :: .int .i64 x24 :: u :: u :: u :: u :: u :: u :: u :: u :: u :: u :: u :: u :: u :: u :: u :: u :: u :: u :: u :: u :: u :: u :: u :: u :: u :: u :: u :: u :: u :: u :: u :: u :: u :: u :: u :: u :: u :: u :: u :: u :: u :: u :: u :: u :: u :: u :: u :: u :: u :: u :: u :: u :: u :: u :: u :: u :: u :: u :: u :: u :: u :: u :: u :: u :: u :: u :: u :: u :: u :: u :: u :: u :: u :: u :: u :: u :: u :: u :: u :: u :: u :: u :: u :: u :: u :: u :: u :: u :: u :: u :: u :: u :: u :: u :: u :: u :: u :: u :: u :: u :: u :: u :: u :: u :: u :: u :: u :: u :: u :: u :: u :: u :: u :: u :: u :: u :: u :: u :: u :: u :: u :: u :: u :: u :: u :: u :: u :: u :: u :: u :: u :: u :: u :: u :: u :: u :: u :: u :: u :: u :: u :: [])) rfl ?_
                    exact cut_n hK56 ⟨_, (Option.some.inj h).symm, rfl, hS⟩
                · obtain ⟨x53, ey, rfl, hS⟩ := hq; obtain rfl := ey.symm
                  replace h := g55
                  try dsimp only at h
                  refine blk_n hK37 ?_
                  exact cut_n hK41 ⟨_, (Option.some.inj h).symm, rfl, hS⟩
            · obtain ⟨x38, ey, rfl, hS⟩ := hq; obtain rfl := ey.symm
              replace h := g40
              try dsimp only at h
              refine seq_n hK36 ?_
              refine w_reg gC ?_
              try simp only [W, EE, Nat.reduceAdd]
              exact lp_n hK30 h ⟨rfl, hS⟩
          · refine w_exit ?_
            refine seq_x hK35 ?_
            try obtain rfl := Option.some.inj h
            obtain rfl := hd31 _ rfl
            have h : (some (x23) : Option ((List Case))) = some (x23) := rfl
            refine lp_x hK30 ?_
            refine blk_e hK29 ?_
            exact cut_n hK28 ⟨_, (Option.some.inj h).symm, rfl, hS⟩
        · obtain ⟨x25, ey, rfl, hS⟩ := hq; obtain rfl := ey.symm
          replace h := g33
          try dsimp only at h
          refine seq_n hK21 ?_
          refine w_seq fun K62 hK62 => ?_
          refine w_reg gC ?_
          try simp only [W, EE, reduceIte, Nat.reduceAdd, Nat.reduceLeDiff, hS.var 2 rfl]
          refine w_stv (a := .agg [.int .i64 (IntKind.i64.wrap (a0.Now + 1)), m1, m2]) (y' := .agg [.int .i64 (IntKind.i64.wrap (a0.Now + 1)), m1, m2]) 3 hS rfl rfl rfl rfl rfl (by simp only [storA, List.all_cons, List.all_nil, qm1.stor, qm2.stor]; rfl) rfl rfl fun H hS => ?_
          try simp only [W]
          refine seq_n hK62 ?_
          refine w_ret ?_
          refine blk_r hK10 ?_
          refine seq_r hK8 ?_
          refine fin_r hK0 (res_c rfl rfl (hS.var 3 rfl) rfl (res_tc rfl rfl)) ?_
          try obtain rfl := Option.some.inj h
          exact hP _ qm1 _ qm2 _ (hS.sel 4 [0, 1] (by decide))
  · refine w_seq fun K63 hK63 => ?_
    refine w_seq fun K64 hK64 => ?_
    refine w_reg gC ?_
    try simp only [W, EE, Nat.reduceAdd]
    refine seq_n hK64 ?_
    obtain ⟨y66, h, g67⟩ := Option.bind_eq_some_iff.1 h
    refine w_join gC (fun s H => ∃ x65 : Bool, y66 = (x65) ∧ s = (u :: u :: .ptr ip2 wp2 0 0 :: .ptr ip4 wp4 0 0 :: .ptr ip6 wp6 0 0 :: u :: u :: u :: u :: u :: u :: u :: u :: u :: u :: u :: u :: u :: u :: u :: u :: u :: u :: u :: u :: u :: u :: u :: u :: u :: u :: u :: u :: u :: u :: u :: u :: u :: u :: u :: u :: u :: u :: u :: u :: u :: u :: u :: u :: u :: u :: u :: u :: .bool x65 :: u :: u :: u :: u :: u :: u :: u :: u :: u :: u :: u :: u :: u :: u :: u :: u :: u :: u :: u :: u :: u :: u :: u :: u :: u :: u :: u :: u :: u :: u :: u :: u :: u :: u :: u :: u :: u :: u :: u :: u :: u :: u :: u :: u :: u :: u :: u :: u :: u :: u :: u :: u :: u :: u :: u :: u :: u :: u :: u :: u :: u :: u :: u :: u :: u :: u :: u :: u :: u :: u :: u :: u :: u :: u :: u :: u :: u :: u :: u :: u :: u :: u :: u :: u :: u :: u :: u :: u :: u :: u :: u :: u :: u :: u :: u :: u :: u :: u :: u :: u :: u :: u :: u :: u :: u :: u :: u :: u :: u :: u :: u :: u :: u :: u :: u :: u :: u :: u :: u :: []) ∧ Own H (⟨m1, 4, a0.Cases.map e_Case⟩ :: ⟨m2, 3, a0.Line.map e_Slip⟩ :: ⟨.ptr ip2 wp2 0 0, 3, [.agg [.int .i64 a0.Now, m1, m2]]⟩ :: ⟨.ptr ip4 wp4 0 0, 2, [.agg [.int .i64 a1.Kind, .int .i64 a1.K]]⟩ :: ⟨.ptr ip6 wp6 0 0, 3, [.agg [.int .i64 0, .nil, .nil]]⟩ :: F)) (fun K68 hK68 => ?_) (fun s H hq => ?_)
    · refine w_seq fun K69 hK69 => ?_
      refine w_if ?_
      simp only [W]
      refine w_cnd h (fun hc h => ?_) (fun hc h => ?_)
      · refine w_skip ?_
        refine seq_n hK69 ?_
        refine w_killE (s' := (u :: u :: .ptr ip2 wp2 0 0 :: .ptr ip4 wp4 0 0 :: .ptr ip6 wp6 0 0 :: u :: u :: u :: u :: u :: u :: u :: u :: u :: u :: u :: u :: u :: u :: u :: u :: u :: u :: u :: u :: u :: u :: u :: u :: u :: u :: u :: u :: u :: u :: u :: u :: u :: u :: u :: u :: u :: u :: u :: u :: u :: u :: u :: u :: u :: u :: u :: u :: .bool (a1.Kind == 1) :: u :: u :: u :: u :: u :: u :: u :: u :: u :: u :: u :: u :: u :: u :: u :: u :: u :: u :: u :: u :: u :: u :: u :: u :: u :: u :: u :: u :: u :: u :: u :: u :: u :: u :: u :: u :: u :: u :: u :: u :: u :: u :: u :: u :: u :: u :: u :: u :: u :: u :: u :: u :: u :: u :: u :: u :: u :: u :: u :: u :: u :: u :: u :: u :: u :: u :: u :: u :: u :: u :: u :: u :: u :: u :: u :: u :: u :: u :: u :: u :: u :: u :: u :: u :: u :: u :: u :: u :: u :: u :: u :: u :: u :: u :: u :: u :: u :: u :: u :: u :: u :: u :: u :: u :: u :: u :: u :: u :: u :: u :: u :: u :: u :: u :: u :: u :: u :: u :: u :: [])) rfl ?_
        exact cut_n hK68 ⟨_, (Option.some.inj h).symm, rfl, (hS.sel 5 [3, 4, 2, 1, 0] (by decide))⟩
      · refine w_reg gC ?_
        try simp only [W, EE, Nat.reduceAdd]
        refine seq_n hK69 ?_
        refine w_killE (s' := (u :: u :: .ptr ip2 wp2 0 0 :: .ptr ip4 wp4 0 0 :: .ptr ip6 wp6 0 0 :: u :: u :: u :: u :: u :: u :: u :: u :: u :: u :: u :: u :: u :: u :: u :: u :: u :: u :: u :: u :: u :: u :: u :: u :: u :: u :: u :: u :: u :: u :: u :: u :: u :: u :: u :: u :: u :: u :: u :: u :: u :: u :: u :: u :: u :: u :: u :: u :: .bool (a1.Kind == 2) :: u :: u :: u :: u :: u :: u :: u :: u :: u :: u :: u :: u :: u :: u :: u :: u :: u :: u :: u :: u :: u :: u :: u :: u :: u :: u :: u :: u :: u :: u :: u :: u :: u :: u :: u :: u :: u :: u :: u :: u :: u :: u :: u :: u :: u :: u :: u :: u :: u :: u :: u :: u :: u :: u :: u :: u :: u :: u :: u :: u :: u :: u :: u :: u :: u :: u :: u :: u :: u :: u :: u :: u :: u :: u :: u :: u :: u :: u :: u :: u :: u :: u :: u :: u :: u :: u :: u :: u :: u :: u :: u :: u :: u :: u :: u :: u :: u :: u :: u :: u :: u :: u :: u :: u :: u :: u :: u :: u :: u :: u :: u :: u :: u :: u :: u :: u :: u :: u :: u :: [])) rfl ?_
        exact cut_n hK68 ⟨_, (Option.some.inj h).symm, rfl, (hS.sel 5 [3, 4, 2, 1, 0] (by decide))⟩
    · obtain ⟨x65, ey, rfl, hS⟩ := hq; obtain rfl := ey.symm
      replace h := g67
      try dsimp only at h
      refine seq_n hK63 ?_
      refine w_seq fun K70 hK70 => ?_
      refine w_if ?_
      simp only [W]
      refine w_cnd h (fun hc h => ?_) (fun hc h => ?_)
      · refine w_seq fun K71 hK71 => ?_
        refine w_seq fun K72 hK72 => ?_
        obtain ⟨y74, h, g75⟩ := Option.bind_eq_some_iff.1 h
        refine w_join gC (fun s H => ∃ x73 : Bool, y74 = (x73) ∧ s = (u :: u :: .ptr ip2 wp2 0 0 :: .ptr ip4 wp4 0 0 :: .ptr ip6 wp6 0 0 :: u :: u :: u :: u :: u :: u :: u :: u :: u :: u :: u :: u :: u :: u :: u :: u :: u :: u :: u :: u :: u :: u :: u :: u :: u :: u :: u :: u :: u :: u :: u :: u :: u :: u :: u :: u :: u :: u :: u :: u :: u :: u :: u :: u :: u :: u :: u :: u :: u :: u :: u :: u :: u :: u :: u :: u :: u :: u :: u :: u :: u :: u :: u :: u :: u :: u :: u :: u :: u :: u :: u :: u :: u :: u :: u :: u :: u :: u :: u :: u :: u :: u :: u :: u :: u :: .bool x73 :: u :: u :: u :: u :: u :: u :: u :: u :: u :: u :: u :: u :: u :: u :: u :: u :: u :: u :: u :: u :: u :: u :: u :: u :: u :: u :: u :: u :: u :: u :: u :: u :: u :: u :: u :: u :: u :: u :: u :: u :: u :: u :: u :: u :: u :: u :: u :: u :: u :: u :: u :: u :: u :: u :: u :: u :: u :: u :: u :: u :: u :: u :: u :: u :: u :: u :: u :: u :: u :: u :: u :: u :: u :: u :: u :: u :: u :: u :: u :: u :: u :: u :: []) ∧ Own H (⟨m1, 4, a0.Cases.map e_Case⟩ :: ⟨m2, 3, a0.Line.map e_Slip⟩ :: ⟨.ptr ip2 wp2 0 0, 3, [.agg [.int .i64 a0.Now, m1, m2]]⟩ :: ⟨.ptr ip4 wp4 0 0, 2, [.agg [.int .i64 a1.Kind, .int .i64 a1.K]]⟩ :: ⟨.ptr ip6 wp6 0 0, 3, [.agg [.int .i64 0, .nil, .nil]]⟩ :: F)) (fun K76 hK76 => ?_) (fun s H hq => ?_)
        · refine w_seq fun K77 hK77 => ?_
          refine w_reg gC ?_
          try simp only [W, EE, Nat.reduceAdd, Nat.reduceBEq, hS.var 3 rfl]
          refine w_grdT h (fun hc h => ?_) (fun hc h => ?_)
          · try simp only [W, hc]
            refine seq_n hK77 ?_
            refine w_killE (s' := (u :: u :: .ptr ip2 wp2 0 0 :: .ptr ip4 wp4 0 0 :: .ptr ip6 wp6 0 0 :: u :: u :: u :: u :: u :: u :: u :: u :: u :: u :: u :: u :: u :: u :: u :: u :: u :: u :: u :: u :: u :: u :: u :: u :: u :: u :: u :: u :: u :: u :: u :: u :: u :: u :: u :: u :: u :: u :: u :: u :: u :: u :: u :: u :: u :: u :: u :: u :: u :: u :: u :: u :: u :: u :: u :: u :: u :: u :: u :: u :: u :: u :: u :: u :: u :: u :: u :: u :: u :: u :: u :: u :: u :: u :: u :: u :: u :: u :: u :: u :: u :: u :: u :: u :: u :: .bool true :: u :: u :: u :: u :: u :: u :: u :: u :: u :: u :: u :: u :: u :: u :: u :: u :: u :: u :: u :: u :: u :: u :: u :: u :: u :: u :: u :: u :: u :: u :: u :: u :: u :: u :: u :: u :: u :: u :: u :: u :: u :: u :: u :: u :: u :: u :: u :: u :: u :: u :: u :: u :: u :: u :: u :: u :: u :: u :: u :: u :: u :: u :: u :: u :: u :: u :: u :: u :: u :: u :: u :: u :: u :: u :: u :: u :: u :: u :: u :: u :: u :: u :: [])) rfl ?_
            exact cut_n hK76 ⟨_, (Option.some.inj h).symm, rfl, hS⟩
          · try simp only [W, EE, Nat.reduceAdd, Nat.reduceBEq, hS.var 2 rfl, hS.var 3 rfl, hc]
            refine w_len 0 hS rfl qm1 rfl ?_
            try simp only [W, EE, reduceIte, Bool.false_eq_true]
            refine w_grdT h (fun hc h => ?_) (fun hc h => ?_)
            · try simp only [W, hc]
              refine seq_n hK77 ?_
              refine w_killE (s' := (u :: u :: .ptr ip2 wp2 0 0 :: .ptr ip4 wp4 0 0 :: .ptr ip6 wp6 0 0 :: u :: u :: u :: u :: u :: u :: u :: u :: u :: u :: u :: u :: u :: u :: u :: u :: u :: u :: u :: u :: u :: u :: u :: u :: u :: u :: u :: u :: u :: u :: u :: u :: u :: u :: u :: u :: u :: u :: u :: u :: u :: u :: u :: u :: u :: u :: u :: u :: u :: u :: u :: u :: u :: u :: u :: u :: u :: u :: u :: u :: u :: u :: u :: u :: u :: u :: u :: u :: u :: u :: u :: u :: u :: u :: u :: u :: u :: u :: u :: u :: u :: u :: u :: u :: u :: .bool true :: u :: u :: u :: u :: u :: u :: u :: u :: u :: u :: u :: u :: u :: u :: u :: u :: u :: u :: u :: u :: u :: u :: u :: u :: u :: u :: u :: u :: u :: u :: u :: u :: u :: u :: u :: u :: u :: u :: u :: u :: u :: u :: u :: u :: u :: u :: u :: u :: u :: u :: u :: u :: u :: u :: u :: u :: u :: u :: u :: u :: u :: u :: u :: u :: u :: u :: u :: u :: u :: u :: u :: u :: u :: u :: u :: u :: u :: u :: u :: u :: u :: u :: [])) rfl ?_
              exact cut_n hK76 ⟨_, (Option.some.inj h).symm, rfl, hS⟩
            · try simp only [W, EE, Nat.reduceAdd, Nat.reduceBEq, hS.var 2 rfl, hS.var 3 rfl, hc]
              refine w_ow 0 hS rfl rfl rfl rfl rfl h (fun b78 in79 wn79 on79 hb78 h en79 => ?_) qm1.ne
              obtain ⟨kn79, hbn79, hen79⟩ := hS.elem 0 rfl en79 hb78
              try simp only [W, EE, EN, reduceIte, Nat.reduceAdd, Nat.reduceBEq, Bool.false_eq_true, hbn79, hen79]
              refine w_grdT h (fun hc h => ?_) (fun hc h => ?_)
              · try simp only [W, hc]
                refine seq_n hK77 ?_
                refine w_killE (s' := (u :: u :: .ptr ip2 wp2 0 0 :: .ptr ip4 wp4 0 0 :: .ptr ip6 wp6 0 0 :: u :: u :: u :: u :: u :: u :: u :: u :: u :: u :: u :: u :: u :: u :: u :: u :: u :: u :: u :: u :: u :: u :: u :: u :: u :: u :: u :: u :: u :: u :: u :: u :: u :: u :: u :: u :: u :: u :: u :: u :: u :: u :: u :: u :: u :: u :: u :: u :: u :: u :: u :: u :: u :: u :: u :: u :: u :: u :: u :: u :: u :: u :: u :: u :: u :: u :: u :: u :: u :: u :: u :: u :: u :: u :: u :: u :: u :: u :: u :: u :: u :: u :: u :: u :: u :: .bool true :: u :: u :: u :: u :: u :: u :: u :: u :: u :: u :: u :: u :: u :: u :: u :: u :: u :: u :: u :: u :: u :: u :: u :: u :: u :: u :: u :: u :: u :: u :: u :: u :: u :: u :: u :: u :: u :: u :: u :: u :: u :: u :: u :: u :: u :: u :: u :: u :: u :: u :: u :: u :: u :: u :: u :: u :: u :: u :: u :: u :: u :: u :: u :: u :: u :: u :: u :: u :: u :: u :: u :: u :: u :: u :: u :: u :: u :: u :: u :: u :: u :: u :: [])) rfl ?_
                exact cut_n hK76 ⟨_, (Option.some.inj h).symm, rfl, hS⟩
              · try simp only [W, EE, Nat.reduceAdd, Nat.reduceBEq, hS.var 3 rfl, hc]
                refine w_grdT h (fun hc h => ?_) (fun hc h => ?_)
                · try simp only [W, EE, Nat.reduceAdd, Nat.reduceBEq, hS.var 2 rfl, hS.var 3 rfl, hc]
                  refine w_ow 0 hS rfl rfl rfl rfl rfl h (fun b80 in81 wn81 on81 hb80 h en81 => ?_) qm1.ne
                  obtain ⟨kn81, hbn81, hen81⟩ := hS.elem 0 rfl en81 hb80
                  try simp only [W, EE, EN, reduceIte, Nat.reduceAdd, Nat.reduceBEq, Bool.false_eq_true, hbn81, hen81]
                  refine seq_n hK77 ?_
                  refine w_killE (s' := (u :: u :: .ptr ip2 wp2 0 0 :: .ptr ip4 wp4 0 0 :: .ptr ip6 wp6 0 0 :: u :: u :: u :: u :: u :: u :: u :: u :: u :: u :: u :: u :: u :: u :: u :: u :: u :: u :: u :: u :: u :: u :: u :: u :: u :: u :: u :: u :: u :: u :: u :: u :: u :: u :: u :: u :: u :: u :: u :: u :: u :: u :: u :: u :: u :: u :: u :: u :: u :: u :: u :: u :: u :: u :: u :: u :: u :: u :: u :: u :: u :: u :: u :: u :: u :: u :: u :: u :: u :: u :: u :: u :: u :: u :: u :: u :: u :: u :: u :: u :: u :: u :: u :: u :: u :: .bool b80.Asks :: u :: u :: u :: u :: u :: u :: u :: u :: u :: u :: u :: u :: u :: u :: u :: u :: u :: u :: u :: u :: u :: u :: u :: u :: u :: u :: u :: u :: u :: u :: u :: u :: u :: u :: u :: u :: u :: u :: u :: u :: u :: u :: u :: u :: u :: u :: u :: u :: u :: u :: u :: u :: u :: u :: u :: u :: u :: u :: u :: u :: u :: u :: u :: u :: u :: u :: u :: u :: u :: u :: u :: u :: u :: u :: u :: u :: u :: u :: u :: u :: u :: u :: [])) rfl ?_
                  exact cut_n hK76 ⟨_, (Option.some.inj h).symm, rfl, hS⟩
                · try simp only [W, reduceIte, Bool.false_eq_true, hc]
                  refine seq_n hK77 ?_
                  refine w_killE (s' := (u :: u :: .ptr ip2 wp2 0 0 :: .ptr ip4 wp4 0 0 :: .ptr ip6 wp6 0 0 :: u :: u :: u :: u :: u :: u :: u :: u :: u :: u :: u :: u :: u :: u :: u :: u :: u :: u :: u :: u :: u :: u :: u :: u :: u :: u :: u :: u :: u :: u :: u :: u :: u :: u :: u :: u :: u :: u :: u :: u :: u :: u :: u :: u :: u :: u :: u :: u :: u :: u :: u :: u :: u :: u :: u :: u :: u :: u :: u :: u :: u :: u :: u :: u :: u :: u :: u :: u :: u :: u :: u :: u :: u :: u :: u :: u :: u :: u :: u :: u :: u :: u :: u :: u :: u :: .bool false :: u :: u :: u :: u :: u :: u :: u :: u :: u :: u :: u :: u :: u :: u :: u :: u :: u :: u :: u :: u :: u :: u :: u :: u :: u :: u :: u :: u :: u :: u :: u :: u :: u :: u :: u :: u :: u :: u :: u :: u :: u :: u :: u :: u :: u :: u :: u :: u :: u :: u :: u :: u :: u :: u :: u :: u :: u :: u :: u :: u :: u :: u :: u :: u :: u :: u :: u :: u :: u :: u :: u :: u :: u :: u :: u :: u :: u :: u :: u :: u :: u :: u :: [])) rfl ?_
                  exact cut_n hK76 ⟨_, (Option.some.inj h).symm, rfl, hS⟩
        · obtain ⟨x73, ey, rfl, hS⟩ := hq; obtain rfl := ey.symm
          replace h := g75
          try dsimp only at h
          refine seq_n hK72 ?_
          refine w_if ?_
          simp only [W]
          refine w_cnd h (fun hc h => ?_) (fun hc h => ?_)
          · refine w_seq fun K82 hK82 => ?_
            refine w_reg gC ?_
            try simp only [W, EE, reduceIte, Nat.reduceAdd, Nat.reduceLeDiff, hS.var 2 rfl]
            refine w_stv (a := .agg [.int .i64 a0.Now, m1, m2]) (y' := .agg [.int .i64 a0.Now, m1, m2]) 4 hS rfl rfl rfl rfl rfl (by simp only [storA, List.all_cons, List.all_nil, qm1.stor, qm2.stor]; rfl) rfl rfl fun H hS => ?_
            try simp only [W]
            refine seq_n hK82 ?_
            refine w_ret ?_
            refine seq_r hK71 ?_
            refine seq_r hK70 ?_
            refine blk_r hK10 ?_
            refine seq_r hK8 ?_
            refine fin_r hK0 (res_c rfl rfl (hS.var 4 rfl) rfl (res_tc rfl rfl)) ?_
            try obtain rfl := Option.some.inj h
            exact hP _ qm1 _ qm2 _ (hS.sel 5 [0, 1] (by decide))
          · refine w_skip ?_
            refine seq_n hK71 ?_
            refine w_seq fun K83 hK83 => ?_
            refine w_seq fun K84 hK84 => ?_
            refine w_reg gC ?_
            try simp only [W, EE, Nat.reduceAdd, Nat.reduceBEq, hS.var 3 rfl]
            refine seq_n hK84 ?_
            refine w_if ?_
            simp only [W]
            refine w_cnd h (fun hc h => ?_) (fun hc h => ?_)
            · refine w_seq fun K85 hK85 => ?_
              refine w_reg gC ?_
              try simp only [W, EE, Nat.reduceAdd, Nat.reduceBEq, hS.var 2 rfl, hS.var 3 rfl]
              refine w_ow 0 hS rfl rfl rfl rfl rfl h (fun b86 in87 wn87 on87 hb86 h en87 => ?_) qm1.ne
              obtain ⟨kn87, hbn87, hen87⟩ := hS.elem 0 rfl en87 hb86
              try simp only [W, EE, Nat.reduceAdd, Nat.reduceBEq, hbn87]
              refine w_ste (a := .bool true) (y' := (⟨b86.End, true, b86.Final, b86.Said⟩ : Case)) 0 hS rfl en87 hb86 rfl rfl rfl rfl rfl rfl rfl fun H hS => ?_
              try simp only [W]
              refine seq_n hK85 ?_
              refine w_seq fun K88 hK88 => ?_
              refine w_reg gC ?_
              try simp only [W, EE, reduceIte, Nat.reduceAdd, Nat.reduceLeDiff, hS.var 2 rfl]
              refine w_stv (a := .agg [.int .i64 a0.Now, m1, m2]) (y' := .agg [.int .i64 a0.Now, m1, m2]) 4 hS rfl rfl rfl rfl rfl (by simp only [storA, List.all_cons, List.all_nil, qm1.stor, qm2.stor]; rfl) rfl rfl fun H hS => ?_
              try simp only [W]
              refine seq_n hK88 ?_
              refine w_ret ?_
              refine seq_r hK83 ?_
              refine seq_r hK70 ?_
              refine blk_r hK10 ?_
              refine seq_r hK8 ?_
              refine fin_r hK0 (res_c rfl rfl (hS.var 4 rfl) rfl (res_tc rfl rfl)) ?_
              try obtain rfl := Option.some.inj h
              exact hP _ qm1 _ qm2 _ (hS.sel 5 [0, 1] (by decide))
            · refine w_skip ?_
              refine seq_n hK83 ?_
              refine w_seq fun K89 hK89 => ?_
              refine w_reg gC ?_
              try simp only [W, Nat.reduceAdd]
              refine seq_n hK89 ?_
              refine w_seq fun K90 hK90 => ?_
              refine w_seq fun K91 hK91 => ?_
              refine w_reg gC ?_
              try simp only [W, EE, Nat.reduceAdd, Nat.reduceBEq, hS.var 2 rfl, hS.var 3 rfl]
              refine w_ow 0 hS rfl rfl rfl rfl rfl h (fun b92 in93 wn93 on93 hb92 h en93 => ?_) qm1.ne
              obtain ⟨kn93, hbn93, hen93⟩ := hS.elem 0 rfl en93 hb92
              try simp only [W, EE, EN, Nat.reduceAdd, Nat.reduceBEq, hbn93, hen93]
              refine seq_n hK91 ?_
              obtain ⟨y95, h, g96⟩ := Option.bind_eq_some_iff.1 h
              refine w_join gC (fun s H => ∃ x94 : Int, y95 = (x94) ∧ s = (u :: u :: .ptr ip2 wp2 0 0 :: .ptr ip4 wp4 0 0 :: .ptr ip6 wp6 0 0 :: u :: u :: u :: .int .i64 x94 :: u :: u :: u :: u :: u :: u :: u :: u :: u :: u :: u :: u :: u :: u :: u :: u :: u :: u :: u :: u :: u :: u :: u :: u :: u :: u :: u :: u :: u :: u :: u :: u :: u :: u :: u :: u :: u :: u :: u :: u :: u :: u :: u :: u :: u :: u :: u :: u :: u :: u :: u :: u :: u :: u :: u :: u :: u :: u :: u :: u :: u :: u :: u :: u :: u :: u :: u :: u :: u :: u :: u :: u :: u :: u :: u :: u :: u :: u :: u :: u :: u :: u :: u :: u :: u :: u :: u :: u :: u :: u :: u :: u :: u :: u :: u :: u :: u :: u :: u :: u :: u :: u :: u :: u :: u :: u :: u :: u :: u :: u :: u :: u :: u :: u :: u :: u :: u :: u :: u :: u :: u :: u :: u :: u :: u :: u :: u :: u :: u :: u :: u :: u :: u :: u :: u :: u :: u :: u :: u :: u :: u :: u :: u :: u :: u :: u :: u :: u :: u :: u :: u :: u :: u :: u :: u :: u :: u :: u :: u :: u :: u :: u :: u :: u :: []) ∧ Own H (⟨m1, 4, a0.Cases.map e_Case⟩ :: ⟨m2, 3, a0.Line.map e_Slip⟩ :: ⟨.ptr ip2 wp2 0 0, 3, [.agg [.int .i64 a0.Now, m1, m2]]⟩ :: ⟨.ptr ip4 wp4 0 0, 2, [.agg [.int .i64 a1.Kind, .int .i64 a1.K]]⟩ :: ⟨.ptr ip6 wp6 0 0, 3, [.agg [.int .i64 0, .nil, .nil]]⟩ :: F)) (fun K97 hK97 => ?_) (fun s H hq => ?_)
              · refine w_seq fun K98 hK98 => ?_
                refine w_if ?_
                simp only [W]
                refine w_cnd h (fun hc h => ?_) (fun hc h => ?_)
                · refine w_reg gC ?_
                  try simp only [W, Nat.reduceAdd]
                  refine seq_n hK98 ?_
                  refine w_killE (s' := (u :: u :: .ptr ip2 wp2 0 0 :: .ptr ip4 wp4 0 0 :: .ptr ip6 wp6 0 0 :: u :: u :: u :: .int .i64 2 :: u :: u :: u :: u :: u :: u :: u :: u :: u :: u :: u :: u :: u :: u :: u :: u :: u :: u :: u :: u :: u :: u :: u :: u :: u :: u :: u :: u :: u :: u :: u :: u :: u :: u :: u :: u :: u :: u :: u :: u :: u :: u :: u :: u :: u :: u :: u :: u :: u :: u :: u :: u :: u :: u :: u :: u :: u :: u :: u :: u :: u :: u :: u :: u :: u :: u :: u :: u :: u :: u :: u :: u :: u :: u :: u :: u :: u :: u :: u :: u :: u :: u :: u :: u :: u :: u :: u :: u :: u :: u :: u :: u :: u :: u :: u :: u :: u :: u :: u :: u :: u :: u :: u :: u :: u :: u :: u :: u :: u :: u :: u :: u :: u :: u :: u :: u :: u :: u :: u :: u :: u :: u :: u :: u :: u :: u :: u :: u :: u :: u :: u :: u :: u :: u :: u :: u :: u :: u :: u :: u :: u :: u :: u :: u :: u :: u :: u :: u :: u :: u :: u :: u :: u :: u :: u :: u :: u :: u :: u :: u :: u :: u :: u :: u :: [])) rfl ?_
                  exact cut_n hK97 ⟨_, (Option.some.inj h).symm, rfl, hS⟩
                · refine w_skip ?_
                  refine seq_n hK98 ?_
                  refine w_killE (s' := (u :: u :: .ptr ip2 wp2 0 0 :: .ptr ip4 wp4 0 0 :: .ptr ip6 wp6 0 0 :: u :: u :: u :: .int .i64 1 :: u :: u :: u :: u :: u :: u :: u :: u :: u :: u :: u :: u :: u :: u :: u :: u :: u :: u :: u :: u :: u :: u :: u :: u :: u :: u :: u :: u :: u :: u :: u :: u :: u :: u :: u :: u :: u :: u :: u :: u :: u :: u :: u :: u :: u :: u :: u :: u :: u :: u :: u :: u :: u :: u :: u :: u :: u :: u :: u :: u :: u :: u :: u :: u :: u :: u :: u :: u :: u :: u :: u :: u :: u :: u :: u :: u :: u :: u :: u :: u :: u :: u :: u :: u :: u :: u :: u :: u :: u :: u :: u :: u :: u :: u :: u :: u :: u :: u :: u :: u :: u :: u :: u :: u :: u :: u :: u :: u :: u :: u :: u :: u :: u :: u :: u :: u :: u :: u :: u :: u :: u :: u :: u :: u :: u :: u :: u :: u :: u :: u :: u :: u :: u :: u :: u :: u :: u :: u :: u :: u :: u :: u :: u :: u :: u :: u :: u :: u :: u :: u :: u :: u :: u :: u :: u :: u :: u :: u :: u :: u :: u :: u :: u :: u :: [])) rfl ?_
                  exact cut_n hK97 ⟨_, (Option.some.inj h).symm, rfl, hS⟩
              · obtain ⟨x94, ey, rfl, hS⟩ := hq; obtain rfl := ey.symm
                replace h := g96
                try dsimp only at h
                refine seq_n hK90 ?_
                refine w_seq fun K99 hK99 => ?_
                refine w_reg gC ?_
                try simp only [W, EE, reduceIte, Nat.reduceAdd, Nat.reduceLeDiff, Nat.reduceBEq, hS.var 2 rfl, hS.var 3 rfl]
                refine w_bld rfl rfl rfl rfl rfl ?_
                try simp only [W]
                refine w_call h fun b100 hb100 h => ?_
                refine spec_l16Write_w hb100 hS qm1 qm2 fun v101 qv101 v103 qv103 H hS => ?_
                try simp only [W]
                refine w_stv (a := .agg [.int .i64 b100.Now, v101, v103]) (y' := .agg [.int .i64 b100.Now, v101, v103]) 4 hS rfl rfl rfl rfl rfl (by simp only [storA, List.all_cons, List.all_nil, qv101.stor, qv103.stor]; rfl) rfl rfl fun H hS => ?_
                try simp only [W]
                refine seq_n hK99 ?_
                refine w_ret ?_
                refine seq_r hK70 ?_
                refine blk_r hK10 ?_
                refine seq_r hK8 ?_
                refine fin_r hK0 (res_c rfl rfl (hS.var 4 rfl) rfl (res_tc rfl rfl)) ?_
                try obtain rfl := Option.some.inj h
                exact hP _ qv101 _ qv103 _ (hS.sel 5 [0, 1] (by decide))
      · refine w_skip ?_
        refine seq_n hK70 ?_
        refine w_killE (s' := (u :: u :: .ptr ip2 wp2 0 0 :: .ptr ip4 wp4 0 0 :: .ptr ip6 wp6 0 0 :: u :: u :: u :: u :: u :: u :: u :: u :: u :: u :: u :: u :: u :: u :: u :: u :: u :: u :: u :: u :: u :: u :: u :: u :: u :: u :: u :: u :: u :: u :: u :: u :: u :: u :: u :: u :: u :: u :: u :: u :: u :: u :: u :: u :: u :: u :: u :: u :: .bool x65 :: u :: u :: u :: u :: u :: u :: u :: u :: u :: u :: u :: u :: u :: u :: u :: u :: u :: u :: u :: u :: u :: u :: u :: u :: u :: u :: u :: u :: u :: u :: u :: u :: u :: u :: u :: u :: u :: u :: u :: u :: u :: u :: u :: u :: u :: u :: u :: u :: u :: u :: u :: u :: u :: u :: u :: u :: u :: u :: u :: u :: u :: u :: u :: u :: u :: u :: u :: u :: u :: u :: u :: u :: u :: u :: u :: u :: u :: u :: u :: u :: u :: u :: u :: u :: u :: u :: u :: u :: u :: u :: u :: u :: u :: u :: u :: u :: u :: u :: u :: u :: u :: u :: u :: u :: u :: u :: u :: u :: u :: u :: u :: u :: u :: u :: u :: u :: u :: u :: u :: [])) rfl ?_
        refine blk_n0 hK10 ?_
        refine seq_n hK8 ?_
        refine w_seq fun K105 hK105 => ?_
        refine w_seq fun K106 hK106 => ?_
        obtain ⟨y108, h, g109⟩ := Option.bind_eq_some_iff.1 h
        refine w_join gC (fun s H => ∃ x107 : Bool, y108 = (x107) ∧ s = (u :: u :: .ptr ip2 wp2 0 0 :: .ptr ip4 wp4 0 0 :: .ptr ip6 wp6 0 0 :: u :: u :: u :: u :: u :: u :: u :: u :: u :: u :: u :: u :: u :: u :: u :: u :: u :: u :: u :: u :: u :: u :: u :: u :: u :: u :: u :: u :: u :: u :: u :: u :: u :: u :: u :: u :: u :: u :: u :: u :: u :: u :: u :: u :: u :: u :: u :: u :: u :: u :: u :: u :: u :: u :: u :: u :: u :: u :: u :: u :: u :: u :: u :: u :: u :: u :: u :: u :: u :: u :: u :: u :: u :: u :: u :: u :: u :: u :: u :: u :: u :: u :: u :: u :: u :: u :: u :: u :: u :: u :: u :: u :: u :: u :: u :: u :: u :: u :: u :: u :: u :: u :: u :: u :: u :: u :: u :: u :: u :: u :: u :: u :: u :: u :: u :: u :: u :: u :: u :: u :: u :: u :: u :: u :: u :: u :: .bool x107 :: u :: u :: u :: u :: u :: u :: u :: u :: u :: u :: u :: u :: u :: u :: u :: u :: u :: u :: u :: u :: u :: u :: u :: u :: u :: u :: u :: u :: u :: u :: u :: u :: u :: u :: u :: u :: u :: u :: u :: u :: u :: []) ∧ Own H (⟨m1, 4, a0.Cases.map e_Case⟩ :: ⟨m2, 3, a0.Line.map e_Slip⟩ :: ⟨.ptr ip2 wp2 0 0, 3, [.agg [.int .i64 a0.Now, m1, m2]]⟩ :: ⟨.ptr ip4 wp4 0 0, 2, [.agg [.int .i64 a1.Kind, .int .i64 a1.K]]⟩ :: ⟨.ptr ip6 wp6 0 0, 3, [.agg [.int .i64 0, .nil, .nil]]⟩ :: F)) (fun K110 hK110 => ?_) (fun s H hq => ?_)
        · refine w_seq fun K111 hK111 => ?_
          refine w_reg gC ?_
          try simp only [W, EE, Nat.reduceAdd, Nat.reduceBEq, hS.var 3 rfl]
          refine w_grdT h (fun hc h => ?_) (fun hc h => ?_)
          · try simp only [W, hc]
            refine seq_n hK111 ?_
            refine w_killE (s' := (u :: u :: .ptr ip2 wp2 0 0 :: .ptr ip4 wp4 0 0 :: .ptr ip6 wp6 0 0 :: u :: u :: u :: u :: u :: u :: u :: u :: u :: u :: u :: u :: u :: u :: u :: u :: u :: u :: u :: u :: u :: u :: u :: u :: u :: u :: u :: u :: u :: u :: u :: u :: u :: u :: u :: u :: u :: u :: u :: u :: u :: u :: u :: u :: u :: u :: u :: u :: u :: u :: u :: u :: u :: u :: u :: u :: u :: u :: u :: u :: u :: u :: u :: u :: u :: u :: u :: u :: u :: u :: u :: u :: u :: u :: u :: u :: u :: u :: u :: u :: u :: u :: u :: u :: u :: u :: u :: u :: u :: u :: u :: u :: u :: u :: u :: u :: u :: u :: u :: u :: u :: u :: u :: u :: u :: u :: u :: u :: u :: u :: u :: u :: u :: u :: u :: u :: u :: u :: u :: u :: u :: u :: u :: u :: u :: u :: .bool true :: u :: u :: u :: u :: u :: u :: u :: u :: u :: u :: u :: u :: u :: u :: u :: u :: u :: u :: u :: u :: u :: u :: u :: u :: u :: u :: u :: u :: u :: u :: u :: u :: u :: u :: u :: u :: u :: u :: u :: u :: u :: [])) rfl ?_
            exact cut_n hK110 ⟨_, (Option.some.inj h).symm, rfl, hS⟩
          · try simp only [W, EE, Nat.reduceAdd, Nat.reduceBEq, hS.var 2 rfl, hS.var 3 rfl, hc]
            refine w_len 1 hS rfl qm2 rfl ?_
            try simp only [W, EE, reduceIte, Bool.false_eq_true]
            refine w_grdT h (fun hc h => ?_) (fun hc h => ?_)
            · try simp only [W, hc]
              refine seq_n hK111 ?_
              refine w_killE (s' := (u :: u :: .ptr ip2 wp2 0 0 :: .ptr ip4 wp4 0 0 :: .ptr ip6 wp6 0 0 :: u :: u :: u :: u :: u :: u :: u :: u :: u :: u :: u :: u :: u :: u :: u :: u :: u :: u :: u :: u :: u :: u :: u :: u :: u :: u :: u :: u :: u :: u :: u :: u :: u :: u :: u :: u :: u :: u :: u :: u :: u :: u :: u :: u :: u :: u :: u :: u :: u :: u :: u :: u :: u :: u :: u :: u :: u :: u :: u :: u :: u :: u :: u :: u :: u :: u :: u :: u :: u :: u :: u :: u :: u :: u :: u :: u :: u :: u :: u :: u :: u :: u :: u :: u :: u :: u :: u :: u :: u :: u :: u :: u :: u :: u :: u :: u :: u :: u :: u :: u :: u :: u :: u :: u :: u :: u :: u :: u :: u :: u :: u :: u :: u :: u :: u :: u :: u :: u :: u :: u :: u :: u :: u :: u :: u :: u :: .bool true :: u :: u :: u :: u :: u :: u :: u :: u :: u :: u :: u :: u :: u :: u :: u :: u :: u :: u :: u :: u :: u :: u :: u :: u :: u :: u :: u :: u :: u :: u :: u :: u :: u :: u :: u :: u :: u :: u :: u :: u :: u :: [])) rfl ?_
              exact cut_n hK110 ⟨_, (Option.some.inj h).symm, rfl, hS⟩
            · try simp only [W, EE, Nat.reduceAdd, Nat.reduceBEq, hS.var 3 rfl, hc]
              refine w_call h fun b112 hb112 h => ?_
              refine spec_l1In_w hb112 hS fun H hS => ?_
              try simp only [W, reduceIte, Bool.false_eq_true]
              refine seq_n hK111 ?_
              refine w_killE (s' := (u :: u :: .ptr ip2 wp2 0 0 :: .ptr ip4 wp4 0 0 :: .ptr ip6 wp6 0 0 :: u :: u :: u :: u :: u :: u :: u :: u :: u :: u :: u :: u :: u :: u :: u :: u :: u :: u :: u :: u :: u :: u :: u :: u :: u :: u :: u :: u :: u :: u :: u :: u :: u :: u :: u :: u :: u :: u :: u :: u :: u :: u :: u :: u :: u :: u :: u :: u :: u :: u :: u :: u :: u :: u :: u :: u :: u :: u :: u :: u :: u :: u :: u :: u :: u :: u :: u :: u :: u :: u :: u :: u :: u :: u :: u :: u :: u :: u :: u :: u :: u :: u :: u :: u :: u :: u :: u :: u :: u :: u :: u :: u :: u :: u :: u :: u :: u :: u :: u :: u :: u :: u :: u :: u :: u :: u :: u :: u :: u :: u :: u :: u :: u :: u :: u :: u :: u :: u :: u :: u :: u :: u :: u :: u :: u :: u :: .bool (!b112) :: u :: u :: u :: u :: u :: u :: u :: u :: u :: u :: u :: u :: u :: u :: u :: u :: u :: u :: u :: u :: u :: u :: u :: u :: u :: u :: u :: u :: u :: u :: u :: u :: u :: u :: u :: u :: u :: u :: u :: u :: u :: [])) rfl ?_
              exact cut_n hK110 ⟨_, (Option.some.inj h).symm, rfl, hS⟩
        · obtain ⟨x107, ey, rfl, hS⟩ := hq; obtain rfl := ey.symm
          replace h := g109
          try dsimp only at h
          refine seq_n hK106 ?_
          refine w_if ?_
          simp only [W]
          refine w_cnd h (fun hc h => ?_) (fun hc h => ?_)
          · refine w_seq fun K113 hK113 => ?_
            refine w_reg gC ?_
            try simp only [W, EE, reduceIte, Nat.reduceAdd, Nat.reduceLeDiff, hS.var 2 rfl]
            refine w_stv (a := .agg [.int .i64 a0.Now, m1, m2]) (y' := .agg [.int .i64 a0.Now, m1, m2]) 4 hS rfl rfl rfl rfl rfl (by simp only [storA, List.all_cons, List.all_nil, qm1.stor, qm2.stor]; rfl) rfl rfl fun H hS => ?_
            try simp only [W]
            refine seq_n hK113 ?_
            refine w_ret ?_
            refine seq_r hK105 ?_
            refine fin_r hK0 (res_c rfl rfl (hS.var 4 rfl) rfl (res_tc rfl rfl)) ?_
            try obtain rfl := Option.some.inj h
            exact hP _ qm1 _ qm2 _ (hS.sel 5 [0, 1] (by decide))
          · refine w_skip ?_
            refine seq_n hK105 ?_
            refine w_seq fun K114 hK114 => ?_
            refine w_reg gC ?_
            try simp only [W, EE, Nat.reduceAdd, Nat.reduceBEq, hS.var 2 rfl, hS.var 3 rfl]
            refine w_ow 1 hS rfl rfl rfl rfl rfl h (fun b115 in116 wn116 on116 hb115 h en116 => ?_) qm2.ne
            obtain ⟨kn116, hbn116, hen116⟩ := hS.elem 1 rfl en116 hb115
            try simp only [W, EE, EN, reduceIte, Nat.reduceAdd, Nat.reduceLeDiff, hbn116, hen116]
            refine w_alloc hS rfl rfl fun ip117 wp117 H hS => ?_
            try simp only [W]
            refine w_stv (a := .agg [.int .i64 b115.Kind, .int .i64 b115.Case, .int .i64 b115.What]) (y' := .agg [.int .i64 b115.Kind, .int .i64 b115.Case, .int .i64 b115.What]) 0 hS rfl rfl rfl rfl rfl rfl rfl rfl fun H hS => ?_
            try simp only [W]
            refine seq_n hK114 ?_
            refine w_seq fun K119 hK119 => ?_
            refine w_seq fun K120 hK120 => ?_
            refine w_reg gC ?_
            try simp only [W, EE, Nat.reduceAdd, Nat.reduceBEq, hS.var 4 rfl]
            refine seq_n hK120 ?_
            refine w_if ?_
            simp only [W]
            refine w_cnd h (fun hc h => ?_) (fun hc h => ?_)
            · refine w_seq fun K121 hK121 => ?_
              refine w_seq fun K122 hK122 => ?_
              refine w_reg gC ?_
              try simp only [W, EE, Nat.reduceAdd, Nat.reduceBEq, hS.var 3 rfl]
              refine w_len 2 hS rfl qm2 rfl ?_
              try simp only [W, EE]
              refine seq_n hK122 ?_
              refine w_if ?_
              simp only [W]
              refine w_cnd h (fun hc h => ?_) (fun hc h => ?_)
              · refine w_seq fun K123 hK123 => ?_
                refine w_reg gC ?_
                try simp only [W, EE, reduceIte, Nat.reduceAdd, Nat.reduceLeDiff, hS.var 3 rfl]
                refine w_stv (a := .agg [.int .i64 a0.Now, m1, m2]) (y' := .agg [.int .i64 a0.Now, m1, m2]) 5 hS rfl rfl rfl rfl rfl (by simp only [storA, List.all_cons, List.all_nil, qm1.stor, qm2.stor]; rfl) rfl rfl fun H hS => ?_
                try simp only [W]
                refine seq_n hK123 ?_
                refine w_ret ?_
                refine seq_r hK121 ?_
                refine seq_r hK119 ?_
                refine fin_r hK0 (res_c rfl rfl (hS.var 5 rfl) rfl (res_tc rfl rfl)) ?_
                try obtain rfl := Option.some.inj h
                exact hP _ qm1 _ qm2 _ (hS.sel 6 [1, 2] (by decide))
              · refine w_skip ?_
                refine seq_n hK121 ?_
                refine w_seq fun K124 hK124 => ?_
                refine w_reg gC ?_
                try simp only [W, EE, reduceIte, Nat.reduceAdd, Nat.reduceLeDiff, hS.var 0 rfl, hS.var 3 rfl]
                refine w_call h fun b125 hb125 h => ?_
                refine spec_l16Write_w hb125 (hS.sel 6 [1, 2, 0, 3, 4, 5] (by decide)) qm1 qm2 fun v126 qv126 v128 qv128 H hS => ?_
                try simp only [W]
                refine w_stv (a := .agg [.int .i64 b125.Now, v126, v128]) (y' := .agg [.int .i64 b125.Now, v126, v128]) 5 hS rfl rfl rfl rfl rfl (by simp only [storA, List.all_cons, List.all_nil, qv126.stor, qv128.stor]; rfl) rfl rfl fun H hS => ?_
                try simp only [W]
                refine seq_n hK124 ?_
                refine w_ret ?_
                refine seq_r hK119 ?_
                refine fin_r hK0 (res_c rfl rfl (hS.var 5 rfl) rfl (res_tc rfl rfl)) ?_
                try obtain rfl := Option.some.inj h
                exact hP _ qv126 _ qv128 _ (hS.sel 6 [0, 1] (by decide))
            · refine w_skip ?_
              refine seq_n hK119 ?_
              refine w_seq fun K130 hK130 => ?_
              refine w_reg gC ?_
              try simp only [W, Nat.reduceAdd]
              refine w_lit0 rfl rfl ?_
              try simp only [W, EE, Nat.reduceAdd, Nat.reduceBEq, hS.var 3 rfl, hS.var 4 rfl]
              refine w_slW 2 hS rfl qm2 rfl rfl rfl h fun v132 x131 qv132 wv132 hx131 h => ?_
              try simp only [W, EE]
              have hS := hS.e0_ 3
              refine w_appV (l := ([] : List Slip)) (c := e_Slip) 0 hS rfl isSl_e0 rfl rfl rfl (hS.elemsW 3 rfl wv132 hx131) (fun _ => rfl) rfl h fun v135 H x134 qv135 hm h hS => ?_
              try simp only [W]
              refine seq_n hK130 ?_
              refine w_seq fun K137 hK137 => ?_
              refine w_reg gC ?_
              try simp only [W, EE, Nat.reduceAdd, Nat.reduceBEq, hS.var 4 rfl, hS.var 5 rfl]
              refine w_slO 3 hS rfl qm2 rfl rfl rfl h fun v139 x138 qv139 hx138 h hS => ?_
              try simp only [W, EE]
              refine w_appV (l := x134) (c := e_Slip) 0 hS rfl qv135 rfl rfl rfl (hS.elems 3 rfl qv139) (fun _ => rfl) rfl h fun v142 H x141 qv142 hm h hS => ?_
              try simp only [W, EE, Nat.reduceAdd, Nat.reduceBEq, hS.var 4 rfl]
              refine w_stv (a := v142) (y' := .agg [.int .i64 a0.Now, m1, v142]) 4 hS rfl rfl rfl rfl (by rw [qv142.cells]; rfl) qv142.stora (qv142.wr _ _ (by simp)) rfl fun H hS => ?_
              try simp only [W]
              refine seq_n hK137 ?_
              refine w_seq fun K144 hK144 => ?_
              refine w_seq fun K145 hK145 => ?_
              refine w_reg gC ?_
              try simp only [W, EE, Nat.reduceAdd, Nat.reduceBEq, hS.var 5 rfl]
              refine seq_n hK145 ?_
              refine w_if ?_
              simp only [W]
              refine w_cnd h (fun hc h => ?_) (fun hc h => ?_)
              · refine w_seq fun K146 hK146 => ?_
                refine w_reg gC ?_
                try simp only [W, EE, reduceIte, Nat.reduceAdd, Nat.reduceLeDiff, hS.var 1 rfl, hS.var 4 rfl]
                refine w_call h fun b147 hb147 h => ?_
                refine spec_l16Take_w hb147 (hS.sel 7 [2, 0, 1, 3, 4, 5, 6] (by decide)) qm1 qv142 fun v148 qv148 v150 qv150 H hS => ?_
                try simp only [W]
                refine w_stv (a := .agg [.int .i64 b147.Now, v148, v150]) (y' := .agg [.int .i64 b147.Now, v148, v150]) 6 hS rfl rfl rfl rfl rfl (by simp only [storA, List.all_cons, List.all_nil, qv148.stor, qv150.stor]; rfl) rfl rfl fun H hS => ?_
                try simp only [W]
                refine seq_n hK146 ?_
                refine w_ret ?_
                refine seq_r hK144 ?_
                refine fin_r hK0 (res_c rfl rfl (hS.var 6 rfl) rfl (res_tc rfl rfl)) ?_
                try obtain rfl := Option.some.inj h
                exact hP _ qv148 _ qv150 _ (hS.sel 7 [0, 1] (by decide))
              · refine w_skip ?_
                refine seq_n hK144 ?_
                refine w_seq fun K152 hK152 => ?_
                refine w_reg gC ?_
                try simp only [W, EE, reduceIte, Nat.reduceAdd, Nat.reduceLeDiff, hS.var 4 rfl]
                refine w_stv (a := .agg [.int .i64 a0.Now, m1, v142]) (y' := .agg [.int .i64 a0.Now, m1, v142]) 6 hS rfl rfl rfl rfl rfl (by simp only [storA, List.all_cons, List.all_nil, qm1.stor, qv142.stor]; rfl) rfl rfl fun H hS => ?_
                try simp only [W]
                refine seq_n hK152 ?_
                refine w_ret ?_
                refine fin_r hK0 (res_c rfl rfl (hS.var 6 rfl) rfl (res_tc rfl rfl)) ?_
                try obtain rfl := Option.some.inj h
                exact hP _ qm1 _ qv142 _ (hS.sel 7 [2, 0] (by decide))
theorem spec_SettleCourt_w {a0 : Court} {r : (Court × Int × Bool)} (h : spec_SettleCourt a0 = some r) {F : List It} {H : Heap} (hS : Own H (F)) {P : AV → Heap → Prop} (hP : ∀ v86 : AV, isSl v86 → ∀ v88 : AV, isSl v88 → ∀ H', Own H' (⟨v86, 4, r.1.Cases.map e_Case⟩ :: ⟨v88, 3, r.1.Line.map e_Slip⟩ :: F) → P (.tup [.agg [.int .i64 r.1.Now, v86, v88], .int .i64 r.2.1, .bool r.2.2]) H') : ACall C 89 [.agg [.int .i64 a0.Now, .fz (a0.Cases.map e_Case), .fz (a0.Line.map e_Slip)]] H P := by
  refine acall_of gC (res := [.cell 2 68, .tmp 3, .tmp 4]) (n := 45) rfl rfl rfl rfl fun K0 hK0 => ?_
  simp only [W, Nat.reduceSub, Nat.reduceAdd, List.replicate]
  unfold spec_SettleCourt at h
  refine w_seq fun K1 hK1 => ?_
  refine w_reg gC ?_
  try simp only [W, Nat.reduceAdd]
  refine w_box hS rfl rfl rfl rfl fun ip2 wp2 H hS => ?_
  try simp only [W]
  refine w_alloc hS rfl rfl fun ip4 wp4 H hS => ?_
  try simp only [W]
  refine seq_n hK1 ?_
  refine w_seq fun K6 hK6 => ?_
  refine w_seq fun K7 hK7 => ?_
  refine w_reg gC ?_
  try simp only [W, EE, reduceIte, Nat.reduceAdd, Nat.reduceLeDiff, hS.var 1 rfl]
  refine w_call h fun b8 hb8 h => ?_
  refine spec_GoodCourt_w hb8 hS fun H hS => ?_
  try simp only [W]
  refine seq_n hK7 ?_
  refine w_if ?_
  simp only [W]
  refine w_cnd h (fun hc h => ?_) (fun hc h => ?_)
  · refine w_seq fun K9 hK9 => ?_
    refine w_reg gC ?_
    try simp only [W, EE, Nat.reduceAdd]
    refine w_bld rfl rfl rfl rfl rfl ?_
    try simp only [W]
    refine w_stv (a := .agg [.int .i64 0, .nil, .nil]) (y' := .agg [.int .i64 0, .nil, .nil]) 0 hS rfl rfl rfl rfl rfl rfl rfl rfl fun H hS => ?_
    try simp only [W]
    refine seq_n hK9 ?_
    refine w_ret ?_
    refine seq_r hK6 ?_
    refine fin_r hK0 (res_c rfl rfl (hS.var 0 rfl) rfl (res_tc rfl (res_tc rfl rfl))) ?_
    try obtain rfl := Option.some.inj h
    exact hP _ isSl_nil _ isSl_nil _ (((hS.nil_ 3).nil_ 4).sel 4 [0, 1] (by decide))
  · refine w_skip ?_
    refine seq_n hK6 ?_
    refine w_seq fun K10 hK10 => ?_
    refine w_reg gC ?_
    try simp only [W, EE, reduceIte, Nat.reduceAdd, Nat.reduceLeDiff, hS.var 1 rfl]
    refine w_call h fun b11 hb11 h => ?_
    refine spec_l16Own_w hb11 hS fun v12 qv12 v14 qv14 H hS => ?_
    try simp only [W]
    refine w_alloc hS rfl rfl fun ip16 wp16 H hS => ?_
    try simp only [W]
    refine w_stv (a := .agg [.int .i64 b11.Now, v12, v14]) (y' := .agg [.int .i64 b11.Now, v12, v14]) 0 hS rfl rfl rfl rfl rfl (by simp only [storA, List.all_cons, List.all_nil, qv12.stor, qv14.stor]; rfl) rfl rfl fun H hS => ?_
    try simp only [W]
    refine seq_n hK10 ?_
    refine w_seq fun K18 hK18 => ?_
    refine w_reg gC ?_
    try simp only [W, Nat.reduceAdd]
    refine seq_n hK18 ?_
    refine w_seq fun K19 hK19 => ?_
    refine w_seq fun K20 hK20 => ?_
    refine w_reg gC ?_
    try simp only [W, EE, reduceIte, Nat.reduceAdd, Nat.reduceLeDiff, hS.var 0 rfl]
    refine w_callS (rsh := [[.sc]]) (ys := [.agg [.int .i64 b11.Now, .fz (b11.Cases.map e_Case), .fz (b11.Line.map e_Slip)]]) h rfl (pv_c (sn_agg (sm_c rfl (sm_c (sn_ow hS 1 rfl qv12 (fun _ => rfl)) (sm_c (sn_ow hS 2 rfl qv14 (fun _ => rfl)) (sm_n _))))) pv_n) fun b21 hb21 h => ⟨.int .i64 b21, spec_l16Open_w hb21 (Own.nil _) fun H hS => TV_ok rfl (TV_p rfl (TV_n rfl)), ⟨rfl, rfl, fun _ => rfl⟩, ?_⟩
    try simp only [W]
    refine seq_n hK20 ?_
    obtain ⟨y37, hw38, g44⟩ := Option.bind_eq_some_iff.1 h
    refine w_join gC (fun s H => ∃ x31 : Int, ∃ x32 : Int, ∃ x33 : List Case, ∃ x35 : List Slip, y37 = (x31, x32, x33, x35) ∧ ∃ v34 : AV, isSl v34 ∧ ∃ v36 : AV, isSl v36 ∧ s = [u, u, .ptr ip4 wp4 0 0, u, u, .ptr ip16 wp16 0 0, .int .i64 x31, u, u, u, u, u, u, u, u, u, u, u, u, u, u, u, u, u, u, u, u, u, u, u, u, u, u, u, u, u, u, u, u, u, u, u, u, u, u] ∧ Own H (⟨v34, 4, x33.map e_Case⟩ :: ⟨v36, 3, x35.map e_Slip⟩ :: ⟨.ptr ip4 wp4 0 0, 3, [.agg [.int .i64 0, .nil, .nil]]⟩ :: ⟨.ptr ip16 wp16 0 0, 3, [.agg [.int .i64 x32, v34, v36]]⟩ :: F)) (fun K39 hK39 => ?_) (fun s H hq => ?_)
    · refine w_blk fun K40 hK40 => ?_
      refine w_loop gC hw38 (fun x s H => match x with | (x22, x23, x24, x25, x28) => ∃ v26 : AV, isSl v26 ∧ ∃ v29 : AV, isSl v29 ∧ s = [u, u, .ptr ip4 wp4 0 0, u, u, .ptr ip16 wp16 0 0, .int .i64 x22, .int .i64 x23, u, u, u, u, u, u, u, u, u, u, u, u, u, u, u, u, u, u, u, u, u, u, u, u, u, u, u, u, u, u, u, u, u, u, u, u, u] ∧ Own H (⟨v26, 4, x25.map e_Case⟩ :: ⟨v29, 3, x28.map e_Slip⟩ :: ⟨.ptr ip4 wp4 0 0, 3, [.agg [.int .i64 0, .nil, .nil]]⟩ :: ⟨.ptr ip16 wp16 0 0, 3, [.agg [.int .i64 x24, v26, v29]]⟩ :: F)) ⟨_, qv12, _, qv14, rfl, (hS.sel 5 [1, 2, 3, 0] (by decide))⟩ (fun x y43 s H h hd42 hi K41 hK41 => ?_)
      obtain ⟨x22, x23, x24, x25, x28⟩ := x
      try dsimp only at hi
      obtain ⟨v26, qv26, v29, qv29, rfl, hS⟩ := hi
      simp only [spec_SettleCourt_l0] at h
      refine w_seq fun K45 hK45 => ?_
      refine w_seq fun K46 hK46 => ?_
      refine w_reg gC ?_
      try simp only [W, EE, Nat.reduceAdd]
      refine seq_n hK46 ?_
      refine w_if ?_
      simp only [W]
      refine w_cnd h (fun hc h => ?_) (fun hc h => ?_)
      · refine w_skip ?_
        refine seq_n hK45 ?_
        refine w_seq fun K47 hK47 => ?_
        refine w_blk fun K48 hK48 => ?_
        refine w_seq fun K49 hK49 => ?_
        refine w_reg gC ?_
        try simp only [W, EE, Nat.reduceAdd, Nat.reduceBEq, hS.var 3 rfl]
        refine w_stv (a := .nil) (y' := .agg [.int .i64 x24, v26, .nil]) 3 hS rfl rfl rfl rfl rfl rfl rfl rfl fun H hS => ?_
        try simp only [W]
        refine seq_n hK49 ?_
        refine w_seq fun K50 hK50 => ?_
        refine w_reg gC ?_
        try simp only [W, EE, reduceIte, Nat.reduceAdd, Nat.reduceLeDiff, hS.var 3 rfl]
        refine w_bld rfl rfl rfl rfl rfl ?_
        try simp only [W]
        have hS := hS.nil_ 3
        refine w_call h fun b52 hb52 h => ?_
        obtain ⟨b53, b54⟩ := b52
        try dsimp only at h
        refine spec_l16Step_w hb52 (hS.sel 5 [1, 0, 2, 3, 4] (by decide)) qv26 isSl_nil fun v55 qv55 v57 qv57 H hS => ?_
        try simp only [W]
        refine w_stv (a := .agg [.int .i64 b53.Now, v55, v57]) (y' := .agg [.int .i64 b53.Now, v55, v57]) 4 hS rfl rfl rfl rfl rfl (by simp only [storA, List.all_cons, List.all_nil, qv55.stor, qv57.stor]; rfl) rfl rfl fun H hS => ?_
        try simp only [W]
        refine seq_n hK50 ?_
        refine w_seq fun K59 hK59 => ?_
        refine w_reg gC ?_
        try simp only [W, EE, reduceIte, Nat.reduceAdd, Nat.reduceLeDiff, hS.var 4 rfl]
        refine w_bld rfl rfl rfl rfl rfl ?_
        try simp only [W]
        refine w_call h fun b60 hb60 h => ?_
        obtain ⟨b61, b62⟩ := b60
        try dsimp only at h
        refine spec_l16Step_w hb60 hS qv55 qv57 fun v63 qv63 v65 qv65 H hS => ?_
        try simp only [W]
        refine w_stv (a := .agg [.int .i64 b61.Now, v63, v65]) (y' := .agg [.int .i64 b61.Now, v63, v65]) 4 hS rfl rfl rfl rfl rfl (by simp only [storA, List.all_cons, List.all_nil, qv63.stor, qv65.stor]; rfl) rfl rfl fun H hS => ?_
        try simp only [W]
        refine seq_n hK59 ?_
        refine w_seq fun K67 hK67 => ?_
        refine w_reg gC ?_
        try simp only [W, EE, reduceIte, Nat.reduceAdd, Nat.reduceLeDiff, hS.var 4 rfl]
        refine w_bld rfl rfl rfl rfl rfl ?_
        try simp only [W]
        refine w_call h fun b68 hb68 h => ?_
        obtain ⟨b69, b70⟩ := b68
        try dsimp only at h
        refine spec_l16Step_w hb68 hS qv63 qv65 fun v71 qv71 v73 qv73 H hS => ?_
        try simp only [W]
        refine w_stv (a := .agg [.int .i64 b69.Now, v71, v73]) (y' := .agg [.int .i64 b69.Now, v71, v73]) 4 hS rfl rfl rfl rfl rfl (by simp only [storA, List.all_cons, List.all_nil, qv71.stor, qv73.stor]; rfl) rfl rfl fun H hS => ?_
        try simp only [W]
        refine seq_n hK67 ?_
        refine w_reg gC ?_
        try simp only [W, EE, Nat.reduceAdd]
        refine blk_n0 hK48 ?_
        refine seq_n hK47 ?_
        refine w_reg gC ?_
        try simp only [W, EE, reduceIte, Nat.reduceAdd, Nat.reduceLeDiff, hS.var 4 rfl]
        refine w_callS (rsh := [[.sc]]) (ys := [.agg [.int .i64 b69.Now, .fz (b69.Cases.map e_Case), .fz (b69.Line.map e_Slip)]]) h rfl (pv_c (sn_agg (sm_c rfl (sm_c (sn_ow hS 0 rfl qv71 (fun _ => rfl)) (sm_c (sn_ow hS 1 rfl qv73 (fun _ => rfl)) (sm_n _))))) pv_n) fun b75 hb75 h => ⟨.int .i64 b75, spec_l16Open_w hb75 (Own.nil _) fun H hS => TV_ok rfl (TV_p rfl (TV_n rfl)), ⟨rfl, rfl, fun _ => rfl⟩, ?_⟩
        try simp only [W]
        exact lp_n hK41 h ⟨_, qv71, _, qv73, rfl, (hS.sel 5 [0, 1, 3, 4] (by decide))⟩
      · refine w_exit ?_
        refine seq_x hK45 ?_
        try obtain rfl := Option.some.inj h
        obtain rfl := hd42 _ rfl
        have h : (some (x22, x24, x25, x28) : Option (Int × Int × (List Case) × (List Slip))) = some (x22, x24, x25, x28) := rfl
        refine lp_x hK41 ?_
        refine blk_e hK40 ?_
        exact cut_n hK39 ⟨_, _, _, _, (Option.some.inj h).symm, _, qv26, _, qv29, rfl, hS⟩
    · obtain ⟨x31, x32, x33, x35, rfl, v34, qv34, v36, qv36, rfl, hS⟩ := hq
      replace h := g44
      try dsimp only at h
      refine seq_n hK19 ?_
      refine w_seq fun K78 hK78 => ?_
      refine w_reg gC ?_
      try simp only [W, EE, reduceIte, Nat.reduceAdd, Nat.reduceLeDiff, Nat.reduceBEq, hS.var 3 rfl, List.contains_cons, Nat.reduceBEq, Bool.or_self]
      refine w_callO (rsh := [[.sc, .sl [.sc, .sc, .sc, .sc], .sl [.sc, .sc, .sc]]]) (ys := [.agg [.int .i64 x32, .fz (x33.map e_Case), .fz (x35.map e_Slip)]]) h rfl (pv_c (sn_agg (sm_c rfl (sm_c (sn_ow hS 0 rfl qv34 (fun _ => rfl)) (sm_c (sn_ow hS 1 rfl qv36 (fun _ => rfl)) (sm_n _))))) pv_n) fun b79 hb79 h => ⟨.agg [.int .i64 b79.Now, .own 4 (b79.Cases.map e_Case), .own 3 (b79.Line.map e_Slip)], spec_l16Own_w hb79 (Own.nil _) fun v80 qv80 v81 qv81 H hS => TV_ok rfl (TV_a (TC_sc rfl (TC_ow 0 hS rfl qv80 (fun _ _ => by simp [takeE, takeT, takeC, plainA, e_Case]) fun H hS => TC_ow 0 hS rfl qv81 (fun _ _ => by simp [takeE, takeT, takeC, plainA, e_Slip]) fun H hS => TC_nil (TV_n rfl)))), (nf_a (nf_c rfl (nf_c (noFz_o _ (fun _ => rfl) _) (nf_c (noFz_o _ (fun _ => rfl) _) nf_n)))), ?_⟩
      refine thaw_1 ?_
      refine TH_a ?_
      refine TH_p (fun _ => rfl) ?_
      refine TH_o hS (fun _ _ => rfl) (fun _ => rfl) fun v83 H qv83 hS => ?_
      refine TH_o hS (fun _ _ => rfl) (fun _ => rfl) fun v85 H qv85 hS => ?_
      refine TH_n ?_
      refine TH_n ?_
      try simp only [List.headD_cons]
      try simp only [W]
      refine w_stv (a := .agg [.int .i64 b79.Now, v83, v85]) (y' := .agg [.int .i64 b79.Now, v83, v85]) 4 hS rfl rfl rfl rfl rfl (by simp only [storA, List.all_cons, List.all_nil, qv83.stor, qv85.stor]; rfl) rfl rfl fun H hS => ?_
      try simp only [W]
      refine seq_n hK78 ?_
      refine w_ret ?_
      refine fin_r hK0 (res_c rfl rfl (hS.var 4 rfl) rfl (res_tc rfl (res_tc rfl rfl))) ?_
      try obtain rfl := Option.some.inj h
      exact hP _ qv83 _ qv85 _ (hS.sel 6 [1, 0] (by decide))
theorem impl_in_w {a0 : Int} {a1 : Int} {a2 : Int} {r : (Bool)} (h : impl_in a0 a1 a2 = some r) {F : List It} {H : Heap} (hS : Own H (F)) {P : AV → Heap → Prop} (hP : ∀ H', Own H' (F) → P (.bool r) H') : ACall C 114 [.int .i64 a0, .int .i64 a1, .int .i64 a2] H P := by
  refine acall_of gC (res := [.tmp 6]) (n := 15) rfl rfl rfl rfl fun K0 hK0 => ?_
  simp only [W, Nat.reduceSub, Nat.reduceAdd, List.replicate]
  unfold impl_in at h
  refine w_seq fun K1 hK1 => ?_
  refine w_reg gC ?_
  try simp only [W, Nat.reduceAdd]
  refine seq_n hK1 ?_
  refine w_seq fun K2 hK2 => ?_
  refine w_reg gC ?_
  try simp only [W, EE, Nat.reduceAdd]
  refine w_grdT h (fun hc h => ?_) (fun hc h => ?_)
  · try simp only [W, EE, reduceIte, hc]
    refine seq_n hK2 ?_
    refine w_ret ?_
    refine fin_r1 hK0 rfl ?_
    try obtain rfl := Option.some.inj h
    exact hP _ hS
  · try simp only [W, hc]
    refine seq_n hK2 ?_
    refine w_ret ?_
    refine fin_r1 hK0 rfl ?_
    try obtain rfl := Option.some.inj h
    exact hP _ hS
theorem impl_isVerdict_w {a0 : Int} {r : (Bool)} (h : impl_isVerdict a0 = some r) {F : List It} {H : Heap} (hS : Own H (F)) {P : AV → Heap → Prop} (hP : ∀ H', Own H' (F) → P (.bool r) H') : ACall C 230 [.int .i64 a0] H P := by
  refine acall_of gC (res := [.tmp 2]) (n := 9) rfl rfl rfl rfl fun K0 hK0 => ?_
  simp only [W, Nat.reduceSub, Nat.reduceAdd, List.replicate]
  unfold impl_isVerdict at h
  refine w_seq fun K1 hK1 => ?_
  refine w_reg gC ?_
  try simp only [W, Nat.reduceAdd]
  refine seq_n hK1 ?_
  refine w_seq fun K2 hK2 => ?_
  refine w_reg gC ?_
  try simp only [W, EE, Nat.reduceAdd]
  refine w_grdT h (fun hc h => ?_) (fun hc h => ?_)
  · try simp only [W, hc]
    refine seq_n hK2 ?_
    refine w_ret ?_
    refine fin_r1 hK0 rfl ?_
    try obtain rfl := Option.some.inj h
    exact hP _ hS
  · try simp only [W, EE, reduceIte, Bool.false_eq_true, hc]
    refine seq_n hK2 ?_
    refine w_ret ?_
    refine fin_r1 hK0 rfl ?_
    try obtain rfl := Option.some.inj h
    exact hP _ hS
theorem impl_Court_isSlip_w {a0 : Court} {a1 : Slip} {i0 : Nat} {w0 : Nat} {r : (Bool)} (h : impl_Court_isSlip a0 a1 = some r) {F : List It} {H : Heap} (hm0 : ⟨.ptr i0 w0 0 0, 3, [.agg [.int .i64 a0.Now, .fz (a0.Cases.map e_Case), .fz (a0.Line.map e_Slip)]]⟩ ∈ F) (hS : Own H (F)) {P : AV → Heap → Prop} (hP : ∀ H', Own H' (F) → P (.bool r) H') : ACall C 148 [.ptr i0 w0 0 0, .agg [.int .i64 a1.Kind, .int .i64 a1.Case, .int .i64 a1.What]] H P := by
  refine acall_of gC (res := [.tmp 4]) (n := 48) rfl rfl rfl rfl fun K0 hK0 => ?_
  simp only [W, Nat.reduceSub, Nat.reduceAdd, List.replicate]
  unfold impl_Court_isSlip at h
  refine w_seq fun K1 hK1 => ?_
  refine w_reg gC ?_
  try simp only [W, Nat.reduceAdd]
  refine w_box hS rfl rfl rfl rfl fun ip2 wp2 H hS => ?_
  try simp only [W]
  refine seq_n hK1 ?_
  refine w_seq fun K4 hK4 => ?_
  refine w_seq fun K5 hK5 => ?_
  refine w_draw0 gC (by kernel_rfl) ?_
  try simp only [W, EE, Nat.reduceAdd, Nat.reduceBEq, hS.varm (List.mem_cons_of_mem _ (hm0)), hS.var 0 rfl]
  refine w_callS (rsh := [[.sc]]) (ys := [.int .i64 a1.Case, .int .i64 0, .int .i64 (IntKind.i64.wrap ((a0.Cases.length : Int) - 1))]) h rfl (by rfl) fun b6 hb6 h => ⟨.bool b6, impl_in_w hb6 (Own.nil _) fun H hS => TV_ok rfl (TV_p rfl (TV_n rfl)), ⟨rfl, rfl, fun _ => rfl⟩, ?_⟩
  try simp only [W]
  refine seq_n hK5 ?_
  refine w_if ?_
  simp only [W]
  refine w_cnd h (fun hc h => ?_) (fun hc h => ?_)
  · refine w_seq fun K7 hK7 => ?_
    refine w_reg gC ?_
    try simp only [W, Nat.reduceAdd]
    refine seq_n hK7 ?_
    refine w_ret ?_
    refine seq_r hK4 ?_
    refine fin_r1 hK0 rfl ?_
    try obtain rfl := Option.some.inj h
    exact hP _ (hS.sel 1 [] (by decide))
  · refine w_skip ?_
    refine seq_n hK4 ?_
    refine w_seq fun K8 hK8 => ?_
    refine w_seq fun K9 hK9 => ?_
    refine w_reg gC ?_
    try simp only [W, EE, Nat.reduceAdd, Nat.reduceBEq, hS.var 0 rfl]
    refine seq_n hK9 ?_
    refine w_if ?_
    simp only [W]
    refine w_cnd h (fun hc h => ?_) (fun hc h => ?_)
    · refine w_seq fun K10 hK10 => ?_
      refine w_draw0 gC (by kernel_rfl) ?_
      try simp only [W, EE, Nat.reduceAdd, Nat.reduceBEq, hS.var 0 rfl]
      refine w_callS (rsh := [[.sc]]) (ys := [.int .i64 a1.What]) h rfl (by rfl) fun b11 hb11 h => ⟨.bool b11, impl_isVerdict_w hb11 (Own.nil _) fun H hS => TV_ok rfl (TV_p rfl (TV_n rfl)), ⟨rfl, rfl, fun _ => rfl⟩, ?_⟩
      try simp only [W]
      refine w_grdT h (fun hc h => ?_) (fun hc h => ?_)
      · try simp only [W, EE, Nat.reduceAdd, Nat.reduceBEq, hS.varm (List.mem_cons_of_mem _ (hm0)), hS.var 0 rfl, hc]
        refine w_fz rfl rfl rfl (fun _ => rfl) h fun b12 hb12 h => ?_
        try simp only [W, EE, EN, reduceIte, Nat.reduceAdd, Nat.reduceBEq]
        refine seq_n hK10 ?_
        refine w_ret ?_
        refine seq_r hK8 ?_
        refine fin_r1 hK0 rfl ?_
        try obtain rfl := Option.some.inj h
        exact hP _ (hS.sel 1 [] (by decide))
      · try simp only [W, hc]
        refine seq_n hK10 ?_
        refine w_ret ?_
        refine seq_r hK8 ?_
        refine fin_r1 hK0 rfl ?_
        try obtain rfl := Option.some.inj h
        exact hP _ (hS.sel 1 [] (by decide))
    · refine w_skip ?_
      refine seq_n hK8 ?_
      refine w_seq fun K13 hK13 => ?_
      refine w_reg gC ?_
      try simp only [W, EE, Nat.reduceAdd, Nat.reduceBEq, hS.var 0 rfl]
      refine w_grdT h (fun hc h => ?_) (fun hc h => ?_)
      · try simp only [W, EE, reduceIte, Nat.reduceAdd, Nat.reduceBEq, hS.var 0 rfl, hc]
        refine seq_n hK13 ?_
        refine w_ret ?_
        refine fin_r1 hK0 rfl ?_
        try obtain rfl := Option.some.inj h
        exact hP _ (hS.sel 1 [] (by decide))
      · try simp only [W, EE, reduceIte, Nat.reduceAdd, Nat.reduceBEq, Bool.false_eq_true, hS.var 0 rfl, hc]
        refine w_grdT h (fun hc h => ?_) (fun hc h => ?_)
        · try simp only [W, EE, reduceIte, Nat.reduceAdd, Nat.reduceBEq, hS.var 0 rfl, hc]
          refine seq_n hK13 ?_
          refine w_ret ?_
          refine fin_r1 hK0 rfl ?_
          try obtain rfl := Option.some.inj h
          exact hP _ (hS.sel 1 [] (by decide))
        · try simp only [W, hc]
          refine seq_n hK13 ?_
          refine w_ret ?_
          refine fin_r1 hK0 rfl ?_
          try obtain rfl := Option.some.inj h
          exact hP _ (hS.sel 1 [] (by decide))
theorem impl_GoodCourt_1_w {a0 : Slip} {a1 : Court} {i1 : Nat} {w1 : Nat} {r : (Bool)} (h : impl_GoodCourt_1 a0 a1 = some r) {F : List It} {H : Heap} (hm1 : ⟨.ptr i1 w1 0 0, 3, [.agg [.int .i64 a1.Now, .fz (a1.Cases.map e_Case), .fz (a1.Line.map e_Slip)]]⟩ ∈ F) (hS : Own H (F)) {P : AV → Heap → Prop} (hP : ∀ H', Own H' (F) → P (.bool r) H') : ACall C 147 [.agg [.int .i64 a0.Kind, .int .i64 a0.Case, .int .i64 a0.What], .ptr i1 w1 0 0] H P := by
  refine acall_of gC (res := [.tmp 3]) (n := 7) rfl rfl rfl rfl fun K0 hK0 => ?_
  simp only [W, Nat.reduceSub, Nat.reduceAdd, List.replicate]
  unfold impl_GoodCourt_1 at h
  refine w_seq fun K1 hK1 => ?_
  refine w_reg gC ?_
  try simp only [W, Nat.reduceAdd]
  refine w_box hS rfl rfl rfl rfl fun ip2 wp2 H hS => ?_
  try simp only [W]
  refine seq_n hK1 ?_
  refine w_seq fun K4 hK4 => ?_
  refine w_reg gC ?_
  try simp only [W, EE, reduceIte, Nat.reduceAdd, Nat.reduceLeDiff, hS.var 0 rfl]
  refine w_call h fun b5 hb5 h => ?_
  refine impl_Court_isSlip_w hb5 (List.mem_cons_of_mem _ (hm1)) hS fun H hS => ?_
  try simp only [W]
  refine seq_n hK4 ?_
  refine w_ret ?_
  refine fin_r1 hK0 rfl ?_
  try obtain rfl := Option.some.inj h
  exact hP _ (hS.sel 1 [] (by decide))
theorem slices_IndexFunc_impl_Slip_w {a0 : List Slip} {g1 : Slip → Option Bool} {f1 : FuncId} {c1 : List AV} {r : (Int)} (h : slices_IndexFunc_impl_Slip a0 g1 = some r) {F : List It} {H : Heap} (hg1 : ∀ {x0 : Slip} {r : Bool}, g1 x0 = some r → ∀ (L : List It) (n : Nat), L.drop n = F → ∀ (H : Heap), Own H L → ∀ (P : AV → Heap → Prop), (∀ H', Own H' L → P (.bool r) H') → ACall C f1 ([.agg [.int .i64 x0.Kind, .int .i64 x0.Case, .int .i64 x0.What]] ++ c1) H P) (hS : Own H (F)) {P : AV → Heap → Prop} (hP : ∀ H', Own H' (F) → P (.int .i64 r) H') : ACall C 229 [.fz (a0.map e_Slip), .fn f1 c1] H P := by
  refine acall_of gC (res := [.tmp 4]) (n := 19) rfl rfl rfl rfl fun K0 hK0 => ?_
  simp only [W, Nat.reduceSub, Nat.reduceAdd, List.replicate]
  unfold slices_IndexFunc_impl_Slip at h
  refine w_seq fun K1 hK1 => ?_
  refine w_reg gC ?_
  try simp only [W, Nat.reduceAdd]
  refine seq_n hK1 ?_
  refine w_seq fun K2 hK2 => ?_
  refine w_seq fun K3 hK3 => ?_
  refine w_reg gC ?_
  try simp only [W, EE, Nat.reduceAdd]
  refine seq_n hK3 ?_
  obtain ⟨y5, hw6, g12⟩ := Option.bind_eq_some_iff.1 h
  refine w_join gC (fun s H => y5 = LR.next () ∧ s = [u, u, u, u, u, u, u, u, u, u, u, u, u, u, u, u, u, u, u] ∧ Own H (F)) (fun K7 hK7 => ?_) (fun s H hq => ?_)
  · refine w_blk fun K8 hK8 => ?_
    refine w_loop gC hw6 (fun x s H => s = [.fz (a0.map e_Slip), .fn f1 c1, u, u, u, u, u, .int .i64 (a0.length : Int), .int .i64 x, u, u, u, u, u, u, u, u, u, u] ∧ Own H (F)) ⟨rfl, hS⟩ (fun x4 y11 s H h hd10 hi K9 hK9 => ?_)
    skip
    try dsimp only at hi
    obtain ⟨rfl, hS⟩ := hi
    simp only [slices_IndexFunc_impl_Slip_l0] at h
    refine w_seq fun K13 hK13 => ?_
    refine w_reg gC ?_
    try simp only [W, EE, Nat.reduceAdd]
    refine seq_n hK13 ?_
    refine w_seq fun K14 hK14 => ?_
    refine w_if ?_
    simp only [W]
    refine w_cnd h (fun hc h => ?_) (fun hc h => ?_)
    · refine w_skip ?_
      refine seq_n hK14 ?_
      refine w_seq fun K15 hK15 => ?_
      refine w_blk fun K16 hK16 => ?_
      refine w_seq fun K17 hK17 => ?_
      refine w_reg gC ?_
      try simp only [W, Nat.reduceAdd]
      refine seq_n hK17 ?_
      refine w_seq fun K18 hK18 => ?_
      refine w_reg gC ?_
      try simp only [W, EE, Nat.reduceAdd]
      refine w_fz rfl rfl rfl (fun _ => rfl) h fun b19 hb19 h => ?_
      try simp only [W, EE, EN, reduceIte, Nat.reduceAdd, Nat.reduceLeDiff]
      refine w_call h fun b20 hb20 h => ?_
      refine hg1 hb20 _ 0 rfl _ hS _ fun H hS => ?_
      try simp only [W]
      refine seq_n hK18 ?_
      refine w_if ?_
      simp only [W]
      refine w_cnd h (fun hc h => ?_) (fun hc h => ?_)
      · refine w_seq fun K21 hK21 => ?_
        refine w_reg gC ?_
        try simp only [W, Nat.reduceAdd]
        refine seq_n hK21 ?_
        refine w_ret ?_
        refine blk_r hK16 ?_
        refine seq_r hK15 ?_
        try obtain rfl := Option.some.inj h
        obtain rfl := hd10 _ rfl
        have h : (some (LR.done x4) : Option (LR Unit (Int))) = some (LR.done x4) := rfl
        refine lp_r hK9 ?_
        refine blk_r hK8 ?_
        try obtain rfl := Option.some.inj h
        obtain rfl := Option.some.inj g12
        have h : (some x4 : Option (Int)) = some x4 := rfl
        refine cut_r hK7 ?_
        refine seq_r hK2 ?_
        refine fin_r1 hK0 rfl ?_
        try obtain rfl := Option.some.inj h
        exact hP _ hS
      · refine w_skip ?_
        refine blk_n0 hK16 ?_
        refine seq_n hK15 ?_
        refine w_reg gC ?_
        try simp only [W, EE, Nat.reduceAdd]
        exact lp_n hK9 h ⟨rfl, hS⟩
    · refine w_exit ?_
      refine seq_x hK14 ?_
      try obtain rfl := Option.some.inj h
      obtain rfl := hd10 _ rfl
      have h : (some (LR.next ()) : Option (LR Unit (Int))) = some (LR.next ()) := rfl
      refine lp_x hK9 ?_
      refine blk_e hK8 ?_
      exact cut_n hK7 ⟨(Option.some.inj h).symm, rfl, hS⟩
  · obtain ⟨rfl, rfl, hS⟩ := hq
    replace h := g12
    try dsimp only at h
    refine seq_n hK2 ?_
    refine w_seq fun K28 hK28 => ?_
    refine w_reg gC ?_
    try simp only [W, Nat.reduceAdd]
    refine seq_n hK28 ?_
    refine w_ret ?_
    refine fin_r1 hK0 rfl ?_
    try obtain rfl := Option.some.inj h
    exact hP _ hS
theorem slices_ContainsFunc_impl_Slip_w {a0 : List Slip} {g1 : Slip → Option Bool} {f1 : FuncId} {c1 : List AV} {r : (Bool)} (h : slices_ContainsFunc_impl_Slip a0 g1 = some r) {F : List It} {H : Heap} (hg1 : ∀ {x0 : Slip} {r : Bool}, g1 x0 = some r → ∀ (L : List It) (n : Nat), L.drop n = F → ∀ (H : Heap), Own H L → ∀ (P : AV → Heap → Prop), (∀ H', Own H' L → P (.bool r) H') → ACall C f1 ([.agg [.int .i64 x0.Kind, .int .i64 x0.Case, .int .i64 x0.What]] ++ c1) H P) (hS : Own H (F)) {P : AV → Heap → Prop} (hP : ∀ H', Own H' (F) → P (.bool r) H') : ACall C 146 [.fz (a0.map e_Slip), .fn f1 c1] H P := by
  refine acall_of gC (res := [.tmp 4]) (n := 9) rfl rfl rfl rfl fun K0 hK0 => ?_
  simp only [W, Nat.reduceSub, Nat.reduceAdd, List.replicate]
  unfold slices_ContainsFunc_impl_Slip at h
  refine w_seq fun K1 hK1 => ?_
  refine w_reg gC ?_
  try simp only [W, Nat.reduceAdd]
  refine seq_n hK1 ?_
  refine w_seq fun K2 hK2 => ?_
  refine w_reg gC ?_
  try simp only [W, Nat.reduceAdd]
  refine w_call h fun b3 hb3 h => ?_
  refine slices_IndexFunc_impl_Slip_w hb3 hg1 hS fun H hS => ?_
  try simp only [W, EE]
  refine seq_n hK2 ?_
  refine w_ret ?_
  refine fin_r1 hK0 rfl ?_
  try obtain rfl := Option.some.inj h
  exact hP _ hS
theorem impl_GoodCourt_w {a0 : Court} {r : (Bool)} (h : impl_GoodCourt a0 = some r) {F : List It} {H : Heap} (hS : Own H (F)) {P : AV → Heap → Prop} (hP : ∀ H', Own H' (F) → P (.bool r) H') : ACall C 53 [.agg [.int .i64 a0.Now, .fz (a0.Cases.map e_Case), .fz (a0.Line.map e_Slip)]] H P := by
  refine acall_of gC (res := [.tmp 2]) (n := 68) rfl rfl rfl rfl fun K0 hK0 => ?_
  simp only [W, Nat.reduceSub, Nat.reduceAdd, List.replicate]
  unfold impl_GoodCourt at h
  refine w_seq fun K1 hK1 => ?_
  refine w_reg gC ?_
  try simp only [W, Nat.reduceAdd]
  refine w_box hS rfl rfl rfl rfl fun ip2 wp2 H hS => ?_
  try simp only [W]
  refine seq_n hK1 ?_
  refine w_seq fun K4 hK4 => ?_
  refine w_seq fun K5 hK5 => ?_
  obtain ⟨y7, h, g8⟩ := Option.bind_eq_some_iff.1 h
  refine w_join gC (fun s H => ∃ x6 : Bool, y7 = (x6) ∧ s = (u :: .ptr ip2 wp2 0 0 :: u :: u :: u :: u :: u :: u :: u :: u :: u :: u :: u :: u :: u :: u :: u :: u :: u :: u :: .bool x6 :: u :: u :: u :: u :: u :: u :: u :: u :: u :: u :: u :: u :: u :: u :: u :: u :: u :: u :: u :: u :: u :: u :: u :: u :: u :: u :: u :: u :: u :: u :: u :: u :: u :: u :: u :: u :: u :: u :: u :: u :: u :: u :: u :: u :: u :: u :: u :: []) ∧ Own H (⟨.ptr ip2 wp2 0 0, 3, [.agg [.int .i64 a0.Now, .fz (a0.Cases.map e_Case), .fz (a0.Line.map e_Slip)]]⟩ :: F)) (fun K9 hK9 => ?_) (fun s H hq => ?_)
  · refine w_seq fun K10 hK10 => ?_
    refine w_reg gC ?_
    try simp only [W, EE, Nat.reduceAdd, Nat.reduceBEq, hS.var 0 rfl]
    refine w_call h fun b11 hb11 h => ?_
    refine impl_in_w hb11 hS fun H hS => ?_
    try simp only [W]
    refine w_grdT h (fun hc h => ?_) (fun hc h => ?_)
    · try simp only [W, hc]
      refine seq_n hK10 ?_
      refine w_killE (s' := (u :: .ptr ip2 wp2 0 0 :: u :: u :: u :: u :: u :: u :: u :: u :: u :: u :: u :: u :: u :: u :: u :: u :: u :: u :: .bool true :: u :: u :: u :: u :: u :: u :: u :: u :: u :: u :: u :: u :: u :: u :: u :: u :: u :: u :: u :: u :: u :: u :: u :: u :: u :: u :: u :: u :: u :: u :: u :: u :: u :: u :: u :: u :: u :: u :: u :: u :: u :: u :: u :: u :: u :: u :: u :: [])) rfl ?_
      exact cut_n hK9 ⟨_, (Option.some.inj h).symm, rfl, hS⟩
    · try simp only [W, EE, reduceIte, Nat.reduceAdd, Nat.reduceBEq, Bool.false_eq_true, hS.var 0 rfl, hc]
      refine w_grdT h (fun hc h => ?_) (fun hc h => ?_)
      · try simp only [W, hc]
        refine seq_n hK10 ?_
        refine w_killE (s' := (u :: .ptr ip2 wp2 0 0 :: u :: u :: u :: u :: u :: u :: u :: u :: u :: u :: u :: u :: u :: u :: u :: u :: u :: u :: .bool true :: u :: u :: u :: u :: u :: u :: u :: u :: u :: u :: u :: u :: u :: u :: u :: u :: u :: u :: u :: u :: u :: u :: u :: u :: u :: u :: u :: u :: u :: u :: u :: u :: u :: u :: u :: u :: u :: u :: u :: u :: u :: u :: u :: u :: u :: u :: u :: [])) rfl ?_
        exact cut_n hK9 ⟨_, (Option.some.inj h).symm, rfl, hS⟩
      · try simp only [W, EE, reduceIte, Nat.reduceAdd, Nat.reduceBEq, Bool.false_eq_true, hS.var 0 rfl, hc]
        refine seq_n hK10 ?_
        refine w_killE (s' := (u :: .ptr ip2 wp2 0 0 :: u :: u :: u :: u :: u :: u :: u :: u :: u :: u :: u :: u :: u :: u :: u :: u :: u :: u :: .bool (decide (30 < (a0.Line.length : Int))) :: u :: u :: u :: u :: u :: u :: u :: u :: u :: u :: u :: u :: u :: u :: u :: u :: u :: u :: u :: u :: u :: u :: u :: u :: u :: u :: u :: u :: u :: u :: u :: u :: u :: u :: u :: u :: u :: u :: u :: u :: u :: u :: u :: u :: u :: u :: u :: [])) rfl ?_
        exact cut_n hK9 ⟨_, (Option.some.inj h).symm, rfl, hS⟩
  · obtain ⟨x6, ey, rfl, hS⟩ := hq; obtain rfl := ey.symm
    replace h := g8
    try dsimp only at h
    refine seq_n hK5 ?_
    refine w_if ?_
    simp only [W]
    refine w_cnd h (fun hc h => ?_) (fun hc h => ?_)
    · refine w_seq fun K12 hK12 => ?_
      refine w_reg gC ?_
      try simp only [W, Nat.reduceAdd]
      refine seq_n hK12 ?_
      refine w_ret ?_
      refine seq_r hK4 ?_
      refine fin_r1 hK0 rfl ?_
      try obtain rfl := Option.some.inj h
      exact hP _ (hS.sel 1 [] (by decide))
    · refine w_skip ?_
      refine seq_n hK4 ?_
      refine w_seq fun K13 hK13 => ?_
      refine w_seq fun K14 hK14 => ?_
      refine w_reg gC ?_
      try simp only [W, EE, Nat.reduceAdd, Nat.reduceBEq, hS.var 0 rfl]
      refine seq_n hK14 ?_
      obtain ⟨y16, hw17, g23⟩ := Option.bind_eq_some_iff.1 h
      refine w_join gC (fun s H => y16 = LR.next () ∧ s = (u :: .ptr ip2 wp2 0 0 :: u :: u :: u :: u :: u :: u :: u :: u :: u :: u :: u :: u :: u :: u :: u :: u :: u :: u :: u :: u :: u :: u :: u :: u :: u :: u :: u :: u :: u :: u :: u :: u :: u :: u :: u :: u :: u :: u :: u :: u :: u :: u :: u :: u :: u :: u :: u :: u :: u :: u :: u :: u :: u :: u :: u :: u :: u :: u :: u :: u :: u :: u :: u :: u :: u :: u :: []) ∧ Own H (⟨.ptr ip2 wp2 0 0, 3, [.agg [.int .i64 a0.Now, .fz (a0.Cases.map e_Case), .fz (a0.Line.map e_Slip)]]⟩ :: F)) (fun K18 hK18 => ?_) (fun s H hq => ?_)
      · refine w_blk fun K19 hK19 => ?_
        refine w_loop gC hw17 (fun x s H => s = (u :: .ptr ip2 wp2 0 0 :: u :: u :: u :: u :: u :: u :: u :: u :: u :: u :: u :: u :: u :: u :: u :: u :: u :: u :: u :: u :: .fz (a0.Cases.map e_Case) :: .int .i64 (a0.Cases.length : Int) :: .int .i64 x :: u :: u :: u :: u :: u :: u :: u :: u :: u :: u :: u :: u :: u :: u :: u :: u :: u :: u :: u :: u :: u :: u :: u :: u :: u :: u :: u :: u :: u :: u :: u :: u :: u :: u :: u :: u :: u :: u :: u :: u :: u :: u :: u :: []) ∧ Own H (⟨.ptr ip2 wp2 0 0, 3, [.agg [.int .i64 a0.Now, .fz (a0.Cases.map e_Case), .fz (a0.Line.map e_Slip)]]⟩ :: F)) ⟨rfl, hS⟩ (fun x15 y22 s H h hd21 hi K20 hK20 => ?_)
        skip
        try dsimp only at hi
        obtain ⟨rfl, hS⟩ := hi
        simp only [impl_GoodCourt_l0] at h
        refine w_seq fun K24 hK24 => ?_
        refine w_reg gC ?_
        try simp only [W, EE, Nat.reduceAdd]
        refine seq_n hK24 ?_
        refine w_seq fun K25 hK25 => ?_
        refine w_if ?_
        simp only [W]
        refine w_cnd h (fun hc h => ?_) (fun hc h => ?_)
        · refine w_skip ?_
          refine seq_n hK25 ?_
          refine w_seq fun K26 hK26 => ?_
          refine w_blk fun K27 hK27 => ?_
          refine w_seq fun K28 hK28 => ?_
          refine w_reg gC ?_
          try simp only [W, EE, Nat.reduceAdd]
          refine w_fz rfl rfl rfl (fun _ => rfl) h fun b29 hb29 h => ?_
          try simp only [W, EE, EN, reduceIte, Nat.reduceAdd, Nat.reduceLeDiff]
          refine w_alloc hS rfl rfl fun ip30 wp30 H hS => ?_
          try simp only [W]
          refine w_stv (a := .agg [.int .i64 b29.End, .bool b29.Asks, .int .i64 b29.Final, .int .i64 b29.Said]) (y' := .agg [.int .i64 b29.End, .bool b29.Asks, .int .i64 b29.Final, .int .i64 b29.Said]) 0 hS rfl rfl rfl rfl rfl rfl rfl rfl fun H hS => ?_
          try simp only [W]
          refine seq_n hK28 ?_
          refine w_seq fun K32 hK32 => ?_
          obtain ⟨y34, h, g35⟩ := Option.bind_eq_some_iff.1 h
          refine w_join gC (fun s H => ∃ x33 : Bool, y34 = (x33) ∧ s = (u :: .ptr ip2 wp2 0 0 :: u :: u :: u :: u :: u :: u :: u :: u :: u :: u :: u :: u :: u :: u :: u :: u :: u :: u :: u :: u :: .fz (a0.Cases.map e_Case) :: .int .i64 (a0.Cases.length : Int) :: .int .i64 x15 :: u :: u :: u :: u :: u :: u :: u :: u :: u :: u :: u :: u :: u :: u :: u :: u :: u :: u :: u :: u :: u :: u :: u :: u :: u :: u :: u :: u :: u :: u :: u :: u :: u :: u :: u :: u :: .bool x33 :: u :: u :: u :: u :: u :: u :: []) ∧ Own H (⟨.ptr ip2 wp2 0 0, 3, [.agg [.int .i64 a0.Now, .fz (a0.Cases.map e_Case), .fz (a0.Line.map e_Slip)]]⟩ :: F)) (fun K36 hK36 => ?_) (fun s H hq => ?_)
          · refine w_seq fun K37 hK37 => ?_
            refine w_reg gC ?_
            try simp only [W, EE, Nat.reduceAdd, Nat.reduceBEq, hS.var 0 rfl]
            refine w_call h fun b38 hb38 h => ?_
            refine impl_in_w hb38 hS fun H hS => ?_
            try simp only [W]
            refine w_grdT h (fun hc h => ?_) (fun hc h => ?_)
            · try simp only [W, hc]
              refine seq_n hK37 ?_
              refine w_killE (s' := (u :: .ptr ip2 wp2 0 0 :: u :: u :: u :: u :: u :: u :: u :: u :: u :: u :: u :: u :: u :: u :: u :: u :: u :: u :: u :: u :: .fz (a0.Cases.map e_Case) :: .int .i64 (a0.Cases.length : Int) :: .int .i64 x15 :: u :: u :: u :: u :: u :: u :: u :: u :: u :: u :: u :: u :: u :: u :: u :: u :: u :: u :: u :: u :: u :: u :: u :: u :: u :: u :: u :: u :: u :: u :: u :: u :: u :: u :: u :: u :: .bool true :: u :: u :: u :: u :: u :: u :: [])) rfl ?_
              exact cut_n hK36 ⟨_, (Option.some.inj h).symm, rfl, (hS.sel 2 [1] (by decide))⟩
            · try simp only [W, EE, Nat.reduceAdd, Nat.reduceBEq, hS.var 0 rfl, hc]
              refine w_call h fun b39 hb39 h => ?_
              refine impl_in_w hb39 hS fun H hS => ?_
              try simp only [W, reduceIte, Bool.false_eq_true]
              refine w_grdT h (fun hc h => ?_) (fun hc h => ?_)
              · try simp only [W, hc]
                refine seq_n hK37 ?_
                refine w_killE (s' := (u :: .ptr ip2 wp2 0 0 :: u :: u :: u :: u :: u :: u :: u :: u :: u :: u :: u :: u :: u :: u :: u :: u :: u :: u :: u :: u :: .fz (a0.Cases.map e_Case) :: .int .i64 (a0.Cases.length : Int) :: .int .i64 x15 :: u :: u :: u :: u :: u :: u :: u :: u :: u :: u :: u :: u :: u :: u :: u :: u :: u :: u :: u :: u :: u :: u :: u :: u :: u :: u :: u :: u :: u :: u :: u :: u :: u :: u :: u :: u :: .bool true :: u :: u :: u :: u :: u :: u :: [])) rfl ?_
                exact cut_n hK36 ⟨_, (Option.some.inj h).symm, rfl, (hS.sel 2 [1] (by decide))⟩
              · try simp only [W, EE, Nat.reduceAdd, Nat.reduceBEq, hS.var 0 rfl, hc]
                refine w_grdT h (fun hc h => ?_) (fun hc h => ?_)
                · try simp only [W, EE, reduceIte, Nat.reduceAdd, Nat.reduceBEq, Bool.false_eq_true, hS.var 0 rfl, hc]
                  refine w_grdT h (fun hc h => ?_) (fun hc h => ?_)
                  · try simp only [W, hc]
                    refine seq_n hK37 ?_
                    refine w_killE (s' := (u :: .ptr ip2 wp2 0 0 :: u :: u :: u :: u :: u :: u :: u :: u :: u :: u :: u :: u :: u :: u :: u :: u :: u :: u :: u :: u :: .fz (a0.Cases.map e_Case) :: .int .i64 (a0.Cases.length : Int) :: .int .i64 x15 :: u :: u :: u :: u :: u :: u :: u :: u :: u :: u :: u :: u :: u :: u :: u :: u :: u :: u :: u :: u :: u :: u :: u :: u :: u :: u :: u :: u :: u :: u :: u :: u :: u :: u :: u :: u :: .bool true :: u :: u :: u :: u :: u :: u :: [])) rfl ?_
                    exact cut_n hK36 ⟨_, (Option.some.inj h).symm, rfl, (hS.sel 2 [1] (by decide))⟩
                  · try simp only [W, EE, Nat.reduceAdd, Nat.reduceBEq, hS.var 0 rfl, hc]
                    refine w_grdT h (fun hc h => ?_) (fun hc h => ?_)
                    · try simp only [W, EE, reduceIte, Nat.reduceAdd, Nat.reduceBEq, Bool.false_eq_true, hS.var 1 rfl, hS.var 0 rfl, hc]
                      refine seq_n hK37 ?_
                      refine w_killE (s' := (u :: .ptr ip2 wp2 0 0 :: u :: u :: u :: u :: u :: u :: u :: u :: u :: u :: u :: u :: u :: u :: u :: u :: u :: u :: u :: u :: .fz (a0.Cases.map e_Case) :: .int .i64 (a0.Cases.length : Int) :: .int .i64 x15 :: u :: u :: u :: u :: u :: u :: u :: u :: u :: u :: u :: u :: u :: u :: u :: u :: u :: u :: u :: u :: u :: u :: u :: u :: u :: u :: u :: u :: u :: u :: u :: u :: u :: u :: u :: u :: .bool (decide (b29.End < a0.Now)) :: u :: u :: u :: u :: u :: u :: [])) rfl ?_
                      exact cut_n hK36 ⟨_, (Option.some.inj h).symm, rfl, (hS.sel 2 [1] (by decide))⟩
                    · try simp only [W, reduceIte, Bool.false_eq_true, hc]
                      refine seq_n hK37 ?_
                      refine w_killE (s' := (u :: .ptr ip2 wp2 0 0 :: u :: u :: u :: u :: u :: u :: u :: u :: u :: u :: u :: u :: u :: u :: u :: u :: u :: u :: u :: u :: .fz (a0.Cases.map e_Case) :: .int .i64 (a0.Cases.length : Int) :: .int .i64 x15 :: u :: u :: u :: u :: u :: u :: u :: u :: u :: u :: u :: u :: u :: u :: u :: u :: u :: u :: u :: u :: u :: u :: u :: u :: u :: u :: u :: u :: u :: u :: u :: u :: u :: u :: u :: u :: .bool false :: u :: u :: u :: u :: u :: u :: [])) rfl ?_
                      exact cut_n hK36 ⟨_, (Option.some.inj h).symm, rfl, (hS.sel 2 [1] (by decide))⟩
                · try simp only [W, EE, reduceIte, Nat.reduceAdd, Nat.reduceBEq, Bool.false_eq_true, hS.var 0 rfl, hc]
                  refine w_grdT h (fun hc h => ?_) (fun hc h => ?_)
                  · try simp only [W, EE, reduceIte, Nat.reduceAdd, Nat.reduceBEq, Bool.false_eq_true, hS.var 1 rfl, hS.var 0 rfl, hc]
                    refine seq_n hK37 ?_
                    refine w_killE (s' := (u :: .ptr ip2 wp2 0 0 :: u :: u :: u :: u :: u :: u :: u :: u :: u :: u :: u :: u :: u :: u :: u :: u :: u :: u :: u :: u :: .fz (a0.Cases.map e_Case) :: .int .i64 (a0.Cases.length : Int) :: .int .i64 x15 :: u :: u :: u :: u :: u :: u :: u :: u :: u :: u :: u :: u :: u :: u :: u :: u :: u :: u :: u :: u :: u :: u :: u :: u :: u :: u :: u :: u :: u :: u :: u :: u :: u :: u :: u :: u :: .bool (decide (b29.End < a0.Now)) :: u :: u :: u :: u :: u :: u :: [])) rfl ?_
                    exact cut_n hK36 ⟨_, (Option.some.inj h).symm, rfl, (hS.sel 2 [1] (by decide))⟩
                  · try simp only [W, reduceIte, Bool.false_eq_true, hc]
                    refine seq_n hK37 ?_
                    refine w_killE (s' := (u :: .ptr ip2 wp2 0 0 :: u :: u :: u :: u :: u :: u :: u :: u :: u :: u :: u :: u :: u :: u :: u :: u :: u :: u :: u :: u :: .fz (a0.Cases.map e_Case) :: .int .i64 (a0.Cases.length : Int) :: .int .i64 x15 :: u :: u :: u :: u :: u :: u :: u :: u :: u :: u :: u :: u :: u :: u :: u :: u :: u :: u :: u :: u :: u :: u :: u :: u :: u :: u :: u :: u :: u :: u :: u :: u :: u :: u :: u :: u :: .bool false :: u :: u :: u :: u :: u :: u :: [])) rfl ?_
                    exact cut_n hK36 ⟨_, (Option.some.inj h).symm, rfl, (hS.sel 2 [1] (by decide))⟩
          · obtain ⟨x33, ey, rfl, hS⟩ := hq; obtain rfl := ey.symm
            replace h := g35
            try dsimp only at h
            refine seq_n hK32 ?_
            refine w_if ?_
            simp only [W]
            refine w_cnd h (fun hc h => ?_) (fun hc h => ?_)
            · refine w_seq fun K40 hK40 => ?_
              refine w_reg gC ?_
              try simp only [W, Nat.reduceAdd]
              refine seq_n hK40 ?_
              refine w_ret ?_
              refine blk_r hK27 ?_
              refine seq_r hK26 ?_
              try obtain rfl := Option.some.inj h
              obtain rfl := hd21 _ rfl
              have h : (some (LR.done false) : Option (LR Unit (Bool))) = some (LR.done false) := rfl
              refine lp_r hK20 ?_
              refine blk_r hK19 ?_
              try obtain rfl := Option.some.inj h
              obtain rfl := Option.some.inj g23
              have h : (some false : Option (Bool)) = some false := rfl
              refine cut_r hK18 ?_
              refine seq_r hK13 ?_
              refine fin_r1 hK0 rfl ?_
              try obtain rfl := Option.some.inj h
              exact hP _ (hS.sel 1 [] (by decide))
            · refine w_skip ?_
              refine blk_n0 hK27 ?_
              refine seq_n hK26 ?_
              refine w_reg gC ?_
              try simp only [W, EE, Nat.reduceAdd]
              exact lp_n hK20 h ⟨rfl, hS⟩
        · refine w_exit ?_
          refine seq_x hK25 ?_
          try obtain rfl := Option.some.inj h
          obtain rfl := hd21 _ rfl
          have h : (some (LR.next ()) : Option (LR Unit (Bool))) = some (LR.next ()) := rfl
          refine lp_x hK20 ?_
          refine blk_e hK19 ?_
          exact cut_n hK18 ⟨(Option.some.inj h).symm, rfl, hS⟩
      · obtain ⟨rfl, rfl, hS⟩ := hq
        replace h := g23
        try dsimp only at h
        refine seq_n hK13 ?_
        refine w_seq fun K47 hK47 => ?_
        refine w_reg gC ?_
        try simp only [W, EE, Nat.reduceAdd, Nat.reduceBEq, hS.var 0 rfl]
        refine w_call h fun b48 hb48 h => ?_
        refine slices_ContainsFunc_impl_Slip_w hb48 (fun h _ n hL _ hS _ hP => impl_GoodCourt_1_w h (memd hL (List.mem_of_getElem? (i := 0) rfl)) hS hP) hS fun H hS => ?_
        try simp only [W]
        refine seq_n hK47 ?_
        refine w_ret ?_
        refine fin_r1 hK0 rfl ?_
        try obtain rfl := Option.some.inj h
        exact hP _ (hS.sel 1 [] (by decide))
theorem slices_Clone_impl_Case_w {a0 : List Case} {r : List Case} (h : slices_Clone_impl_Case a0 = some r) {F : List It} {H : Heap} (hS : Own H F) {P : AV → Heap → Prop} (hP : ∀ v0 : AV, isSl v0 → ∀ H', Own H' (⟨v0, 4, r.map e_Case⟩ :: F) → P v0 H') : ACall C 231 [.fz (a0.map e_Case)] H P :=
  clone_w (ids := cids) rfl (sz := 4) (b := 32) (by simp [cids]) (fun _ => rfl) (by decide) h hS hP
theorem slices_Clone_impl_Slip_w {a0 : List Slip} {r : List Slip} (h : slices_Clone_impl_Slip a0 = some r) {F : List It} {H : Heap} (hS : Own H F) {P : AV → Heap → Prop} (hP : ∀ v0 : AV, isSl v0 → ∀ H', Own H' (⟨v0, 3, r.map e_Slip⟩ :: F) → P v0 H') : ACall C 232 [.fz (a0.map e_Slip)] H P :=
  clone_w (ids := cids) rfl (sz := 3) (b := 24) (by simp [cids]) (fun _ => rfl) (by decide) h hS hP
theorem impl_Court_copied_w {a0 : Court} {r : (Court)} (h : impl_Court_copied a0 = some r) {F : List It} {H : Heap} (hS : Own H (F)) {P : AV → Heap → Prop} (hP : ∀ v15 : AV, isSl v15 → ∀ v17 : AV, isSl v17 → ∀ H', Own H' (⟨v15, 4, r.Cases.map e_Case⟩ :: ⟨v17, 3, r.Line.map e_Slip⟩ :: F) → P (.agg [.int .i64 r.Now, v15, v17]) H') : ACall C 149 [.agg [.int .i64 a0.Now, .fz (a0.Cases.map e_Case), .fz (a0.Line.map e_Slip)]] H P := by
  refine acall_of gC (res := [.cell 2 68]) (n := 12) rfl rfl rfl rfl fun K0 hK0 => ?_
  simp only [W, Nat.reduceSub, Nat.reduceAdd, List.replicate]
  unfold impl_Court_copied at h
  refine w_seq fun K1 hK1 => ?_
  refine w_reg gC ?_
  try simp only [W, Nat.reduceAdd]
  refine w_box hS rfl rfl rfl rfl fun ip2 wp2 H hS => ?_
  try simp only [W]
  refine w_alloc hS rfl rfl fun ip4 wp4 H hS => ?_
  try simp only [W]
  refine seq_n hK1 ?_
  refine w_seq fun K6 hK6 => ?_
  refine w_drawL gC [(9, [])] (by kernel_rfl) rfl (by kernel_rfl) ?_
  try simp only [W, EE, reduceIte, Nat.reduceAdd, Nat.reduceBEq, hS.var 1 rfl, tabAt, qAt, Nat.reduceEqDiff, List.contains_cons, Nat.reduceBEq, Bool.or_true, Bool.or_self]
  refine w_callO (rsh := [[.sl [.sc, .sc, .sc, .sc]]]) (ys := [.fz (a0.Cases.map e_Case)]) h rfl (by rfl) fun b7 hb7 h => ⟨.own 4 (b7.map e_Case), slices_Clone_impl_Case_w hb7 (Own.nil _) fun v8 qv8 H hS => TV_ok rfl (TV_o 0 hS rfl qv8 (fun _ _ => by simp [takeE, takeT, takeC, plainA, e_Case]) fun H hS => TV_n rfl), (noFz_o _ (fun _ => rfl) _), ?_⟩
  refine thaw_1 ?_
  refine TH_o hS (fun _ _ => rfl) (fun _ => rfl) fun v10 H qv10 hS => ?_
  refine TH_n ?_
  try simp only [List.headD_cons]
  try simp only [W, EE, Nat.reduceAdd, Nat.reduceBEq, hS.var 2 rfl, Nat.reduceBEq]
  refine w_callO (rsh := [[.sl [.sc, .sc, .sc]]]) (ys := [.fz (a0.Line.map e_Slip)]) h rfl (by rfl) fun b11 hb11 h => ⟨.own 3 (b11.map e_Slip), slices_Clone_impl_Slip_w hb11 (Own.nil _) fun v12 qv12 H hS => TV_ok rfl (TV_o 0 hS rfl qv12 (fun _ _ => by simp [takeE, takeT, takeC, plainA, e_Slip]) fun H hS => TV_n rfl), (noFz_o _ (fun _ => rfl) _), ?_⟩
  refine thaw_1 ?_
  refine TH_o hS (fun _ _ => rfl) (fun _ => rfl) fun v14 H qv14 hS => ?_
  refine TH_n ?_
  try simp only [List.headD_cons]
  try simp only [W, EE]
  refine w_bld rfl rfl rfl rfl (by simp only [fillA, qv10.stora, qv10.cells, qv14.stora, qv14.cells]; simp [E, splice, AV.cells, storA, stor1] <;> rfl) ?_
  try simp only [W]
  refine w_stv (a := .agg [.int .i64 a0.Now, v10, v14]) (y' := .agg [.int .i64 a0.Now, v10, v14]) 2 hS rfl rfl rfl rfl rfl (by simp only [storA, List.all_cons, List.all_nil, qv10.stor, qv14.stor]; rfl) rfl rfl fun H hS => ?_
  try simp only [W]
  refine seq_n hK6 ?_
  refine w_ret ?_
  refine fin_r hK0 (res_c rfl rfl (hS.var 2 rfl) rfl rfl) ?_
  try obtain rfl := Option.some.inj h
  exact hP _ qv10 _ qv14 _ (hS.sel 4 [1, 0] (by decide))
theorem slices_IndexFunc_impl_Case_w {a0 : List Case} {g1 : Case → Option Bool} {f1 : FuncId} {c1 : List AV} {r : (Int)} (h : slices_IndexFunc_impl_Case a0 g1 = some r) {F : List It} {H : Heap} (hg1 : ∀ {x0 : Case} {r : Bool}, g1 x0 = some r → ∀ (L : List It) (n : Nat), L.drop n = F → ∀ (H : Heap), Own H L → ∀ (P : AV → Heap → Prop), (∀ H', Own H' L → P (.bool r) H') → ACall C f1 ([.agg [.int .i64 x0.End, .bool x0.Asks, .int .i64 x0.Final, .int .i64 x0.Said]] ++ c1) H P) (hS : Own H (F)) {P : AV → Heap → Prop} (hP : ∀ H', Own H' (F) → P (.int .i64 r) H') : ACall C 233 [.fz (a0.map e_Case), .fn f1 c1] H P := by
  refine acall_of gC (res := [.tmp 4]) (n := 19) rfl rfl rfl rfl fun K0 hK0 => ?_
  simp only [W, Nat.reduceSub, Nat.reduceAdd, List.replicate]
  unfold slices_IndexFunc_impl_Case at h
  refine w_seq fun K1 hK1 => ?_
  refine w_reg gC ?_
  try simp only [W, Nat.reduceAdd]
  refine seq_n hK1 ?_
  refine w_seq fun K2 hK2 => ?_
  refine w_seq fun K3 hK3 => ?_
  refine w_reg gC ?_
  try simp only [W, EE, Nat.reduceAdd]
  refine seq_n hK3 ?_
  obtain ⟨y5, hw6, g12⟩ := Option.bind_eq_some_iff.1 h
  refine w_join gC (fun s H => y5 = LR.next () ∧ s = [u, u, u, u, u, u, u, u, u, u, u, u, u, u, u, u, u, u, u] ∧ Own H (F)) (fun K7 hK7 => ?_) (fun s H hq => ?_)
  · refine w_blk fun K8 hK8 => ?_
    refine w_loop gC hw6 (fun x s H => s = [.fz (a0.map e_Case), .fn f1 c1, u, u, u, u, u, .int .i64 (a0.length : Int), .int .i64 x, u, u, u, u, u, u, u, u, u, u] ∧ Own H (F)) ⟨rfl, hS⟩ (fun x4 y11 s H h hd10 hi K9 hK9 => ?_)
    skip
    try dsimp only at hi
    obtain ⟨rfl, hS⟩ := hi
    simp only [slices_IndexFunc_impl_Case_l0] at h
    refine w_seq fun K13 hK13 => ?_
    refine w_reg gC ?_
    try simp only [W, EE, Nat.reduceAdd]
    refine seq_n hK13 ?_
    refine w_seq fun K14 hK14 => ?_
    refine w_if ?_
    simp only [W]
    refine w_cnd h (fun hc h => ?_) (fun hc h => ?_)
    · refine w_skip ?_
      refine seq_n hK14 ?_
      refine w_seq fun K15 hK15 => ?_
      refine w_blk fun K16 hK16 => ?_
      refine w_seq fun K17 hK17 => ?_
      refine w_reg gC ?_
      try simp only [W, Nat.reduceAdd]
      refine seq_n hK17 ?_
      refine w_seq fun K18 hK18 => ?_
      refine w_reg gC ?_
      try simp only [W, EE, Nat.reduceAdd]
      refine w_fz rfl rfl rfl (fun _ => rfl) h fun b19 hb19 h => ?_
      try simp only [W, EE, EN, reduceIte, Nat.reduceAdd, Nat.reduceLeDiff]
      refine w_call h fun b20 hb20 h => ?_
      refine hg1 hb20 _ 0 rfl _ hS _ fun H hS => ?_
      try simp only [W]
      refine seq_n hK18 ?_
      refine w_if ?_
      simp only [W]
      refine w_cnd h (fun hc h => ?_) (fun hc h => ?_)
      · refine w_seq fun K21 hK21 => ?_
        refine w_reg gC ?_
        try simp only [W, Nat.reduceAdd]
        refine seq_n hK21 ?_
        refine w_ret ?_
        refine blk_r hK16 ?_
        refine seq_r hK15 ?_
        try obtain rfl := Option.some.inj h
        obtain rfl := hd10 _ rfl
        have h : (some (LR.done x4) : Option (LR Unit (Int))) = some (LR.done x4) := rfl
        refine lp_r hK9 ?_
        refine blk_r hK8 ?_
        try obtain rfl := Option.some.inj h
        obtain rfl := Option.some.inj g12
        have h : (some x4 : Option (Int)) = some x4 := rfl
        refine cut_r hK7 ?_
        refine seq_r hK2 ?_
        refine fin_r1 hK0 rfl ?_
        try obtain rfl := Option.some.inj h
        exact hP _ hS
      · refine w_skip ?_
        refine blk_n0 hK16 ?_
        refine seq_n hK15 ?_
        refine w_reg gC ?_
        try simp only [W, EE, Nat.reduceAdd]
        exact lp_n hK9 h ⟨rfl, hS⟩
    · refine w_exit ?_
      refine seq_x hK14 ?_
      try obtain rfl := Option.some.inj h
      obtain rfl := hd10 _ rfl
      have h : (some (LR.next ()) : Option (LR Unit (Int))) = some (LR.next ()) := rfl
      refine lp_x hK9 ?_
      refine blk_e hK8 ?_
      exact cut_n hK7 ⟨(Option.some.inj h).symm, rfl, hS⟩
  · obtain ⟨rfl, rfl, hS⟩ := hq
    replace h := g12
    try dsimp only at h
    refine seq_n hK2 ?_
    refine w_seq fun K28 hK28 => ?_
    refine w_reg gC ?_
    try simp only [W, Nat.reduceAdd]
    refine seq_n hK28 ?_
    refine w_ret ?_
    refine fin_r1 hK0 rfl ?_
    try obtain rfl := Option.some.inj h
    exact hP _ hS
theorem impl_Court_unsettled_1_w {a0 : Case} {r : (Bool)} (h : impl_Court_unsettled_1 a0 = some r) {F : List It} {H : Heap} (hS : Own H (F)) {P : AV → Heap → Prop} (hP : ∀ H', Own H' (F) → P (.bool r) H') : ACall C 234 [.agg [.int .i64 a0.End, .bool a0.Asks, .int .i64 a0.Final, .int .i64 a0.Said]] H P := by
  refine acall_of gC (res := [.tmp 2]) (n := 6) rfl rfl rfl rfl fun K0 hK0 => ?_
  simp only [W, Nat.reduceSub, Nat.reduceAdd, List.replicate]
  unfold impl_Court_unsettled_1 at h
  refine w_seq fun K1 hK1 => ?_
  refine w_reg gC ?_
  try simp only [W, Nat.reduceAdd]
  refine w_box hS rfl rfl rfl rfl fun ip2 wp2 H hS => ?_
  try simp only [W]
  refine seq_n hK1 ?_
  refine w_seq fun K4 hK4 => ?_
  refine w_reg gC ?_
  try simp only [W, EE, Nat.reduceAdd, Nat.reduceBEq, hS.var 0 rfl]
  refine seq_n hK4 ?_
  refine w_ret ?_
  refine fin_r1 hK0 rfl ?_
  try obtain rfl := Option.some.inj h
  exact hP _ (hS.sel 1 [] (by decide))
theorem impl_Court_unsettled_w {a0 : Court} {i0 : Nat} {w0 : Nat} {r : (Int)} (h : impl_Court_unsettled a0 = some r) {F : List It} {H : Heap} (hm0 : ⟨.ptr i0 w0 0 0, 3, [.agg [.int .i64 a0.Now, .fz (a0.Cases.map e_Case), .fz (a0.Line.map e_Slip)]]⟩ ∈ F) (hS : Own H (F)) {P : AV → Heap → Prop} (hP : ∀ H', Own H' (F) → P (.int .i64 r) H') : ACall C 150 [.ptr i0 w0 0 0] H P := by
  refine acall_of gC (res := [.tmp 2]) (n := 8) rfl rfl rfl rfl fun K0 hK0 => ?_
  simp only [W, Nat.reduceSub, Nat.reduceAdd, List.replicate]
  unfold impl_Court_unsettled at h
  refine w_seq fun K1 hK1 => ?_
  refine w_reg gC ?_
  try simp only [W, Nat.reduceAdd]
  refine seq_n hK1 ?_
  refine w_seq fun K2 hK2 => ?_
  refine w_reg gC ?_
  try simp only [W, EE, Nat.reduceAdd, Nat.reduceBEq, hS.varm hm0]
  refine w_call h fun b3 hb3 h => ?_
  refine slices_IndexFunc_impl_Case_w hb3 (fun h _ n hL _ hS _ hP => impl_Court_unsettled_1_w h hS hP) hS fun H hS => ?_
  try simp only [W]
  refine seq_n hK2 ?_
  refine w_ret ?_
  refine fin_r1 hK0 rfl ?_
  try obtain rfl := Option.some.inj h
  exact hP _ hS
theorem impl_Court_unsettled_wq {a0 : Court} {r : (Int)} (h : impl_Court_unsettled a0 = some r) {F : List It} {H : Heap} (hS : Own H (F)) {P : AV → Heap → Prop} (hP : ∀ H', Own H' (F) → P (.int .i64 r) H') : ACall C 150 [.fe (.agg [.int .i64 a0.Now, .fz (a0.Cases.map e_Case), .fz (a0.Line.map e_Slip)]) 0] H P := by
  refine acall_of gC (res := [.tmp 2]) (n := 8) rfl rfl rfl rfl fun K0 hK0 => ?_
  simp only [W, Nat.reduceSub, Nat.reduceAdd, List.replicate]
  unfold impl_Court_unsettled at h
  refine w_seq fun K1 hK1 => ?_
  refine w_reg gC ?_
  try simp only [W, Nat.reduceAdd]
  refine seq_n hK1 ?_
  refine w_seq fun K2 hK2 => ?_
  refine w_reg gC ?_
  try simp only [W, EE, Nat.reduceAdd, Nat.reduceBEq]
  refine w_call h fun b3 hb3 h => ?_
  refine slices_IndexFunc_impl_Case_w hb3 (fun h _ n hL _ hS _ hP => impl_Court_unsettled_1_w h hS hP) hS fun H hS => ?_
  try simp only [W]
  refine seq_n hK2 ?_
  refine w_ret ?_
  refine fin_r1 hK0 rfl ?_
  try obtain rfl := Option.some.inj h
  exact hP _ hS
theorem impl_Court_goes_w {a0 : Court} {a1 : Slip} {i0 : Nat} {w0 : Nat} {m101 : AV} {m102 : AV} {r : (Court)} (h : impl_Court_goes a0 a1 = some r) {F : List It} {H : Heap} (hS : Own H (⟨.ptr i0 w0 0 0, 3, [.agg [.int .i64 a0.Now, m101, m102]]⟩ :: ⟨m101, 4, a0.Cases.map e_Case⟩ :: ⟨m102, 3, a0.Line.map e_Slip⟩ :: F)) (qm101 : isSl m101) (qm102 : isSl m102) {P : AV → Heap → Prop} (hP : ∀ nm101 : AV, isSl nm101 → ∀ nm102 : AV, isSl nm102 → ∀ H', Own H' (⟨.ptr i0 w0 0 0, 3, [.agg [.int .i64 r.Now, nm101, nm102]]⟩ :: ⟨nm101, 4, r.Cases.map e_Case⟩ :: ⟨nm102, 3, r.Line.map e_Slip⟩ :: F) → P (.tup []) H') : ACall C 223 [.ptr i0 w0 0 0, .agg [.int .i64 a1.Kind, .int .i64 a1.Case, .int .i64 a1.What]] H P := by
  refine acall_of gC (res := []) (n := 20) rfl rfl rfl rfl fun K0 hK0 => ?_
  simp only [W, Nat.reduceSub, Nat.reduceAdd, List.replicate]
  unfold impl_Court_goes at h
  refine w_seq fun K1 hK1 => ?_
  refine w_reg gC ?_
  try simp only [W, Nat.reduceAdd]
  refine w_box hS rfl rfl rfl rfl fun ip2 wp2 H hS => ?_
  try simp only [W]
  refine seq_n hK1 ?_
  refine w_seq fun K4 hK4 => ?_
  refine w_reg gC ?_
  try simp only [W, EE, Nat.reduceAdd, Nat.reduceBEq, hS.var 1 rfl]
  refine w_len 3 hS rfl qm102 rfl ?_
  try simp only [W, EE]
  refine seq_n hK4 ?_
  refine w_if ?_
  simp only [W]
  refine w_cnd h (fun hc h => ?_) (fun hc h => ?_)
  · refine w_drawL gC [(7, [0]), (10, [])] (by kernel_rfl) rfl (by kernel_rfl) ?_
    try simp only [W, EE, reduceIte, Nat.reduceAdd, Nat.reduceLeDiff, Nat.reduceBEq, hS.var 1 rfl, hS.var 0 rfl, tabAt, qAt, Nat.reduceEqDiff]
    refine w_lit (el := ([a1] : List Slip).map e_Slip) hS rfl rfl rfl rfl rfl rfl rfl fun v5 H qv5 hS => ?_
    try simp only [W, EE]
    refine w_appV (l := a0.Line) (c := e_Slip) 4 hS rfl qm102 rfl rfl rfl (hS.elems 0 rfl qv5) (fun _ => rfl) rfl h fun v8 H x7 qv8 hm h hS => ?_
    refine goK_late ?_
    refine lateG_s (by first | rfl | (simp [evalOp, W, EE, EN, rdAt, mkT, subL, AV.cells, hS.var 1 rfl, hS.var 2 rfl]; done)) ?_
    refine lateG_n ?_
    try simp only [W, EE, Nat.reduceAdd, Nat.reduceBEq, hS.var 2 rfl]
    refine w_stv (a := v8) (y' := .agg [.int .i64 a0.Now, m101, v8]) 2 hS rfl rfl rfl rfl (by rw [qv8.cells]; rfl) qv8.stora (qv8.wr _ _ (by simp)) rfl fun H hS => ?_
    try simp only [W]
    refine fin_n0 hK0 ?_
    try obtain rfl := Option.some.inj h
    exact hP _ qm101 _ qv8 _ (hS.sel 5 [2, 3, 4] (by decide))
  · refine w_skip ?_
    refine fin_n0 hK0 ?_
    try obtain rfl := Option.some.inj h
    exact hP _ qm101 _ qm102 _ (hS.sel 4 [1, 2, 3] (by decide))
theorem slices_Delete_impl_Slip_w {a0 : List Slip} {a1 : Int} {a2 : Int} {m0 : AV} {r : (List Slip)} (h : slices_Delete_impl_Slip a0 a1 a2 = some r) {F : List It} {H : Heap} (hS : Own H (⟨m0, 3, a0.map e_Slip⟩ :: F)) (qm0 : isSl m0) {P : AV → Heap → Prop} (hP : ∀ v21 : AV, isSl v21 → ∀ H', Own H' (⟨v21, 3, r.map e_Slip⟩ :: F) → P (v21) H') : ACall C 224 [m0, .int .i64 a1, .int .i64 a2] H P := by
  refine acall_of gC (res := [.tmp 6]) (n := 33) rfl rfl rfl rfl fun K0 hK0 => ?_
  simp only [W, Nat.reduceSub, Nat.reduceAdd, List.replicate]
  unfold slices_Delete_impl_Slip at h
  refine w_seq fun K1 hK1 => ?_
  refine w_reg gC ?_
  try simp only [W, Nat.reduceAdd]
  refine seq_n hK1 ?_
  refine w_seq fun K2 hK2 => ?_
  refine w_reg gC ?_
  try simp only [W, EE, Nat.reduceAdd]
  refine w_len 0 hS rfl qm0 rfl ?_
  try simp only [W, EE]
  refine w_slX 0 hS rfl qm0 rfl rfl rfl rfl h fun v4 x3 hx3 h => ?_
  try simp only [W]
  refine seq_n hK2 ?_
  refine w_seq fun K5 hK5 => ?_
  refine w_seq fun K6 hK6 => ?_
  refine w_reg gC ?_
  try simp only [W, EE, Nat.reduceAdd]
  refine seq_n hK6 ?_
  refine w_if ?_
  simp only [W]
  refine w_cnd h (fun hc h => ?_) (fun hc h => ?_)
  · refine w_seq fun K7 hK7 => ?_
    refine w_reg gC ?_
    try simp only [W, Nat.reduceAdd]
    refine seq_n hK7 ?_
    refine w_ret ?_
    refine seq_r hK5 ?_
    refine fin_r1 hK0 rfl ?_
    try obtain rfl := Option.some.inj h
    exact hP _ qm0 _ hS
  · refine w_skip ?_
    refine seq_n hK5 ?_
    refine w_seq fun K8 hK8 => ?_
    refine w_reg gC ?_
    try simp only [W, EE, Nat.reduceAdd]
    refine w_len 0 hS rfl qm0 rfl ?_
    try simp only [W]
    refine seq_n hK8 ?_
    refine w_seq fun K9 hK9 => ?_
    refine w_drawL gC [(6, [])] (by kernel_rfl) rfl (by kernel_rfl) ?_
    try simp only [W, EE, reduceIte, Nat.reduceAdd, tabAt, qAt, Nat.reduceEqDiff]
    refine w_slW 0 hS rfl qm0 rfl rfl rfl h fun v11 x10 qv11 wv11 hx10 h => ?_
    try simp only [W, EE]
    refine w_slW 0 hS rfl qm0 rfl rfl rfl h fun v13 x12 qv13 wv13 hx12 h => ?_
    try simp only [W, EE]
    refine w_appW (l := a0) (c := e_Slip) 0 hS rfl qv11 wv11 hx10 rfl rfl rfl (hS.elemsW 0 rfl wv13 hx12) (fun _ => rfl) rfl h fun v15 H x14 qv15 hmv15 h hS rmv15 => ?_
    try simp only [W]
    refine seq_n hK9 ?_
    refine w_seq fun K17 hK17 => ?_
    refine w_reg gC ?_
    try simp only [W, EE, Nat.reduceAdd]
    refine w_len 0 hS rfl qv15 rfl ?_
    try simp only [W, EE]
    have rf19 := rmv15 rfl (by obtain ⟨_, _, _, _⟩ := slc_len hx3; obtain ⟨_, _, _, _⟩ := slc_len hx10; obtain ⟨_, _, _, _⟩ := slc_len hx12; simp only [Option.getD_some, Option.getD_none] at *; omega)
    have ff19 : (x14).length ≤ (a0).length := by have := app_len hmv15; obtain ⟨_, _, _, _⟩ := slc_len hx3; obtain ⟨_, _, _, _⟩ := slc_len hx10; obtain ⟨_, _, _, _⟩ := slc_len hx12; simp only [Option.getD_some, Option.getD_none] at *; omega
    refine w_slR 0 hS rfl rfl rfl rfl rf19 rfl ff19 fun v18 wv18 => ?_
    try simp only [W]
    refine w_clr 0 hS rfl rfl rfl rfl rfl rf19 ff19 wv18 fun H hS => ?_
    try simp only [W]
    refine seq_n hK17 ?_
    refine w_seq fun K20 hK20 => ?_
    refine w_reg gC ?_
    try simp only [W, Nat.reduceAdd]
    refine seq_n hK20 ?_
    refine w_ret ?_
    refine fin_r1 hK0 rfl ?_
    try obtain rfl := Option.some.inj h
    exact hP _ qv15 _ hS
theorem impl_Court_take_w {a0 : Court} {a1 : Slip} {i0 : Nat} {w0 : Nat} {m101 : AV} {m102 : AV} {r : (Court)} (h : impl_Court_take a0 a1 = some r) {F : List It} {H : Heap} (hS : Own H (⟨.ptr i0 w0 0 0, 3, [.agg [.int .i64 a0.Now, m101, m102]]⟩ :: ⟨m101, 4, a0.Cases.map e_Case⟩ :: ⟨m102, 3, a0.Line.map e_Slip⟩ :: F)) (qm101 : isSl m101) (qm102 : isSl m102) {P : AV → Heap → Prop} (hP : ∀ nm101 : AV, isSl nm101 → ∀ nm102 : AV, isSl nm102 → ∀ H', Own H' (⟨.ptr i0 w0 0 0, 3, [.agg [.int .i64 r.Now, nm101, nm102]]⟩ :: ⟨nm101, 4, r.Cases.map e_Case⟩ :: ⟨nm102, 3, r.Line.map e_Slip⟩ :: F) → P (.tup []) H') : ACall C 225 [.ptr i0 w0 0 0, .agg [.int .i64 a1.Kind, .int .i64 a1.Case, .int .i64 a1.What]] H P := by
  refine acall_of gC (res := []) (n := 43) rfl rfl rfl rfl fun K0 hK0 => ?_
  simp only [W, Nat.reduceSub, Nat.reduceAdd, List.replicate]
  unfold impl_Court_take at h
  refine w_seq fun K1 hK1 => ?_
  refine w_reg gC ?_
  try simp only [W, Nat.reduceAdd]
  refine w_box hS rfl rfl rfl rfl fun ip2 wp2 H hS => ?_
  try simp only [W]
  refine seq_n hK1 ?_
  refine w_seq fun K4 hK4 => ?_
  refine w_draw0 gC (by kernel_rfl) ?_
  try simp only [W, EE, Nat.reduceAdd, Nat.reduceBEq, hS.var 1 rfl, hS.var 0 rfl]
  refine w_ow 2 hS rfl rfl rfl rfl rfl h (fun b5 in6 wn6 on6 hb5 h en6 => ?_) qm101.ne
  obtain ⟨kn6, hbn6, hen6⟩ := hS.elem 2 rfl en6 hb5
  try simp only [W]
  refine seq_n hK4 ?_
  refine w_seq fun K7 hK7 => ?_
  refine w_seq fun K8 hK8 => ?_
  refine w_reg gC ?_
  try simp only [W, EE, Nat.reduceAdd, Nat.reduceBEq, hS.var 0 rfl]
  refine seq_n hK8 ?_
  refine w_if ?_
  simp only [W]
  refine w_cnd h (fun hc h => ?_) (fun hc h => ?_)
  · refine w_seq fun K9 hK9 => ?_
    refine w_reg gC ?_
    try simp only [W, EE, Nat.reduceAdd, Nat.reduceBEq, hS.var 0 rfl, hbn6]
    refine w_ste (a := .int .i64 a1.What) (y' := (⟨b5.End, b5.Asks, a1.What, b5.Said⟩ : Case)) 2 hS rfl en6 hb5 rfl rfl rfl rfl rfl rfl rfl fun H hS => ?_
    try simp only [W]
    refine seq_n hK9 ?_
    refine w_ret ?_
    refine seq_r hK7 ?_
    refine fin_r0 hK0 ?_
    try obtain rfl := Option.some.inj h
    exact hP _ qm101 _ qm102 _ (hS.sel 4 [1, 2, 3] (by decide))
  · refine w_skip ?_
    refine seq_n hK7 ?_
    refine w_seq fun K10 hK10 => ?_
    refine w_seq fun K11 hK11 => ?_
    refine w_reg gC ?_
    try simp only [W, EE, EN, Nat.reduceAdd, Nat.reduceBEq, hbn6, hen6]
    refine seq_n hK11 ?_
    obtain ⟨y13, h, g14⟩ := Option.bind_eq_some_iff.1 h
    refine w_join gC (fun s H => ∃ x12 : List Case, y13 = (x12) ∧ s = [.ptr i0 w0 0 0, u, u, .ptr ip2 wp2 0 0, .ptr in6 wn6 (on6 + a1.Case.toNat) 0, u, u, u, u, u, u, u, u, u, u, u, u, u, u, u, u, u, u, u, u, u, u, u, u, u, u, u, u, u, u, u, u, u, u, u, u, u, u] ∧ Own H (⟨m101, 4, x12.map e_Case⟩ :: ⟨m102, 3, a0.Line.map e_Slip⟩ :: ⟨.ptr i0 w0 0 0, 3, [.agg [.int .i64 a0.Now, m101, m102]]⟩ :: ⟨.ptr ip2 wp2 0 0, 3, [.agg [.int .i64 a1.Kind, .int .i64 a1.Case, .int .i64 a1.What]]⟩ :: F)) (fun K15 hK15 => ?_) (fun s H hq => ?_)
    · refine w_seq fun K16 hK16 => ?_
      refine w_if ?_
      simp only [W]
      refine w_cnd h (fun hc h => ?_) (fun hc h => ?_)
      · refine w_seq fun K17 hK17 => ?_
        refine w_reg gC ?_
        try simp only [W, EE, Nat.reduceAdd, Nat.reduceBEq, hbn6]
        refine w_ste (a := .int .i64 1) (y' := (⟨b5.End, b5.Asks, b5.Final, 1⟩ : Case)) 2 hS rfl en6 hb5 rfl rfl rfl rfl rfl rfl rfl fun H hS => ?_
        try simp only [W]
        refine seq_n hK17 ?_
        refine w_seq fun K18 hK18 => ?_
        refine w_reg gC ?_
        try simp only [W, EE, Nat.reduceAdd, Nat.reduceBEq, hS.var 0 rfl]
        refine seq_n hK18 ?_
        obtain ⟨y20, h, g21⟩ := Option.bind_eq_some_iff.1 h
        refine w_join gC (fun s H => ∃ x19 : List Case, y20 = (x19) ∧ s = [.ptr i0 w0 0 0, u, u, .ptr ip2 wp2 0 0, .ptr in6 wn6 (on6 + a1.Case.toNat) 0, u, u, u, u, u, u, u, u, u, u, u, u, u, u, u, u, u, u, u, u, u, u, u, u, u, u, u, u, u, u, u, u, u, u, u, u, u, u] ∧ Own H (⟨m101, 4, x19.map e_Case⟩ :: ⟨m102, 3, a0.Line.map e_Slip⟩ :: ⟨.ptr i0 w0 0 0, 3, [.agg [.int .i64 a0.Now, m101, m102]]⟩ :: ⟨.ptr ip2 wp2 0 0, 3, [.agg [.int .i64 a1.Kind, .int .i64 a1.Case, .int .i64 a1.What]]⟩ :: F)) (fun K22 hK22 => ?_) (fun s H hq => ?_)
        · refine w_seq fun K23 hK23 => ?_
          refine w_if ?_
          simp only [W]
          refine w_cnd h (fun hc h => ?_) (fun hc h => ?_)
          · refine w_reg gC ?_
            try simp only [W, EE, Nat.reduceAdd, Nat.reduceBEq]
            obtain ⟨b25, hb25, h⟩ := Option.bind_eq_some_iff.1 h
            obtain ⟨kn24, hbn24, hen24⟩ := hS.elem 2 rfl en6 hb25
            try simp only [W, EE, EN, reduceIte, Nat.reduceAdd, Nat.reduceLeDiff, Nat.reduceBEq, Nat.reduceMul, Bool.false_eq_true]
            try simp only [W, hbn24]
            refine w_ste (a := .int .i64 2) (y' := (⟨b25.End, b25.Asks, b25.Final, 2⟩ : Case)) 2 hS rfl en6 hb25 rfl rfl rfl rfl rfl rfl rfl fun H hS => ?_
            try simp only [W]
            refine seq_n hK23 ?_
            refine w_kill ?_
            exact cut_n hK22 ⟨_, (Option.some.inj h).symm, rfl, (hS.sel 4 [2, 3, 1, 0] (by decide))⟩
          · refine w_skip ?_
            refine seq_n hK23 ?_
            refine w_kill ?_
            exact cut_n hK22 ⟨_, (Option.some.inj h).symm, rfl, (hS.sel 4 [2, 3, 1, 0] (by decide))⟩
        · obtain ⟨x19, ey, rfl, hS⟩ := hq; obtain rfl := ey.symm
          replace h := g21
          try dsimp only at h
          refine seq_n hK16 ?_
          refine w_kill ?_
          exact cut_n hK15 ⟨_, (Option.some.inj h).symm, rfl, hS⟩
      · refine w_skip ?_
        refine seq_n hK16 ?_
        refine w_kill ?_
        exact cut_n hK15 ⟨_, (Option.some.inj h).symm, rfl, (hS.sel 4 [2, 3, 1, 0] (by decide))⟩
    · obtain ⟨x12, ey, rfl, hS⟩ := hq; obtain rfl := ey.symm
      replace h := g14
      try dsimp only at h
      refine seq_n hK10 ?_
      refine w_drawL gC [(8, [])] (by kernel_rfl) rfl (by kernel_rfl) ?_
      try simp only [W, EE, reduceIte, Nat.reduceAdd, Nat.reduceBEq, hS.var 3 rfl, tabAt, qAt, Nat.reduceEqDiff]
      obtain ⟨b27, hb27, h⟩ := Option.bind_eq_some_iff.1 h
      obtain ⟨kn26, hbn26, hen26⟩ := hS.elem 0 rfl en6 hb27
      try simp only [W, EE, EN, reduceIte, Nat.reduceAdd, Nat.reduceLeDiff, Nat.reduceBEq, Nat.reduceMul, Bool.false_eq_true, tabAt, qAt, Nat.reduceEqDiff]
      try simp only [W, EE, EN, hbn26, hen26]
      refine w_bld rfl rfl rfl rfl rfl ?_
      try simp only [W]
      refine w_call h fun b28 hb28 h => ?_
      refine impl_Court_goes_w hb28 (hS.sel 4 [2, 0, 1, 3] (by decide)) qm101 qm102 fun v29 qv29 v30 qv30 H hS => ?_
      try simp only [W]
      refine fin_n0 hK0 ?_
      try obtain rfl := Option.some.inj h
      exact hP _ qv29 _ qv30 _ (hS.sel 4 [0, 1, 2] (by decide))
end Go.VxW
