import Derived.Test.YtkmcnmjjfgahpaaVyGF
import Derived.Test.YtkmcnmjjfgahpaaProg
import Derived.Test.YtkmcnmjjfgahpaaVaD
import Derived.KernelRfl
open Go Go.VS
set_option maxRecDepth 8000
set_option maxHeartbeats 4000000
namespace Go.VxW
def e_Case (x : Case) : AV := .agg [.int .i64 x.End, .bool x.Asks, .int .i64 x.Final, .int .i64 x.Said]
def e_Slip (x : Slip) : AV := .agg [.int .i64 x.Kind, .int .i64 x.Case, .int .i64 x.What]
def e_Court (x : Court) : AV := .agg [.int .i64 x.Now, .fz (x.Cases.map e_Case), .fz (x.Line.map e_Slip)]
def E : TEnv := fun t => match t with
  | 3 => some { sz := 1, agg := false, zero := [AV.int IntKind.i64 0], bytes := 8, und := UD.it IntKind.i64, eqok := true }
  | 4 => some { sz := 1, agg := false, zero := [AV.bool false], bytes := 1, und := UD.bl, eqok := true }
  | 34 => some { sz := 1, agg := false, zero := [AV.nil], bytes := 24, und := UD.sl 186, eqok := true }
  | 35 => some { sz := 1, agg := false, zero := [AV.nil], bytes := 24, und := UD.sl 188, eqok := true }
  | 37 => some { sz := 3, agg := true, zero := [AV.int IntKind.i64 0, AV.nil, AV.nil], bytes := 56, und := UD.st [(0, 3), (1, 34), (2, 35)], eqok := true }
  | 41 => some { sz := 1, agg := false, zero := [AV.nil], bytes := 24, und := UD.sl 138, eqok := true }
  | 42 => some { sz := 1, agg := false, zero := [AV.nil], bytes := 24, und := UD.sl 184, eqok := true }
  | 44 => some { sz := 3, agg := true, zero := [AV.int IntKind.i64 0, AV.nil, AV.nil], bytes := 56, und := UD.st [(0, 3), (1, 41), (2, 42)], eqok := true }
  | 138 => some { sz := 4, agg := true, zero := [AV.int IntKind.i64 0, AV.bool false, AV.int IntKind.i64 0, AV.int IntKind.i64 0], bytes := 32, und := UD.st [(0, 3), (1, 4), (2, 3), (3, 3)], eqok := true }
  | 184 => some { sz := 3, agg := true, zero := [AV.int IntKind.i64 0, AV.int IntKind.i64 0, AV.int IntKind.i64 0], bytes := 24, und := UD.st [(0, 3), (1, 3), (2, 3)], eqok := true }
  | 186 => some { sz := 4, agg := true, zero := [AV.int IntKind.i64 0, AV.bool false, AV.int IntKind.i64 0, AV.int IntKind.i64 0], bytes := 32, und := UD.st [(0, 3), (1, 4), (2, 3), (3, 3)], eqok := true }
  | 188 => some { sz := 3, agg := true, zero := [AV.int IntKind.i64 0, AV.int IntKind.i64 0, AV.int IntKind.i64 0], bytes := 24, und := UD.st [(0, 3), (1, 3), (2, 3)], eqok := true }
  | 190 => some { sz := 1, agg := false, zero := [AV.undef], bytes := 8, und := UD.ot, eqok := true }
  | 193 => some { sz := 1, agg := false, zero := [AV.undef], bytes := 8, und := UD.ot, eqok := true }
  | _ => none
def pol : FuncId → FPol := fun f => match f with
  | 6 => { rsh := [[.sc]], frz := [(8, [], some [1, 6, 34])] }
  | 24 => { rsh := [[.sc]] }
  | 25 => { rsh := [[.sc], [.sc]] }
  | 26 => { rsh := [[.sc, .sl [.sc, .sc, .sc, .sc], .sl [.sc, .sc, .sc]]] }
  | 27 => { rsh := [[.sc], [.sc]] }
  | 28 => { rsh := [[.sc]] }
  | 86 => { rsh := [[.sc]] }
  | 88 => { rsh := [[.sc]] }
  | 95 => { rsh := [[.sc]] }
  | 98 => { rsh := [[.sc]] }
  | 99 => { rsh := [[.sc]] }
  | 100 => { rsh := [[.sc]], loops := [(0, { keep := [1, 8, 9, 10] }), (2, { keep := [1, 56, 57, 58] })], blocks := [(0, [1]), (2, [1])], frz := [(4, [], some [1, 8, 9, 10, 53]), (10, [], some [1, 6, 56, 57, 58, 78]), (12, [], some [1, 56, 57, 58, 108])] }
  | 101 => { rsh := [[.sc]], loops := [(0, { keep := [6, 7, 8] })], blocks := [(0, [])] }
  | 102 => { rsh := [[.sl [.sc, .sc, .sc, .sc]]], loops := [(0, { keep := [0, 3, 4] })], blocks := [(0, [3])] }
  | 103 => { rsh := [[.sl [.sc, .sc, .sc]]], loops := [(0, { keep := [0, 3, 4] })], blocks := [(0, [3])] }
  | 104 => { rsh := [[.sc]], loops := [(0, { keep := [1, 22, 23, 24] })], blocks := [(0, [1])], frz := [(1, [], some [1, 20]), (6, [], some [1, 22, 23, 24, 61])] }
  | 105 => { rsh := [[.sc]] }
  | 106 => { rsh := [[.sc]], loops := [(0, { keep := [0, 1, 5] })], blocks := [(0, [])] }
  | 107 => { rsh := [[.sc]], loops := [(0, { keep := [0, 1, 5] })], blocks := [(0, [])] }
  | 167 => { rsh := [[.sc, .sc, .sc, .sc]] }
  | 168 => { rsh := [[.sc, .sc, .sc]] }
  | 169 => { rsh := [[.sc]] }
  | 170 => { rsh := [[.sc]] }
  | 171 => { rsh := [[.sc]] }
  | 172 => { rsh := [[.sc]], loops := [(0, { keep := [0, 1, 7, 8] })], blocks := [(0, [])] }
  | 173 => { rsh := [[.sc]] }
  | 174 => { rsh := [[.sc]] }
  | 175 => { rsh := [[.sc]] }
  | 187 => { rsh := [[.sc]], loops := [(0, { keep := [0, 1, 7, 8] })], blocks := [(0, [])] }
  | 188 => { rsh := [[.sc]] }
  | _ => {}
noncomputable def code : FuncId → Option Func := fun f => match f with
  | 6 => some Go.Proofs.Try.f6
  | 24 => some Go.Proofs.Try.f24
  | 25 => some Go.Proofs.Try.f25
  | 26 => some Go.Proofs.Try.f26
  | 27 => some Go.Proofs.Try.f27
  | 28 => some Go.Proofs.Try.f28
  | 86 => some Go.Proofs.Try.f86
  | 88 => some Go.Proofs.Try.f88
  | 95 => some Go.Proofs.Try.f95
  | 98 => some Go.Proofs.Try.f98
  | 99 => some Go.Proofs.Try.f99
  | 100 => some Go.Proofs.Try.f100
  | 101 => some Go.Proofs.Try.f101
  | 102 => some Go.Proofs.Try.f102
  | 103 => some Go.Proofs.Try.f103
  | 104 => some Go.Proofs.Try.f104
  | 105 => some Go.Proofs.Try.f105
  | 106 => some Go.Proofs.Try.f106
  | 107 => some Go.Proofs.Try.f107
  | 167 => some Go.Proofs.Try.f167
  | 168 => some Go.Proofs.Try.f168
  | 169 => some Go.Proofs.Try.f169
  | 170 => some Go.Proofs.Try.f170
  | 171 => some Go.Proofs.Try.f171
  | 172 => some Go.Proofs.Try.f172
  | 173 => some Go.Proofs.Try.f173
  | 174 => some Go.Proofs.Try.f174
  | 175 => some Go.Proofs.Try.f175
  | 187 => some Go.Proofs.Try.f187
  | 188 => some Go.Proofs.Try.f188
  | _ => none
noncomputable def C : Ctx := ⟨E, pol, code, fun _ _ _ _ => False⟩
theorem gC : Good C := ⟨fun _ _ _ _ _ _ h => h, fun _ _ _ _ h => h.elim⟩
theorem cE : C.E = E := rfl
theorem E3 : E 3 = some { sz := 1, agg := false, zero := [AV.int IntKind.i64 0], bytes := 8, und := UD.it IntKind.i64, eqok := true } := rfl
theorem E4 : E 4 = some { sz := 1, agg := false, zero := [AV.bool false], bytes := 1, und := UD.bl, eqok := true } := rfl
theorem E34 : E 34 = some { sz := 1, agg := false, zero := [AV.nil], bytes := 24, und := UD.sl 186, eqok := true } := rfl
theorem E35 : E 35 = some { sz := 1, agg := false, zero := [AV.nil], bytes := 24, und := UD.sl 188, eqok := true } := rfl
theorem E37 : E 37 = some { sz := 3, agg := true, zero := [AV.int IntKind.i64 0, AV.nil, AV.nil], bytes := 56, und := UD.st [(0, 3), (1, 34), (2, 35)], eqok := true } := rfl
theorem E41 : E 41 = some { sz := 1, agg := false, zero := [AV.nil], bytes := 24, und := UD.sl 138, eqok := true } := rfl
theorem E42 : E 42 = some { sz := 1, agg := false, zero := [AV.nil], bytes := 24, und := UD.sl 184, eqok := true } := rfl
theorem E44 : E 44 = some { sz := 3, agg := true, zero := [AV.int IntKind.i64 0, AV.nil, AV.nil], bytes := 56, und := UD.st [(0, 3), (1, 41), (2, 42)], eqok := true } := rfl
theorem E138 : E 138 = some { sz := 4, agg := true, zero := [AV.int IntKind.i64 0, AV.bool false, AV.int IntKind.i64 0, AV.int IntKind.i64 0], bytes := 32, und := UD.st [(0, 3), (1, 4), (2, 3), (3, 3)], eqok := true } := rfl
theorem E184 : E 184 = some { sz := 3, agg := true, zero := [AV.int IntKind.i64 0, AV.int IntKind.i64 0, AV.int IntKind.i64 0], bytes := 24, und := UD.st [(0, 3), (1, 3), (2, 3)], eqok := true } := rfl
theorem E186 : E 186 = some { sz := 4, agg := true, zero := [AV.int IntKind.i64 0, AV.bool false, AV.int IntKind.i64 0, AV.int IntKind.i64 0], bytes := 32, und := UD.st [(0, 3), (1, 4), (2, 3), (3, 3)], eqok := true } := rfl
theorem E188 : E 188 = some { sz := 3, agg := true, zero := [AV.int IntKind.i64 0, AV.int IntKind.i64 0, AV.int IntKind.i64 0], bytes := 24, und := UD.st [(0, 3), (1, 3), (2, 3)], eqok := true } := rfl
theorem E190 : E 190 = some { sz := 1, agg := false, zero := [AV.undef], bytes := 8, und := UD.ot, eqok := true } := rfl
theorem E193 : E 193 = some { sz := 1, agg := false, zero := [AV.undef], bytes := 8, und := UD.ot, eqok := true } := rfl
theorem EE : type_of% (And.intro @cE <| And.intro @E3 <| And.intro @E4 <| And.intro @E34 <| And.intro @E35 <| And.intro @E37 <| And.intro @E41 <| And.intro @E42 <| And.intro @E44 <| And.intro @E138 <| And.intro @E184 <| And.intro @E186 <| And.intro @E188 <| And.intro @E190 @E193) := And.intro @cE <| And.intro @E3 <| And.intro @E4 <| And.intro @E34 <| And.intro @E35 <| And.intro @E37 <| And.intro @E41 <| And.intro @E42 <| And.intro @E44 <| And.intro @E138 <| And.intro @E184 <| And.intro @E186 <| And.intro @E188 <| And.intro @E190 @E193
theorem e_Case_d (x : Case) : e_Case x = .agg [.int .i64 x.End, .bool x.Asks, .int .i64 x.Final, .int .i64 x.Said] := rfl
theorem e_Court_d (x : Court) : e_Court x = .agg [.int .i64 x.Now, .fz (x.Cases.map e_Case), .fz (x.Line.map e_Slip)] := rfl
theorem e_Slip_d (x : Slip) : e_Slip x = .agg [.int .i64 x.Kind, .int .i64 x.Case, .int .i64 x.What] := rfl
theorem EN : type_of% (And.intro @e_Case_d <| And.intro @e_Court_d <| And.intro @e_Slip_d @killB_n) := And.intro @e_Case_d <| And.intro @e_Court_d <| And.intro @e_Slip_d @killB_n
theorem laws_szCaseS_w {a0 : List Case} {a1 : Int} {r : (Int)} (h : laws_szCaseS a0 a1 = some r) {F : List It} {H : Heap} (hS : Own H (F)) {P : AV → Heap → Prop} (hP : ∀ H', Own H' (F) → P (.int .i64 r) H') : ACall C 98 [.fz (a0.map e_Case), .int .i64 a1] H P := by
  refine acall_of gC (res := [.tmp 4]) (n := 12) rfl rfl rfl rfl fun K0 hK0 => ?_
  simp only [W, Nat.reduceSub, Nat.reduceAdd, List.replicate]
  unfold laws_szCaseS at h
  refine w_seq fun K1 hK1 => ?_
  refine w_reg gC ?_
  try simp only [W, Nat.reduceAdd]
  refine seq_n hK1 ?_
  refine w_seq fun K2 hK2 => ?_
  refine w_reg gC ?_
  try simp only [W, EE, Nat.reduceAdd]
  refine seq_n hK2 ?_
  refine w_seq fun K3 hK3 => ?_
  refine w_seq fun K4 hK4 => ?_
  refine w_reg gC ?_
  try simp only [W, EE, Nat.reduceAdd]
  refine seq_n hK4 ?_
  refine w_if ?_
  simp only [W]
  refine w_cnd h (fun hc h => ?_) (fun hc h => ?_)
  · refine w_seq fun K5 hK5 => ?_
    refine w_reg gC ?_
    try simp only [W, Nat.reduceAdd]
    refine seq_n hK5 ?_
    refine w_ret ?_
    refine seq_r hK3 ?_
    refine fin_r1 hK0 rfl ?_
    try obtain rfl := Option.some.inj h
    exact hP _ hS
  · refine w_skip ?_
    refine seq_n hK3 ?_
    refine w_seq fun K6 hK6 => ?_
    refine w_reg gC ?_
    try simp only [W, Nat.reduceAdd]
    refine seq_n hK6 ?_
    refine w_ret ?_
    refine fin_r1 hK0 rfl ?_
    try obtain rfl := Option.some.inj h
    exact hP _ hS
theorem laws_szSlipS_w {a0 : List Slip} {a1 : Int} {r : (Int)} (h : laws_szSlipS a0 a1 = some r) {F : List It} {H : Heap} (hS : Own H (F)) {P : AV → Heap → Prop} (hP : ∀ H', Own H' (F) → P (.int .i64 r) H') : ACall C 99 [.fz (a0.map e_Slip), .int .i64 a1] H P := by
  refine acall_of gC (res := [.tmp 4]) (n := 12) rfl rfl rfl rfl fun K0 hK0 => ?_
  simp only [W, Nat.reduceSub, Nat.reduceAdd, List.replicate]
  unfold laws_szSlipS at h
  refine w_seq fun K1 hK1 => ?_
  refine w_reg gC ?_
  try simp only [W, Nat.reduceAdd]
  refine seq_n hK1 ?_
  refine w_seq fun K2 hK2 => ?_
  refine w_reg gC ?_
  try simp only [W, EE, Nat.reduceAdd]
  refine seq_n hK2 ?_
  refine w_seq fun K3 hK3 => ?_
  refine w_seq fun K4 hK4 => ?_
  refine w_reg gC ?_
  try simp only [W, EE, Nat.reduceAdd]
  refine seq_n hK4 ?_
  refine w_if ?_
  simp only [W]
  refine w_cnd h (fun hc h => ?_) (fun hc h => ?_)
  · refine w_seq fun K5 hK5 => ?_
    refine w_reg gC ?_
    try simp only [W, Nat.reduceAdd]
    refine seq_n hK5 ?_
    refine w_ret ?_
    refine seq_r hK3 ?_
    refine fin_r1 hK0 rfl ?_
    try obtain rfl := Option.some.inj h
    exact hP _ hS
  · refine w_skip ?_
    refine seq_n hK3 ?_
    refine w_seq fun K6 hK6 => ?_
    refine w_reg gC ?_
    try simp only [W, Nat.reduceAdd]
    refine seq_n hK6 ?_
    refine w_ret ?_
    refine fin_r1 hK0 rfl ?_
    try obtain rfl := Option.some.inj h
    exact hP _ hS
theorem laws_szCourt_w {a0 : Court} {a1 : Int} {r : (Int)} (h : laws_szCourt a0 a1 = some r) {F : List It} {H : Heap} (hS : Own H (F)) {P : AV → Heap → Prop} (hP : ∀ H', Own H' (F) → P (.int .i64 r) H') : ACall C 24 [.agg [.int .i64 a0.Now, .fz (a0.Cases.map e_Case), .fz (a0.Line.map e_Slip)], .int .i64 a1] H P := by
  refine acall_of gC (res := [.tmp 4]) (n := 18) rfl rfl rfl rfl fun K0 hK0 => ?_
  simp only [W, Nat.reduceSub, Nat.reduceAdd, List.replicate]
  unfold laws_szCourt at h
  refine w_seq fun K1 hK1 => ?_
  refine w_reg gC ?_
  try simp only [W, Nat.reduceAdd]
  refine w_box hS rfl rfl rfl rfl fun ip2 wp2 H hS => ?_
  try simp only [W]
  refine seq_n hK1 ?_
  refine w_seq fun K4 hK4 => ?_
  refine w_reg gC ?_
  try simp only [W, EE, Nat.reduceAdd, Nat.reduceBEq, hS.var 0 rfl]
  refine w_call h fun b5 hb5 h => ?_
  refine laws_szCaseS_w hb5 hS fun H hS => ?_
  try simp only [W]
  refine seq_n hK4 ?_
  refine w_seq fun K6 hK6 => ?_
  refine w_seq fun K7 hK7 => ?_
  refine w_reg gC ?_
  try simp only [W, EE, Nat.reduceAdd]
  refine seq_n hK7 ?_
  refine w_if ?_
  simp only [W]
  refine w_cnd h (fun hc h => ?_) (fun hc h => ?_)
  · refine w_seq fun K8 hK8 => ?_
    refine w_reg gC ?_
    try simp only [W, Nat.reduceAdd]
    refine seq_n hK8 ?_
    refine w_ret ?_
    refine seq_r hK6 ?_
    refine fin_r1 hK0 rfl ?_
    try obtain rfl := Option.some.inj h
    exact hP _ (hS.sel 1 [] (by decide))
  · refine w_skip ?_
    refine seq_n hK6 ?_
    refine w_seq fun K9 hK9 => ?_
    refine w_reg gC ?_
    try simp only [W, EE, Nat.reduceAdd, Nat.reduceBEq, hS.var 0 rfl]
    refine w_call h fun b10 hb10 h => ?_
    refine laws_szSlipS_w hb10 hS fun H hS => ?_
    try simp only [W]
    refine seq_n hK9 ?_
    refine w_seq fun K11 hK11 => ?_
    refine w_seq fun K12 hK12 => ?_
    refine w_reg gC ?_
    try simp only [W, EE, Nat.reduceAdd]
    refine seq_n hK12 ?_
    refine w_if ?_
    simp only [W]
    refine w_cnd h (fun hc h => ?_) (fun hc h => ?_)
    · refine w_seq fun K13 hK13 => ?_
      refine w_reg gC ?_
      try simp only [W, Nat.reduceAdd]
      refine seq_n hK13 ?_
      refine w_ret ?_
      refine seq_r hK11 ?_
      refine fin_r1 hK0 rfl ?_
      try obtain rfl := Option.some.inj h
      exact hP _ (hS.sel 1 [] (by decide))
    · refine w_skip ?_
      refine seq_n hK11 ?_
      refine w_seq fun K14 hK14 => ?_
      refine w_reg gC ?_
      try simp only [W, Nat.reduceAdd]
      refine seq_n hK14 ?_
      refine w_ret ?_
      refine fin_r1 hK0 rfl ?_
      try obtain rfl := Option.some.inj h
      exact hP _ (hS.sel 1 [] (by decide))
theorem laws_toCase_w {a0 : Case} {r : (Case)} (h : laws_toCase a0 = some r) {F : List It} {H : Heap} (hS : Own H (F)) {P : AV → Heap → Prop} (hP : ∀ H', Own H' (F) → P (.agg [.int .i64 r.End, .bool r.Asks, .int .i64 r.Final, .int .i64 r.Said]) H') : ACall C 167 [.agg [.int .i64 a0.End, .bool a0.Asks, .int .i64 a0.Final, .int .i64 a0.Said]] H P := by
  refine acall_of gC (res := [.cell 2 138]) (n := 17) rfl rfl rfl rfl fun K0 hK0 => ?_
  simp only [W, Nat.reduceSub, Nat.reduceAdd, List.replicate]
  unfold laws_toCase at h
  refine w_seq fun K1 hK1 => ?_
  refine w_reg gC ?_
  try simp only [W, Nat.reduceAdd]
  refine w_box hS rfl rfl rfl rfl fun ip2 wp2 H hS => ?_
  try simp only [W]
  refine w_alloc hS rfl rfl fun ip4 wp4 H hS => ?_
  try simp only [W]
  refine seq_n hK1 ?_
  refine w_seq fun K6 hK6 => ?_
  refine w_reg gC ?_
  try simp only [W, Nat.reduceAdd]
  refine w_alloc hS rfl rfl fun ip7 wp7 H hS => ?_
  try simp only [W]
  refine seq_n hK6 ?_
  refine w_seq fun K9 hK9 => ?_
  refine w_reg gC ?_
  try simp only [W, EE, Nat.reduceAdd, Nat.reduceBEq, hS.var 2 rfl, hS.var 0 rfl]
  refine w_stv (a := .int .i64 a0.End) (y' := .agg [.int .i64 a0.End, .bool false, .int .i64 0, .int .i64 0]) 0 hS rfl rfl rfl rfl rfl rfl rfl rfl fun H hS => ?_
  try simp only [W]
  refine seq_n hK9 ?_
  refine w_seq fun K10 hK10 => ?_
  refine w_reg gC ?_
  try simp only [W, EE, Nat.reduceAdd, Nat.reduceBEq, hS.var 2 rfl, hS.var 0 rfl]
  refine w_stv (a := .bool a0.Asks) (y' := .agg [.int .i64 a0.End, .bool a0.Asks, .int .i64 0, .int .i64 0]) 0 hS rfl rfl rfl rfl rfl rfl rfl rfl fun H hS => ?_
  try simp only [W]
  refine seq_n hK10 ?_
  refine w_seq fun K11 hK11 => ?_
  refine w_reg gC ?_
  try simp only [W, EE, Nat.reduceAdd, Nat.reduceBEq, hS.var 2 rfl, hS.var 0 rfl]
  refine w_stv (a := .int .i64 a0.Final) (y' := .agg [.int .i64 a0.End, .bool a0.Asks, .int .i64 a0.Final, .int .i64 0]) 0 hS rfl rfl rfl rfl rfl rfl rfl rfl fun H hS => ?_
  try simp only [W]
  refine seq_n hK11 ?_
  refine w_seq fun K12 hK12 => ?_
  refine w_reg gC ?_
  try simp only [W, EE, Nat.reduceAdd, Nat.reduceBEq, hS.var 2 rfl, hS.var 0 rfl]
  refine w_stv (a := .int .i64 a0.Said) (y' := .agg [.int .i64 a0.End, .bool a0.Asks, .int .i64 a0.Final, .int .i64 a0.Said]) 0 hS rfl rfl rfl rfl rfl rfl rfl rfl fun H hS => ?_
  try simp only [W]
  refine seq_n hK12 ?_
  refine w_seq fun K13 hK13 => ?_
  refine w_reg gC ?_
  try simp only [W, EE, reduceIte, Nat.reduceAdd, Nat.reduceLeDiff, hS.var 0 rfl]
  refine w_stv (a := .agg [.int .i64 a0.End, .bool a0.Asks, .int .i64 a0.Final, .int .i64 a0.Said]) (y' := .agg [.int .i64 a0.End, .bool a0.Asks, .int .i64 a0.Final, .int .i64 a0.Said]) 1 hS rfl rfl rfl rfl rfl rfl rfl rfl fun H hS => ?_
  try simp only [W]
  refine seq_n hK13 ?_
  refine w_ret ?_
  refine fin_r hK0 (res_c rfl rfl (hS.var 1 rfl) rfl rfl) ?_
  try obtain rfl := Option.some.inj h
  exact hP _ (hS.sel 3 [] (by decide))
theorem laws_toCaseS_w {a0 : List Case} {r : (List Case)} (h : laws_toCaseS a0 = some r) {F : List It} {H : Heap} (hS : Own H (F)) {P : AV → Heap → Prop} (hP : ∀ v30 : AV, isSl v30 → ∀ H', Own H' (⟨v30, 4, r.map e_Case⟩ :: F) → P (v30) H') : ACall C 102 [.fz (a0.map e_Case)] H P := by
  refine acall_of gC (res := [.tmp 2]) (n := 23) rfl rfl rfl rfl fun K0 hK0 => ?_
  simp only [W, Nat.reduceSub, Nat.reduceAdd, List.replicate]
  unfold laws_toCaseS at h
  refine w_seq fun K1 hK1 => ?_
  refine w_reg gC ?_
  try simp only [W, Nat.reduceAdd]
  refine seq_n hK1 ?_
  refine w_seq fun K2 hK2 => ?_
  refine w_reg gC ?_
  try simp only [W, EE, Nat.reduceAdd]
  refine w_make (c := e_Case) hS rfl rfl rfl rfl rfl rfl h fun v3 H x5 qv3 hm h hS => ?_
  try simp only [W]
  refine seq_n hK2 ?_
  refine w_seq fun K6 hK6 => ?_
  refine w_seq fun K7 hK7 => ?_
  refine w_reg gC ?_
  try simp only [W, Nat.reduceAdd]
  refine seq_n hK7 ?_
  obtain ⟨y11, hw12, g18⟩ := Option.bind_eq_some_iff.1 h
  refine w_join gC (fun s H => ∃ x10 : List Case, y11 = (x10) ∧ s = [u, u, u, v3, u, u, u, u, u, u, u, u, u, u, u, u, u, u, u, u, u, u, u] ∧ Own H (⟨v3, 4, x10.map e_Case⟩ :: F)) (fun K13 hK13 => ?_) (fun s H hq => ?_)
  · refine w_blk fun K14 hK14 => ?_
    refine w_loop gC hw12 (fun x s H => match x with | (x8, x9) => s = [.fz (a0.map e_Case), u, u, v3, .int .i64 x9, u, u, u, u, u, u, u, u, u, u, u, u, u, u, u, u, u, u] ∧ Own H (⟨v3, 4, x8.map e_Case⟩ :: F)) ⟨rfl, hS⟩ (fun x y17 s H h hd16 hi K15 hK15 => ?_)
    obtain ⟨x8, x9⟩ := x
    try dsimp only at hi
    obtain ⟨rfl, hS⟩ := hi
    simp only [laws_toCaseS_l0] at h
    refine w_seq fun K19 hK19 => ?_
    refine w_seq fun K20 hK20 => ?_
    refine w_reg gC ?_
    try simp only [W, EE, Nat.reduceAdd]
    refine seq_n hK20 ?_
    refine w_if ?_
    simp only [W]
    refine w_cnd h (fun hc h => ?_) (fun hc h => ?_)
    · refine w_skip ?_
      refine seq_n hK19 ?_
      refine w_seq fun K21 hK21 => ?_
      refine w_blk fun K22 hK22 => ?_
      refine w_reg gC ?_
      try simp only [W, EE, Nat.reduceAdd]
      refine w_fz rfl rfl rfl (fun _ => rfl) h fun b23 hb23 h => ?_
      try simp only [W, EE, EN, reduceIte, Nat.reduceAdd, Nat.reduceLeDiff]
      refine w_call h fun b24 hb24 h => ?_
      refine laws_toCase_w hb24 hS fun H hS => ?_
      try simp only [W, EE]
      refine w_ow 0 hS rfl rfl rfl rfl rfl h (fun b25 in26 wn26 on26 hb25 h en26 => ?_) qv3.ne
      obtain ⟨kn26, hbn26, hen26⟩ := hS.elem 0 rfl en26 hb25
      try simp only [W]
      refine w_ste (a := .agg [.int .i64 b24.End, .bool b24.Asks, .int .i64 b24.Final, .int .i64 b24.Said]) (y' := b24) 0 hS rfl en26 hb25 rfl rfl rfl rfl rfl rfl rfl fun H hS => ?_
      try simp only [W]
      refine blk_n0 hK22 ?_
      refine seq_n hK21 ?_
      refine w_reg gC ?_
      try simp only [W, EE, Nat.reduceAdd]
      exact lp_n hK15 h ⟨rfl, hS⟩
    · refine w_exit ?_
      refine seq_x hK19 ?_
      try obtain rfl := Option.some.inj h
      obtain rfl := hd16 _ rfl
      have h : (some (x8) : Option ((List Case))) = some (x8) := rfl
      refine lp_x hK15 ?_
      refine blk_e hK14 ?_
      exact cut_n hK13 ⟨_, (Option.some.inj h).symm, rfl, hS⟩
  · obtain ⟨x10, ey, rfl, hS⟩ := hq; obtain rfl := ey.symm
    replace h := g18
    try dsimp only at h
    refine seq_n hK6 ?_
    refine w_seq fun K29 hK29 => ?_
    refine w_reg gC ?_
    try simp only [W, Nat.reduceAdd]
    refine seq_n hK29 ?_
    refine w_ret ?_
    refine fin_r1 hK0 rfl ?_
    try obtain rfl := Option.some.inj h
    exact hP _ qv3 _ hS
theorem laws_toSlip_w {a0 : Slip} {r : (Slip)} (h : laws_toSlip a0 = some r) {F : List It} {H : Heap} (hS : Own H (F)) {P : AV → Heap → Prop} (hP : ∀ H', Own H' (F) → P (.agg [.int .i64 r.Kind, .int .i64 r.Case, .int .i64 r.What]) H') : ACall C 168 [.agg [.int .i64 a0.Kind, .int .i64 a0.Case, .int .i64 a0.What]] H P := by
  refine acall_of gC (res := [.cell 2 184]) (n := 14) rfl rfl rfl rfl fun K0 hK0 => ?_
  simp only [W, Nat.reduceSub, Nat.reduceAdd, List.replicate]
  unfold laws_toSlip at h
  refine w_seq fun K1 hK1 => ?_
  refine w_reg gC ?_
  try simp only [W, Nat.reduceAdd]
  refine w_box hS rfl rfl rfl rfl fun ip2 wp2 H hS => ?_
  try simp only [W]
  refine w_alloc hS rfl rfl fun ip4 wp4 H hS => ?_
  try simp only [W]
  refine seq_n hK1 ?_
  refine w_seq fun K6 hK6 => ?_
  refine w_reg gC ?_
  try simp only [W, Nat.reduceAdd]
  refine w_alloc hS rfl rfl fun ip7 wp7 H hS => ?_
  try simp only [W]
  refine seq_n hK6 ?_
  refine w_seq fun K9 hK9 => ?_
  refine w_reg gC ?_
  try simp only [W, EE, Nat.reduceAdd, Nat.reduceBEq, hS.var 2 rfl, hS.var 0 rfl]
  refine w_stv (a := .int .i64 a0.Kind) (y' := .agg [.int .i64 a0.Kind, .int .i64 0, .int .i64 0]) 0 hS rfl rfl rfl rfl rfl rfl rfl rfl fun H hS => ?_
  try simp only [W]
  refine seq_n hK9 ?_
  refine w_seq fun K10 hK10 => ?_
  refine w_reg gC ?_
  try simp only [W, EE, Nat.reduceAdd, Nat.reduceBEq, hS.var 2 rfl, hS.var 0 rfl]
  refine w_stv (a := .int .i64 a0.Case) (y' := .agg [.int .i64 a0.Kind, .int .i64 a0.Case, .int .i64 0]) 0 hS rfl rfl rfl rfl rfl rfl rfl rfl fun H hS => ?_
  try simp only [W]
  refine seq_n hK10 ?_
  refine w_seq fun K11 hK11 => ?_
  refine w_reg gC ?_
  try simp only [W, EE, Nat.reduceAdd, Nat.reduceBEq, hS.var 2 rfl, hS.var 0 rfl]
  refine w_stv (a := .int .i64 a0.What) (y' := .agg [.int .i64 a0.Kind, .int .i64 a0.Case, .int .i64 a0.What]) 0 hS rfl rfl rfl rfl rfl rfl rfl rfl fun H hS => ?_
  try simp only [W]
  refine seq_n hK11 ?_
  refine w_seq fun K12 hK12 => ?_
  refine w_reg gC ?_
  try simp only [W, EE, reduceIte, Nat.reduceAdd, Nat.reduceLeDiff, hS.var 0 rfl]
  refine w_stv (a := .agg [.int .i64 a0.Kind, .int .i64 a0.Case, .int .i64 a0.What]) (y' := .agg [.int .i64 a0.Kind, .int .i64 a0.Case, .int .i64 a0.What]) 1 hS rfl rfl rfl rfl rfl rfl rfl rfl fun H hS => ?_
  try simp only [W]
  refine seq_n hK12 ?_
  refine w_ret ?_
  refine fin_r hK0 (res_c rfl rfl (hS.var 1 rfl) rfl rfl) ?_
  try obtain rfl := Option.some.inj h
  exact hP _ (hS.sel 3 [] (by decide))
theorem laws_toSlipS_w {a0 : List Slip} {r : (List Slip)} (h : laws_toSlipS a0 = some r) {F : List It} {H : Heap} (hS : Own H (F)) {P : AV → Heap → Prop} (hP : ∀ v30 : AV, isSl v30 → ∀ H', Own H' (⟨v30, 3, r.map e_Slip⟩ :: F) → P (v30) H') : ACall C 103 [.fz (a0.map e_Slip)] H P := by
  refine acall_of gC (res := [.tmp 2]) (n := 23) rfl rfl rfl rfl fun K0 hK0 => ?_
  simp only [W, Nat.reduceSub, Nat.reduceAdd, List.replicate]
  unfold laws_toSlipS at h
  refine w_seq fun K1 hK1 => ?_
  refine w_reg gC ?_
  try simp only [W, Nat.reduceAdd]
  refine seq_n hK1 ?_
  refine w_seq fun K2 hK2 => ?_
  refine w_reg gC ?_
  try simp only [W, EE, Nat.reduceAdd]
  refine w_make (c := e_Slip) hS rfl rfl rfl rfl rfl rfl h fun v3 H x5 qv3 hm h hS => ?_
  try simp only [W]
  refine seq_n hK2 ?_
  refine w_seq fun K6 hK6 => ?_
  refine w_seq fun K7 hK7 => ?_
  refine w_reg gC ?_
  try simp only [W, Nat.reduceAdd]
  refine seq_n hK7 ?_
  obtain ⟨y11, hw12, g18⟩ := Option.bind_eq_some_iff.1 h
  refine w_join gC (fun s H => ∃ x10 : List Slip, y11 = (x10) ∧ s = [u, u, u, v3, u, u, u, u, u, u, u, u, u, u, u, u, u, u, u, u, u, u, u] ∧ Own H (⟨v3, 3, x10.map e_Slip⟩ :: F)) (fun K13 hK13 => ?_) (fun s H hq => ?_)
  · refine w_blk fun K14 hK14 => ?_
    refine w_loop gC hw12 (fun x s H => match x with | (x8, x9) => s = [.fz (a0.map e_Slip), u, u, v3, .int .i64 x9, u, u, u, u, u, u, u, u, u, u, u, u, u, u, u, u, u, u] ∧ Own H (⟨v3, 3, x8.map e_Slip⟩ :: F)) ⟨rfl, hS⟩ (fun x y17 s H h hd16 hi K15 hK15 => ?_)
    obtain ⟨x8, x9⟩ := x
    try dsimp only at hi
    obtain ⟨rfl, hS⟩ := hi
    simp only [laws_toSlipS_l0] at h
    refine w_seq fun K19 hK19 => ?_
    refine w_seq fun K20 hK20 => ?_
    refine w_reg gC ?_
    try simp only [W, EE, Nat.reduceAdd]
    refine seq_n hK20 ?_
    refine w_if ?_
    simp only [W]
    refine w_cnd h (fun hc h => ?_) (fun hc h => ?_)
    · refine w_skip ?_
      refine seq_n hK19 ?_
      refine w_seq fun K21 hK21 => ?_
      refine w_blk fun K22 hK22 => ?_
      refine w_reg gC ?_
      try simp only [W, EE, Nat.reduceAdd]
      refine w_fz rfl rfl rfl (fun _ => rfl) h fun b23 hb23 h => ?_
      try simp only [W, EE, EN, reduceIte, Nat.reduceAdd, Nat.reduceLeDiff]
      refine w_call h fun b24 hb24 h => ?_
      refine laws_toSlip_w hb24 hS fun H hS => ?_
      try simp only [W, EE]
      refine w_ow 0 hS rfl rfl rfl rfl rfl h (fun b25 in26 wn26 on26 hb25 h en26 => ?_) qv3.ne
      obtain ⟨kn26, hbn26, hen26⟩ := hS.elem 0 rfl en26 hb25
      try simp only [W]
      refine w_ste (a := .agg [.int .i64 b24.Kind, .int .i64 b24.Case, .int .i64 b24.What]) (y' := b24) 0 hS rfl en26 hb25 rfl rfl rfl rfl rfl rfl rfl fun H hS => ?_
      try simp only [W]
      refine blk_n0 hK22 ?_
      refine seq_n hK21 ?_
      refine w_reg gC ?_
      try simp only [W, EE, Nat.reduceAdd]
      exact lp_n hK15 h ⟨rfl, hS⟩
    · refine w_exit ?_
      refine seq_x hK19 ?_
      try obtain rfl := Option.some.inj h
      obtain rfl := hd16 _ rfl
      have h : (some (x8) : Option ((List Slip))) = some (x8) := rfl
      refine lp_x hK15 ?_
      refine blk_e hK14 ?_
      exact cut_n hK13 ⟨_, (Option.some.inj h).symm, rfl, hS⟩
  · obtain ⟨x10, ey, rfl, hS⟩ := hq; obtain rfl := ey.symm
    replace h := g18
    try dsimp only at h
    refine seq_n hK6 ?_
    refine w_seq fun K29 hK29 => ?_
    refine w_reg gC ?_
    try simp only [W, Nat.reduceAdd]
    refine seq_n hK29 ?_
    refine w_ret ?_
    refine fin_r1 hK0 rfl ?_
    try obtain rfl := Option.some.inj h
    exact hP _ qv3 _ hS
theorem laws_toCourt_w {a0 : Court} {r : (Court)} (h : laws_toCourt a0 = some r) {F : List It} {H : Heap} (hS : Own H (F)) {P : AV → Heap → Prop} (hP : ∀ v19 : AV, isSl v19 → ∀ v21 : AV, isSl v21 → ∀ H', Own H' (⟨v19, 4, r.Cases.map e_Case⟩ :: ⟨v21, 3, r.Line.map e_Slip⟩ :: F) → P (.agg [.int .i64 r.Now, v19, v21]) H') : ACall C 26 [.agg [.int .i64 a0.Now, .fz (a0.Cases.map e_Case), .fz (a0.Line.map e_Slip)]] H P := by
  refine acall_of gC (res := [.cell 2 44]) (n := 16) rfl rfl rfl rfl fun K0 hK0 => ?_
  simp only [W, Nat.reduceSub, Nat.reduceAdd, List.replicate]
  unfold laws_toCourt at h
  refine w_seq fun K1 hK1 => ?_
  refine w_reg gC ?_
  try simp only [W, Nat.reduceAdd]
  refine w_box hS rfl rfl rfl rfl fun ip2 wp2 H hS => ?_
  try simp only [W]
  refine w_alloc hS rfl rfl fun ip4 wp4 H hS => ?_
  try simp only [W]
  refine seq_n hK1 ?_
  refine w_seq fun K6 hK6 => ?_
  refine w_reg gC ?_
  try simp only [W, Nat.reduceAdd]
  refine w_alloc hS rfl rfl fun ip7 wp7 H hS => ?_
  try simp only [W]
  refine seq_n hK6 ?_
  refine w_seq fun K9 hK9 => ?_
  refine w_reg gC ?_
  try simp only [W, EE, Nat.reduceAdd, Nat.reduceBEq, hS.var 2 rfl, hS.var 0 rfl]
  refine w_stv (a := .int .i64 a0.Now) (y' := .agg [.int .i64 a0.Now, .nil, .nil]) 0 hS rfl rfl rfl rfl rfl rfl rfl rfl fun H hS => ?_
  try simp only [W]
  refine seq_n hK9 ?_
  refine w_seq fun K10 hK10 => ?_
  refine w_reg gC ?_
  try simp only [W, EE, Nat.reduceAdd, Nat.reduceBEq, hS.var 2 rfl]
  refine w_call h fun b11 hb11 h => ?_
  refine laws_toCaseS_w hb11 hS fun v12 qv12 H hS => ?_
  try simp only [W, EE, Nat.reduceAdd, Nat.reduceBEq, hS.var 1 rfl]
  refine w_stv (a := v12) (y' := .agg [.int .i64 a0.Now, v12, .nil]) 1 hS rfl rfl rfl rfl (by rw [qv12.cells]; rfl) qv12.stora (qv12.wr _ _ (by simp)) rfl fun H hS => ?_
  try simp only [W]
  refine seq_n hK10 ?_
  refine w_seq fun K14 hK14 => ?_
  refine w_reg gC ?_
  try simp only [W, EE, Nat.reduceAdd, Nat.reduceBEq, hS.var 3 rfl]
  refine w_call h fun b15 hb15 h => ?_
  refine laws_toSlipS_w hb15 hS fun v16 qv16 H hS => ?_
  try simp only [W, EE, Nat.reduceAdd, Nat.reduceBEq, hS.var 2 rfl]
  refine w_stv (a := v16) (y' := .agg [.int .i64 a0.Now, v12, v16]) 2 hS rfl rfl rfl rfl (by rw [qv16.cells]; rfl) qv16.stora (qv16.wr _ _ (by simp)) rfl fun H hS => ?_
  try simp only [W]
  refine seq_n hK14 ?_
  refine w_seq fun K18 hK18 => ?_
  refine w_reg gC ?_
  try simp only [W, EE, reduceIte, Nat.reduceAdd, Nat.reduceLeDiff, hS.var 2 rfl]
  refine w_stv (a := .agg [.int .i64 a0.Now, v12, v16]) (y' := .agg [.int .i64 a0.Now, v12, v16]) 3 hS rfl rfl rfl rfl rfl (by simp only [storA, List.all_cons, List.all_nil, qv12.stor, qv16.stor]; rfl) rfl rfl fun H hS => ?_
  try simp only [W]
  refine seq_n hK18 ?_
  refine w_ret ?_
  refine fin_r hK0 (res_c rfl rfl (hS.var 3 rfl) rfl rfl) ?_
  try obtain rfl := Option.some.inj h
  exact hP _ qv12 _ qv16 _ (hS.sel 5 [1, 0] (by decide))
theorem spec_l1In_w {a0 : Int} {a1 : Int} {a2 : Int} {r : (Bool)} (h : spec_l1In a0 a1 a2 = some r) {F : List It} {H : Heap} (hS : Own H (F)) {P : AV → Heap → Prop} (hP : ∀ H', Own H' (F) → P (.bool r) H') : ACall C 86 [.int .i64 a0, .int .i64 a1, .int .i64 a2] H P := by
  refine acall_of gC (res := [.tmp 6]) (n := 15) rfl rfl rfl rfl fun K0 hK0 => ?_
  simp only [W, Nat.reduceSub, Nat.reduceAdd, List.replicate]
  unfold spec_l1In at h
  refine w_seq fun K1 hK1 => ?_
  refine w_reg gC ?_
  try simp only [W, Nat.reduceAdd]
  refine seq_n hK1 ?_
  refine w_seq fun K2 hK2 => ?_
  refine w_reg gC ?_
  try simp only [W, EE, Nat.reduceAdd]
  refine w_grdT h (fun hc h => ?_) (fun hc h => ?_)
  · try simp only [W, EE, reduceIte, hc]
    refine seq_n hK2 ?_
    refine w_ret ?_
    refine fin_r1 hK0 rfl ?_
    try obtain rfl := Option.some.inj h
    exact hP _ hS
  · try simp only [W, hc]
    refine seq_n hK2 ?_
    refine w_ret ?_
    refine fin_r1 hK0 rfl ?_
    try obtain rfl := Option.some.inj h
    exact hP _ hS
theorem spec_l16Verdict_w {a0 : Int} {r : (Bool)} (h : spec_l16Verdict a0 = some r) {F : List It} {H : Heap} (hS : Own H (F)) {P : AV → Heap → Prop} (hP : ∀ H', Own H' (F) → P (.bool r) H') : ACall C 88 [.int .i64 a0] H P := by
  refine acall_of gC (res := [.tmp 2]) (n := 5) rfl rfl rfl rfl fun K0 hK0 => ?_
  simp only [W, Nat.reduceSub, Nat.reduceAdd, List.replicate]
  unfold spec_l16Verdict at h
  refine w_seq fun K1 hK1 => ?_
  refine w_reg gC ?_
  try simp only [W, Nat.reduceAdd]
  refine seq_n hK1 ?_
  refine w_seq fun K2 hK2 => ?_
  refine w_reg gC ?_
  try simp only [W, Nat.reduceAdd]
  refine w_call h fun b3 hb3 h => ?_
  refine spec_l1In_w hb3 hS fun H hS => ?_
  try simp only [W]
  refine seq_n hK2 ?_
  refine w_ret ?_
  refine fin_r1 hK0 rfl ?_
  try obtain rfl := Option.some.inj h
  exact hP _ hS
theorem spec_GoodCourt_w {a0 : Court} {r : (Bool)} (h : spec_GoodCourt a0 = some r) {F : List It} {H : Heap} (hS : Own H (F)) {P : AV → Heap → Prop} (hP : ∀ H', Own H' (F) → P (.bool r) H') : ACall C 100 [.agg [.int .i64 a0.Now, .fz (a0.Cases.map e_Case), .fz (a0.Line.map e_Slip)]] H P := by
  refine acall_of gC (res := [.tmp 2]) (n := 125) rfl rfl rfl rfl fun K0 hK0 => ?_
  simp only [W, Nat.reduceSub, Nat.reduceAdd, List.replicate]
  unfold spec_GoodCourt at h
  refine w_seq fun K1 hK1 => ?_
  refine w_reg gC ?_
  try simp only [W, Nat.reduceAdd]
  refine w_box hS rfl rfl rfl rfl fun ip2 wp2 H hS => ?_
  try simp only [W]
  refine seq_n hK1 ?_
  refine w_seq fun K4 hK4 => ?_
  refine w_seq fun K5 hK5 => ?_
  refine w_reg gC ?_
  try simp only [W, EE, Nat.reduceAdd, Nat.reduceBEq, hS.var 0 rfl]
  refine seq_n hK5 ?_
  obtain ⟨y7, hw8, g14⟩ := Option.bind_eq_some_iff.1 h
  refine w_join gC (fun s H => y7 = LR.next () ∧ s = [u, .ptr ip2 wp2 0 0, u, u, u, u, u, u, u, u, u, u, u, u, u, u, u, u, u, u, u, u, u, u, u, u, u, u, u, u, u, u, u, u, u, u, u, u, u, u, u, u, u, u, u, u, u, u, u, u, u, u, u, u, u, u, u, u, u, u, u, u, u, u, u, u, u, u, u, u, u, u, u, u, u, u, u, u, u, u, u, u, u, u, u, u, u, u, u, u, u, u, u, u, u, u, u, u, u, u, u, u, u, u, u, u, u, u, u, u, u, u, u, u, u, u, u, u, u, u, u, u, u, u, u] ∧ Own H (⟨.ptr ip2 wp2 0 0, 3, [.agg [.int .i64 a0.Now, .fz (a0.Cases.map e_Case), .fz (a0.Line.map e_Slip)]]⟩ :: F)) (fun K9 hK9 => ?_) (fun s H hq => ?_)
  · refine w_blk fun K10 hK10 => ?_
    refine w_loop gC hw8 (fun x s H => s = [u, .ptr ip2 wp2 0 0, u, u, u, u, u, u, .fz (a0.Cases.map e_Case), .int .i64 (a0.Cases.length : Int), .int .i64 x, u, u, u, u, u, u, u, u, u, u, u, u, u, u, u, u, u, u, u, u, u, u, u, u, u, u, u, u, u, u, u, u, u, u, u, u, u, u, u, u, u, u, u, u, u, u, u, u, u, u, u, u, u, u, u, u, u, u, u, u, u, u, u, u, u, u, u, u, u, u, u, u, u, u, u, u, u, u, u, u, u, u, u, u, u, u, u, u, u, u, u, u, u, u, u, u, u, u, u, u, u, u, u, u, u, u, u, u, u, u, u, u, u, u] ∧ Own H (⟨.ptr ip2 wp2 0 0, 3, [.agg [.int .i64 a0.Now, .fz (a0.Cases.map e_Case), .fz (a0.Line.map e_Slip)]]⟩ :: F)) ⟨rfl, hS⟩ (fun x6 y13 s H h hd12 hi K11 hK11 => ?_)
    skip
    try dsimp only at hi
    obtain ⟨rfl, hS⟩ := hi
    simp only [spec_GoodCourt_l0] at h
    refine w_seq fun K15 hK15 => ?_
    refine w_reg gC ?_
    try simp only [W, EE, Nat.reduceAdd]
    refine seq_n hK15 ?_
    refine w_seq fun K16 hK16 => ?_
    refine w_if ?_
    simp only [W]
    refine w_cnd h (fun hc h => ?_) (fun hc h => ?_)
    · refine w_skip ?_
      refine seq_n hK16 ?_
      refine w_seq fun K17 hK17 => ?_
      refine w_blk fun K18 hK18 => ?_
      refine w_seq fun K19 hK19 => ?_
      refine w_reg gC ?_
      try simp only [W, EE, Nat.reduceAdd]
      refine w_fz rfl rfl rfl (fun _ => rfl) h fun b20 hb20 h => ?_
      try simp only [W, EE, EN, reduceIte, Nat.reduceAdd, Nat.reduceLeDiff]
      refine w_alloc hS rfl rfl fun ip21 wp21 H hS => ?_
      try simp only [W]
      refine w_stv (a := .agg [.int .i64 b20.End, .bool b20.Asks, .int .i64 b20.Final, .int .i64 b20.Said]) (y' := .agg [.int .i64 b20.End, .bool b20.Asks, .int .i64 b20.Final, .int .i64 b20.Said]) 0 hS rfl rfl rfl rfl rfl rfl rfl rfl fun H hS => ?_
      try simp only [W]
      refine seq_n hK19 ?_
      refine w_seq fun K23 hK23 => ?_
      obtain ⟨y25, h, g26⟩ := Option.bind_eq_some_iff.1 h
      refine w_join gC (fun s H => ∃ x24 : Bool, y25 = (x24) ∧ s = [u, .ptr ip2 wp2 0 0, u, u, u, u, u, u, .fz (a0.Cases.map e_Case), .int .i64 (a0.Cases.length : Int), .int .i64 x6, u, u, u, u, u, u, u, u, u, u, u, u, u, u, u, u, u, u, u, u, u, u, u, u, u, u, u, u, u, u, u, u, u, u, u, u, u, u, u, u, u, u, .bool x24, u, u, u, u, u, u, u, u, u, u, u, u, u, u, u, u, u, u, u, u, u, u, u, u, u, u, u, u, u, u, u, u, u, u, u, u, u, u, u, u, u, u, u, u, u, u, u, u, u, u, u, u, u, u, u, u, u, u, u, u, u, u, u, u, u, u, u, u, u, u, u] ∧ Own H (⟨.ptr ip2 wp2 0 0, 3, [.agg [.int .i64 a0.Now, .fz (a0.Cases.map e_Case), .fz (a0.Line.map e_Slip)]]⟩ :: F)) (fun K27 hK27 => ?_) (fun s H hq => ?_)
      · refine w_seq fun K28 hK28 => ?_
        refine w_reg gC ?_
        try simp only [W, EE, Nat.reduceAdd, Nat.reduceBEq, hS.var 0 rfl]
        refine w_call h fun b29 hb29 h => ?_
        refine spec_l1In_w hb29 hS fun H hS => ?_
        try simp only [W]
        refine w_grdT h (fun hc h => ?_) (fun hc h => ?_)
        · try simp only [W, hc]
          refine seq_n hK28 ?_
          refine w_kill ?_
          exact cut_n hK27 ⟨_, (Option.some.inj h).symm, rfl, (hS.sel 2 [1] (by decide))⟩
        · try simp only [W, EE, Nat.reduceAdd, Nat.reduceBEq, hS.var 0 rfl, hc]
          refine w_call h fun b30 hb30 h => ?_
          refine spec_l16Verdict_w hb30 hS fun H hS => ?_
          try simp only [W, reduceIte, Bool.false_eq_true]
          refine w_grdT h (fun hc h => ?_) (fun hc h => ?_)
          · try simp only [W, hc]
            refine seq_n hK28 ?_
            refine w_kill ?_
            exact cut_n hK27 ⟨_, (Option.some.inj h).symm, rfl, (hS.sel 2 [1] (by decide))⟩
          · try simp only [W, EE, Nat.reduceAdd, Nat.reduceBEq, hS.var 0 rfl, hc]
            refine w_call h fun b31 hb31 h => ?_
            refine spec_l16Verdict_w hb31 hS fun H hS => ?_
            try simp only [W, reduceIte, Bool.false_eq_true]
            refine w_grdT h (fun hc h => ?_) (fun hc h => ?_)
            · try simp only [W, hc]
              refine seq_n hK28 ?_
              refine w_kill ?_
              exact cut_n hK27 ⟨_, (Option.some.inj h).symm, rfl, (hS.sel 2 [1] (by decide))⟩
            · try simp only [W, EE, Nat.reduceAdd, Nat.reduceBEq, hS.var 0 rfl, hc]
              refine w_grdT h (fun hc h => ?_) (fun hc h => ?_)
              · try simp only [W, EE, reduceIte, Nat.reduceAdd, Nat.reduceBEq, Bool.false_eq_true, hS.var 0 rfl, hc]
                refine w_grdT h (fun hc h => ?_) (fun hc h => ?_)
                · try simp only [W, hc]
                  refine seq_n hK28 ?_
                  refine w_kill ?_
                  exact cut_n hK27 ⟨_, (Option.some.inj h).symm, rfl, (hS.sel 2 [1] (by decide))⟩
                · try simp only [W, EE, Nat.reduceAdd, Nat.reduceBEq, hS.var 0 rfl, hc]
                  refine w_grdT h (fun hc h => ?_) (fun hc h => ?_)
                  · try simp only [W, EE, reduceIte, Nat.reduceAdd, Nat.reduceBEq, Bool.false_eq_true, hS.var 0 rfl, hS.var 1 rfl, hc]
                    refine seq_n hK28 ?_
                    refine w_kill ?_
                    exact cut_n hK27 ⟨_, (Option.some.inj h).symm, rfl, (hS.sel 2 [1] (by decide))⟩
                  · try simp only [W, reduceIte, Bool.false_eq_true, hc]
                    refine seq_n hK28 ?_
                    refine w_kill ?_
                    exact cut_n hK27 ⟨_, (Option.some.inj h).symm, rfl, (hS.sel 2 [1] (by decide))⟩
              · try simp only [W, EE, reduceIte, Nat.reduceAdd, Nat.reduceBEq, Bool.false_eq_true, hS.var 0 rfl, hc]
                refine w_grdT h (fun hc h => ?_) (fun hc h => ?_)
                · try simp only [W, EE, reduceIte, Nat.reduceAdd, Nat.reduceBEq, Bool.false_eq_true, hS.var 0 rfl, hS.var 1 rfl, hc]
                  refine seq_n hK28 ?_
                  refine w_kill ?_
                  exact cut_n hK27 ⟨_, (Option.some.inj h).symm, rfl, (hS.sel 2 [1] (by decide))⟩
                · try simp only [W, reduceIte, Bool.false_eq_true, hc]
                  refine seq_n hK28 ?_
                  refine w_kill ?_
                  exact cut_n hK27 ⟨_, (Option.some.inj h).symm, rfl, (hS.sel 2 [1] (by decide))⟩
      · obtain ⟨x24, ey, rfl, hS⟩ := hq; obtain rfl := ey.symm
        replace h := g26
        try dsimp only at h
        refine seq_n hK23 ?_
        refine w_if ?_
        simp only [W]
        refine w_cnd h (fun hc h => ?_) (fun hc h => ?_)
        · refine w_seq fun K32 hK32 => ?_
          refine w_reg gC ?_
          try simp only [W, Nat.reduceAdd]
          refine seq_n hK32 ?_
          refine w_ret ?_
          refine blk_r hK18 ?_
          refine seq_r hK17 ?_
          try obtain rfl := Option.some.inj h
          obtain rfl := hd12 _ rfl
          have h : (some (LR.done false) : Option (LR Unit (Bool))) = some (LR.done false) := rfl
          refine lp_r hK11 ?_
          refine blk_r hK10 ?_
          try obtain rfl := Option.some.inj h
          obtain rfl := Option.some.inj g14
          have h : (some false : Option (Bool)) = some false := rfl
          refine cut_r hK9 ?_
          refine seq_r hK4 ?_
          refine fin_r1 hK0 rfl ?_
          try obtain rfl := Option.some.inj h
          exact hP _ (hS.sel 1 [] (by decide))
        · refine w_skip ?_
          refine blk_n0 hK18 ?_
          refine seq_n hK17 ?_
          refine w_reg gC ?_
          try simp only [W, EE, Nat.reduceAdd]
          exact lp_n hK11 h ⟨rfl, hS⟩
    · refine w_exit ?_
      refine seq_x hK16 ?_
      try obtain rfl := Option.some.inj h
      obtain rfl := hd12 _ rfl
      have h : (some (LR.next ()) : Option (LR Unit (Bool))) = some (LR.next ()) := rfl
      refine lp_x hK11 ?_
      refine blk_e hK10 ?_
      exact cut_n hK9 ⟨(Option.some.inj h).symm, rfl, hS⟩
  · obtain ⟨rfl, rfl, hS⟩ := hq
    replace h := g14
    try dsimp only at h
    refine seq_n hK4 ?_
    refine w_seq fun K39 hK39 => ?_
    refine w_seq fun K40 hK40 => ?_
    refine w_reg gC ?_
    try simp only [W, EE, Nat.reduceAdd, Nat.reduceBEq, hS.var 0 rfl]
    refine seq_n hK40 ?_
    obtain ⟨y42, hw43, g49⟩ := Option.bind_eq_some_iff.1 h
    refine w_join gC (fun s H => y42 = LR.next () ∧ s = [u, .ptr ip2 wp2 0 0, u, u, u, u, u, u, u, u, u, u, u, u, u, u, u, u, u, u, u, u, u, u, u, u, u, u, u, u, u, u, u, u, u, u, u, u, u, u, u, u, u, u, u, u, u, u, u, u, u, u, u, u, u, u, u, u, u, u, u, u, u, u, u, u, u, u, u, u, u, u, u, u, u, u, u, u, u, u, u, u, u, u, u, u, u, u, u, u, u, u, u, u, u, u, u, u, u, u, u, u, u, u, u, u, u, u, u, u, u, u, u, u, u, u, u, u, u, u, u, u, u, u, u] ∧ Own H (⟨.ptr ip2 wp2 0 0, 3, [.agg [.int .i64 a0.Now, .fz (a0.Cases.map e_Case), .fz (a0.Line.map e_Slip)]]⟩ :: F)) (fun K44 hK44 => ?_) (fun s H hq => ?_)
    · refine w_blk fun K45 hK45 => ?_
      refine w_loop gC hw43 (fun x s H => s = [u, .ptr ip2 wp2 0 0, u, u, u, u, u, u, u, u, u, u, u, u, u, u, u, u, u, u, u, u, u, u, u, u, u, u, u, u, u, u, u, u, u, u, u, u, u, u, u, u, u, u, u, u, u, u, u, u, u, u, u, u, u, u, .fz (a0.Line.map e_Slip), .int .i64 (a0.Line.length : Int), .int .i64 x, u, u, u, u, u, u, u, u, u, u, u, u, u, u, u, u, u, u, u, u, u, u, u, u, u, u, u, u, u, u, u, u, u, u, u, u, u, u, u, u, u, u, u, u, u, u, u, u, u, u, u, u, u, u, u, u, u, u, u, u, u, u, u, u, u, u] ∧ Own H (⟨.ptr ip2 wp2 0 0, 3, [.agg [.int .i64 a0.Now, .fz (a0.Cases.map e_Case), .fz (a0.Line.map e_Slip)]]⟩ :: F)) ⟨rfl, hS⟩ (fun x41 y48 s H h hd47 hi K46 hK46 => ?_)
      skip
      try dsimp only at hi
      obtain ⟨rfl, hS⟩ := hi
      simp only [spec_GoodCourt_l1] at h
      refine w_seq fun K50 hK50 => ?_
      refine w_reg gC ?_
      try simp only [W, EE, Nat.reduceAdd]
      refine seq_n hK50 ?_
      refine w_seq fun K51 hK51 => ?_
      refine w_if ?_
      simp only [W]
      refine w_cnd h (fun hc h => ?_) (fun hc h => ?_)
      · refine w_skip ?_
        refine seq_n hK51 ?_
        refine w_seq fun K52 hK52 => ?_
        refine w_blk fun K53 hK53 => ?_
        refine w_seq fun K54 hK54 => ?_
        refine w_reg gC ?_
        try simp only [W, EE, Nat.reduceAdd]
        refine w_fz rfl rfl rfl (fun _ => rfl) h fun b55 hb55 h => ?_
        try simp only [W, EE, EN, reduceIte, Nat.reduceAdd, Nat.reduceLeDiff]
        refine w_alloc hS rfl rfl fun ip56 wp56 H hS => ?_
        try simp only [W]
        refine w_stv (a := .agg [.int .i64 b55.Kind, .int .i64 b55.Case, .int .i64 b55.What]) (y' := .agg [.int .i64 b55.Kind, .int .i64 b55.Case, .int .i64 b55.What]) 0 hS rfl rfl rfl rfl rfl rfl rfl rfl fun H hS => ?_
        try simp only [W]
        refine seq_n hK54 ?_
        refine w_seq fun K58 hK58 => ?_
        refine w_seq fun K59 hK59 => ?_
        obtain ⟨y61, h, g62⟩ := Option.bind_eq_some_iff.1 h
        refine w_join gC (fun s H => ∃ x60 : Bool, y61 = (x60) ∧ s = [u, .ptr ip2 wp2 0 0, u, u, u, u, .ptr ip56 wp56 0 0, u, u, u, u, u, u, u, u, u, u, u, u, u, u, u, u, u, u, u, u, u, u, u, u, u, u, u, u, u, u, u, u, u, u, u, u, u, u, u, u, u, u, u, u, u, u, u, u, u, .fz (a0.Line.map e_Slip), .int .i64 (a0.Line.length : Int), .int .i64 x41, u, u, u, u, u, u, u, u, u, u, u, u, u, u, u, u, u, u, u, .bool x60, u, u, u, u, u, u, u, u, u, u, u, u, u, u, u, u, u, u, u, u, u, u, u, u, u, u, u, u, u, u, u, u, u, u, u, u, u, u, u, u, u, u, u, u, u, u] ∧ Own H (⟨.ptr ip2 wp2 0 0, 3, [.agg [.int .i64 a0.Now, .fz (a0.Cases.map e_Case), .fz (a0.Line.map e_Slip)]]⟩ :: ⟨.ptr ip56 wp56 0 0, 3, [.agg [.int .i64 b55.Kind, .int .i64 b55.Case, .int .i64 b55.What]]⟩ :: F)) (fun K63 hK63 => ?_) (fun s H hq => ?_)
        · refine w_seq fun K64 hK64 => ?_
          refine w_reg gC ?_
          try simp only [W, EE, Nat.reduceAdd, Nat.reduceBEq, hS.var 0 rfl]
          refine w_grdT h (fun hc h => ?_) (fun hc h => ?_)
          · try simp only [W, hc]
            refine seq_n hK64 ?_
            refine w_kill ?_
            exact cut_n hK63 ⟨_, (Option.some.inj h).symm, rfl, (hS.sel 2 [1, 0] (by decide))⟩
          · try simp only [W, EE, reduceIte, Nat.reduceAdd, Nat.reduceBEq, Bool.false_eq_true, hS.var 1 rfl, hS.var 0 rfl, hc]
            refine w_grdT h (fun hc h => ?_) (fun hc h => ?_)
            · try simp only [W, hc]
              refine seq_n hK64 ?_
              refine w_kill ?_
              exact cut_n hK63 ⟨_, (Option.some.inj h).symm, rfl, (hS.sel 2 [1, 0] (by decide))⟩
            · try simp only [W, EE, Nat.reduceAdd, Nat.reduceBEq, hS.var 0 rfl, hc]
              refine w_call h fun b65 hb65 h => ?_
              refine spec_l1In_w hb65 hS fun H hS => ?_
              try simp only [W, reduceIte, Bool.false_eq_true]
              refine seq_n hK64 ?_
              refine w_kill ?_
              exact cut_n hK63 ⟨_, (Option.some.inj h).symm, rfl, (hS.sel 2 [1, 0] (by decide))⟩
        · obtain ⟨x60, ey, rfl, hS⟩ := hq; obtain rfl := ey.symm
          replace h := g62
          try dsimp only at h
          refine seq_n hK59 ?_
          refine w_if ?_
          simp only [W]
          refine w_cnd h (fun hc h => ?_) (fun hc h => ?_)
          · refine w_seq fun K66 hK66 => ?_
            refine w_reg gC ?_
            try simp only [W, Nat.reduceAdd]
            refine seq_n hK66 ?_
            refine w_ret ?_
            refine seq_r hK58 ?_
            refine blk_r hK53 ?_
            refine seq_r hK52 ?_
            try obtain rfl := Option.some.inj h
            obtain rfl := hd47 _ rfl
            have h : (some (LR.done false) : Option (LR Unit (Bool))) = some (LR.done false) := rfl
            refine lp_r hK46 ?_
            refine blk_r hK45 ?_
            try obtain rfl := Option.some.inj h
            obtain rfl := Option.some.inj g49
            have h : (some false : Option (Bool)) = some false := rfl
            refine cut_r hK44 ?_
            refine seq_r hK39 ?_
            refine fin_r1 hK0 rfl ?_
            try obtain rfl := Option.some.inj h
            exact hP _ (hS.sel 2 [] (by decide))
          · refine w_skip ?_
            refine seq_n hK58 ?_
            refine w_seq fun K71 hK71 => ?_
            obtain ⟨y73, h, g74⟩ := Option.bind_eq_some_iff.1 h
            refine w_join gC (fun s H => ∃ x72 : Bool, y73 = (x72) ∧ s = [u, .ptr ip2 wp2 0 0, u, u, u, u, u, u, u, u, u, u, u, u, u, u, u, u, u, u, u, u, u, u, u, u, u, u, u, u, u, u, u, u, u, u, u, u, u, u, u, u, u, u, u, u, u, u, u, u, u, u, u, u, u, u, .fz (a0.Line.map e_Slip), .int .i64 (a0.Line.length : Int), .int .i64 x41, u, u, u, u, u, u, u, u, u, u, u, u, u, u, u, u, u, u, u, u, u, u, u, u, u, u, u, u, u, u, u, u, u, u, u, u, u, u, u, u, u, u, u, u, u, u, u, u, u, .bool x72, u, u, u, u, u, u, u, u, u, u, u, u, u, u, u, u] ∧ Own H (⟨.ptr ip2 wp2 0 0, 3, [.agg [.int .i64 a0.Now, .fz (a0.Cases.map e_Case), .fz (a0.Line.map e_Slip)]]⟩ :: F)) (fun K75 hK75 => ?_) (fun s H hq => ?_)
            · refine w_seq fun K76 hK76 => ?_
              refine w_draw0 gC (by kernel_rfl) ?_
              try simp only [W, EE, Nat.reduceAdd, Nat.reduceBEq, hS.var 1 rfl]
              refine w_grdT h (fun hc h => ?_) (fun hc h => ?_)
              · try simp only [W, EE, Nat.reduceAdd, Nat.reduceBEq, hS.var 1 rfl, hc]
                refine w_grdT h (fun hc h => ?_) (fun hc h => ?_)
                · try simp only [W, reduceIte, hc]
                  refine seq_n hK76 ?_
                  refine w_kill ?_
                  exact cut_n hK75 ⟨_, (Option.some.inj h).symm, rfl, (hS.sel 2 [0] (by decide))⟩
                · try simp only [W, EE, Nat.reduceAdd, Nat.reduceBEq, hS.var 0 rfl, hS.var 1 rfl, hc]
                  refine w_fz rfl rfl rfl (fun _ => rfl) h fun b77 hb77 h => ?_
                  try simp only [W, EE, EN, reduceIte, Nat.reduceAdd, Nat.reduceBEq, Bool.false_eq_true]
                  refine w_grdT h (fun hc h => ?_) (fun hc h => ?_)
                  · try simp only [W, hc]
                    refine seq_n hK76 ?_
                    refine w_kill ?_
                    exact cut_n hK75 ⟨_, (Option.some.inj h).symm, rfl, (hS.sel 2 [0] (by decide))⟩
                  · try simp only [W, EE, Nat.reduceAdd, Nat.reduceBEq, hS.var 1 rfl, hc]
                    refine w_grdT h (fun hc h => ?_) (fun hc h => ?_)
                    · try simp only [W, EE, reduceIte, Nat.reduceAdd, Nat.reduceBEq, Bool.false_eq_true, hS.var 1 rfl, hc]
                      refine seq_n hK76 ?_
                      refine w_kill ?_
                      exact cut_n hK75 ⟨_, (Option.some.inj h).symm, rfl, (hS.sel 2 [0] (by decide))⟩
                    · try simp only [W, reduceIte, Bool.false_eq_true, hc]
                      refine seq_n hK76 ?_
                      refine w_kill ?_
                      exact cut_n hK75 ⟨_, (Option.some.inj h).symm, rfl, (hS.sel 2 [0] (by decide))⟩
              · try simp only [W, EE, Nat.reduceAdd, Nat.reduceBEq, hS.var 1 rfl, hc]
                refine w_grdT h (fun hc h => ?_) (fun hc h => ?_)
                · try simp only [W, EE, reduceIte, Nat.reduceAdd, Nat.reduceBEq, Bool.false_eq_true, hS.var 1 rfl, hc]
                  refine seq_n hK76 ?_
                  refine w_kill ?_
                  exact cut_n hK75 ⟨_, (Option.some.inj h).symm, rfl, (hS.sel 2 [0] (by decide))⟩
                · try simp only [W, reduceIte, Bool.false_eq_true, hc]
                  refine seq_n hK76 ?_
                  refine w_kill ?_
                  exact cut_n hK75 ⟨_, (Option.some.inj h).symm, rfl, (hS.sel 2 [0] (by decide))⟩
            · obtain ⟨x72, ey, rfl, hS⟩ := hq; obtain rfl := ey.symm
              replace h := g74
              try dsimp only at h
              refine seq_n hK71 ?_
              refine w_if ?_
              simp only [W]
              refine w_cnd h (fun hc h => ?_) (fun hc h => ?_)
              · refine w_seq fun K78 hK78 => ?_
                refine w_reg gC ?_
                try simp only [W, Nat.reduceAdd]
                refine seq_n hK78 ?_
                refine w_ret ?_
                refine blk_r hK53 ?_
                refine seq_r hK52 ?_
                try obtain rfl := Option.some.inj h
                obtain rfl := hd47 _ rfl
                have h : (some (LR.done false) : Option (LR Unit (Bool))) = some (LR.done false) := rfl
                refine lp_r hK46 ?_
                refine blk_r hK45 ?_
                try obtain rfl := Option.some.inj h
                obtain rfl := Option.some.inj g49
                have h : (some false : Option (Bool)) = some false := rfl
                refine cut_r hK44 ?_
                refine seq_r hK39 ?_
                refine fin_r1 hK0 rfl ?_
                try obtain rfl := Option.some.inj h
                exact hP _ (hS.sel 1 [] (by decide))
              · refine w_skip ?_
                refine blk_n0 hK53 ?_
                refine seq_n hK52 ?_
                refine w_reg gC ?_
                try simp only [W, EE, Nat.reduceAdd]
                exact lp_n hK46 h ⟨rfl, hS⟩
      · refine w_exit ?_
        refine seq_x hK51 ?_
        try obtain rfl := Option.some.inj h
        obtain rfl := hd47 _ rfl
        have h : (some (LR.next ()) : Option (LR Unit (Bool))) = some (LR.next ()) := rfl
        refine lp_x hK46 ?_
        refine blk_e hK45 ?_
        exact cut_n hK44 ⟨(Option.some.inj h).symm, rfl, hS⟩
    · obtain ⟨rfl, rfl, hS⟩ := hq
      replace h := g49
      try dsimp only at h
      refine seq_n hK39 ?_
      refine w_seq fun K85 hK85 => ?_
      refine w_reg gC ?_
      try simp only [W, EE, Nat.reduceAdd, Nat.reduceBEq, hS.var 0 rfl]
      refine w_grdT h (fun hc h => ?_) (fun hc h => ?_)
      · try simp only [W, EE, Nat.reduceAdd, Nat.reduceBEq, hS.var 0 rfl, hc]
        refine w_call h fun b86 hb86 h => ?_
        refine spec_l1In_w hb86 hS fun H hS => ?_
        try simp only [W, reduceIte]
        refine w_grdT h (fun hc h => ?_) (fun hc h => ?_)
        · try simp only [W, EE, reduceIte, Nat.reduceAdd, Nat.reduceBEq, hS.var 0 rfl, hc]
          refine seq_n hK85 ?_
          refine w_ret ?_
          refine fin_r1 hK0 rfl ?_
          try obtain rfl := Option.some.inj h
          exact hP _ (hS.sel 1 [] (by decide))
        · try simp only [W, hc]
          refine seq_n hK85 ?_
          refine w_ret ?_
          refine fin_r1 hK0 rfl ?_
          try obtain rfl := Option.some.inj h
          exact hP _ (hS.sel 1 [] (by decide))
      · try simp only [W, hc]
        refine seq_n hK85 ?_
        refine w_ret ?_
        refine fin_r1 hK0 rfl ?_
        try obtain rfl := Option.some.inj h
        exact hP _ (hS.sel 1 [] (by decide))
theorem spec_l16Open_w {a0 : Court} {r : (Int)} (h : spec_l16Open a0 = some r) {F : List It} {H : Heap} (hS : Own H (F)) {P : AV → Heap → Prop} (hP : ∀ H', Own H' (F) → P (.int .i64 r) H') : ACall C 101 [.agg [.int .i64 a0.Now, .fz (a0.Cases.map e_Case), .fz (a0.Line.map e_Slip)]] H P := by
  refine acall_of gC (res := [.tmp 2]) (n := 18) rfl rfl rfl rfl fun K0 hK0 => ?_
  simp only [W, Nat.reduceSub, Nat.reduceAdd, List.replicate]
  unfold spec_l16Open at h
  refine w_seq fun K1 hK1 => ?_
  refine w_reg gC ?_
  try simp only [W, Nat.reduceAdd]
  refine w_box hS rfl rfl rfl rfl fun ip2 wp2 H hS => ?_
  try simp only [W]
  refine seq_n hK1 ?_
  refine w_seq fun K4 hK4 => ?_
  refine w_seq fun K5 hK5 => ?_
  refine w_reg gC ?_
  try simp only [W, EE, Nat.reduceAdd, Nat.reduceBEq, hS.var 0 rfl]
  refine seq_n hK5 ?_
  obtain ⟨y7, hw8, g14⟩ := Option.bind_eq_some_iff.1 h
  refine w_join gC (fun s H => y7 = LR.next () ∧ s = [u, u, u, u, u, u, u, u, u, u, u, u, u, u, u, u, u, u] ∧ Own H (F)) (fun K9 hK9 => ?_) (fun s H hq => ?_)
  · refine w_blk fun K10 hK10 => ?_
    refine w_loop gC hw8 (fun x s H => s = [u, u, u, u, u, u, .fz (a0.Cases.map e_Case), .int .i64 (a0.Cases.length : Int), .int .i64 x, u, u, u, u, u, u, u, u, u] ∧ Own H (F)) ⟨rfl, (hS.sel 1 [] (by decide))⟩ (fun x6 y13 s H h hd12 hi K11 hK11 => ?_)
    skip
    try dsimp only at hi
    obtain ⟨rfl, hS⟩ := hi
    simp only [spec_l16Open_l0] at h
    refine w_seq fun K15 hK15 => ?_
    refine w_reg gC ?_
    try simp only [W, EE, Nat.reduceAdd]
    refine seq_n hK15 ?_
    refine w_seq fun K16 hK16 => ?_
    refine w_if ?_
    simp only [W]
    refine w_cnd h (fun hc h => ?_) (fun hc h => ?_)
    · refine w_skip ?_
      refine seq_n hK16 ?_
      refine w_seq fun K17 hK17 => ?_
      refine w_blk fun K18 hK18 => ?_
      refine w_seq fun K19 hK19 => ?_
      refine w_reg gC ?_
      try simp only [W, EE, Nat.reduceAdd]
      refine w_fz rfl rfl rfl (fun _ => rfl) h fun b20 hb20 h => ?_
      try simp only [W, EE, EN, reduceIte, Nat.reduceAdd, Nat.reduceLeDiff]
      refine w_alloc hS rfl rfl fun ip21 wp21 H hS => ?_
      try simp only [W]
      refine w_stv (a := .agg [.int .i64 b20.End, .bool b20.Asks, .int .i64 b20.Final, .int .i64 b20.Said]) (y' := .agg [.int .i64 b20.End, .bool b20.Asks, .int .i64 b20.Final, .int .i64 b20.Said]) 0 hS rfl rfl rfl rfl rfl rfl rfl rfl fun H hS => ?_
      try simp only [W]
      refine seq_n hK19 ?_
      refine w_seq fun K23 hK23 => ?_
      refine w_reg gC ?_
      try simp only [W, EE, Nat.reduceAdd, Nat.reduceBEq, hS.var 0 rfl]
      refine seq_n hK23 ?_
      refine w_if ?_
      simp only [W]
      refine w_cnd h (fun hc h => ?_) (fun hc h => ?_)
      · refine w_seq fun K24 hK24 => ?_
        refine w_reg gC ?_
        try simp only [W, Nat.reduceAdd]
        refine seq_n hK24 ?_
        refine w_ret ?_
        refine blk_r hK18 ?_
        refine seq_r hK17 ?_
        try obtain rfl := Option.some.inj h
        obtain rfl := hd12 _ rfl
        have h : (some (LR.done x6) : Option (LR Unit (Int))) = some (LR.done x6) := rfl
        refine lp_r hK11 ?_
        refine blk_r hK10 ?_
        try obtain rfl := Option.some.inj h
        obtain rfl := Option.some.inj g14
        have h : (some x6 : Option (Int)) = some x6 := rfl
        refine cut_r hK9 ?_
        refine seq_r hK4 ?_
        refine fin_r1 hK0 rfl ?_
        try obtain rfl := Option.some.inj h
        exact hP _ (hS.sel 1 [] (by decide))
      · refine w_skip ?_
        refine blk_n0 hK18 ?_
        refine seq_n hK17 ?_
        refine w_reg gC ?_
        try simp only [W, EE, Nat.reduceAdd]
        exact lp_n hK11 h ⟨rfl, (hS.sel 1 [] (by decide))⟩
    · refine w_exit ?_
      refine seq_x hK16 ?_
      try obtain rfl := Option.some.inj h
      obtain rfl := hd12 _ rfl
      have h : (some (LR.next ()) : Option (LR Unit (Int))) = some (LR.next ()) := rfl
      refine lp_x hK11 ?_
      refine blk_e hK10 ?_
      exact cut_n hK9 ⟨(Option.some.inj h).symm, rfl, hS⟩
  · obtain ⟨rfl, rfl, hS⟩ := hq
    replace h := g14
    try dsimp only at h
    refine seq_n hK4 ?_
    refine w_seq fun K31 hK31 => ?_
    refine w_reg gC ?_
    try simp only [W, Nat.reduceAdd]
    refine seq_n hK31 ?_
    refine w_ret ?_
    refine fin_r1 hK0 rfl ?_
    try obtain rfl := Option.some.inj h
    exact hP _ hS
theorem spec_IsSettled_w {a0 : Court} {r : (Bool × Bool)} (h : spec_IsSettled a0 = some r) {F : List It} {H : Heap} (hS : Own H (F)) {P : AV → Heap → Prop} (hP : ∀ H', Own H' (F) → P (.tup [.bool r.1, .bool r.2]) H') : ACall C 25 [.agg [.int .i64 a0.Now, .fz (a0.Cases.map e_Case), .fz (a0.Line.map e_Slip)]] H P := by
  refine acall_of gC (res := [.tmp 2, .tmp 3]) (n := 10) rfl rfl rfl rfl fun K0 hK0 => ?_
  simp only [W, Nat.reduceSub, Nat.reduceAdd, List.replicate]
  unfold spec_IsSettled at h
  refine w_seq fun K1 hK1 => ?_
  refine w_reg gC ?_
  try simp only [W, Nat.reduceAdd]
  refine w_box hS rfl rfl rfl rfl fun ip2 wp2 H hS => ?_
  try simp only [W]
  refine seq_n hK1 ?_
  refine w_seq fun K4 hK4 => ?_
  refine w_seq fun K5 hK5 => ?_
  refine w_reg gC ?_
  try simp only [W, EE, reduceIte, Nat.reduceAdd, Nat.reduceLeDiff, hS.var 0 rfl]
  refine w_call h fun b6 hb6 h => ?_
  refine spec_GoodCourt_w hb6 hS fun H hS => ?_
  try simp only [W]
  refine seq_n hK5 ?_
  refine w_if ?_
  simp only [W]
  refine w_cnd h (fun hc h => ?_) (fun hc h => ?_)
  · refine w_seq fun K7 hK7 => ?_
    refine w_reg gC ?_
    try simp only [W, Nat.reduceAdd]
    refine seq_n hK7 ?_
    refine w_ret ?_
    refine seq_r hK4 ?_
    refine fin_r2 hK0 rfl rfl ?_
    try obtain rfl := Option.some.inj h
    exact hP _ (hS.sel 1 [] (by decide))
  · refine w_skip ?_
    refine seq_n hK4 ?_
    refine w_seq fun K8 hK8 => ?_
    refine w_reg gC ?_
    try simp only [W, EE, reduceIte, Nat.reduceAdd, Nat.reduceLeDiff, hS.var 0 rfl]
    refine w_call h fun b9 hb9 h => ?_
    refine spec_l16Open_w hb9 hS fun H hS => ?_
    try simp only [W, EE]
    refine seq_n hK8 ?_
    refine w_ret ?_
    refine fin_r2 hK0 rfl rfl ?_
    try obtain rfl := Option.some.inj h
    exact hP _ (hS.sel 1 [] (by decide))
theorem impl_in_w {a0 : Int} {a1 : Int} {a2 : Int} {r : (Bool)} (h : impl_in a0 a1 a2 = some r) {F : List It} {H : Heap} (hS : Own H (F)) {P : AV → Heap → Prop} (hP : ∀ H', Own H' (F) → P (.bool r) H') : ACall C 95 [.int .i64 a0, .int .i64 a1, .int .i64 a2] H P := by
  refine acall_of gC (res := [.tmp 6]) (n := 15) rfl rfl rfl rfl fun K0 hK0 => ?_
  simp only [W, Nat.reduceSub, Nat.reduceAdd, List.replicate]
  unfold impl_in at h
  refine w_seq fun K1 hK1 => ?_
  refine w_reg gC ?_
  try simp only [W, Nat.reduceAdd]
  refine seq_n hK1 ?_
  refine w_seq fun K2 hK2 => ?_
  refine w_reg gC ?_
  try simp only [W, EE, Nat.reduceAdd]
  refine w_grdT h (fun hc h => ?_) (fun hc h => ?_)
  · try simp only [W, EE, reduceIte, hc]
    refine seq_n hK2 ?_
    refine w_ret ?_
    refine fin_r1 hK0 rfl ?_
    try obtain rfl := Option.some.inj h
    exact hP _ hS
  · try simp only [W, hc]
    refine seq_n hK2 ?_
    refine w_ret ?_
    refine fin_r1 hK0 rfl ?_
    try obtain rfl := Option.some.inj h
    exact hP _ hS
theorem slices_IndexFunc_impl_Slip_w {a0 : List Slip} {g1 : Slip → Option Bool} {f1 : FuncId} {c1 : List AV} {r : (Int)} (h : slices_IndexFunc_impl_Slip a0 g1 = some r) {F : List It} {H : Heap} (hg1 : ∀ {x0 : Slip} {r : Bool}, g1 x0 = some r → ∀ (L : List It) (n : Nat), L.drop n = F → ∀ (H : Heap), Own H L → ∀ (P : AV → Heap → Prop), (∀ H', Own H' L → P (.bool r) H') → ACall C f1 ([.agg [.int .i64 x0.Kind, .int .i64 x0.Case, .int .i64 x0.What]] ++ c1) H P) (hS : Own H (F)) {P : AV → Heap → Prop} (hP : ∀ H', Own H' (F) → P (.int .i64 r) H') : ACall C 187 [.fz (a0.map e_Slip), .fn f1 c1] H P := by
  refine acall_of gC (res := [.tmp 4]) (n := 19) rfl rfl rfl rfl fun K0 hK0 => ?_
  simp only [W, Nat.reduceSub, Nat.reduceAdd, List.replicate]
  unfold slices_IndexFunc_impl_Slip at h
  refine w_seq fun K1 hK1 => ?_
  refine w_reg gC ?_
  try simp only [W, Nat.reduceAdd]
  refine seq_n hK1 ?_
  refine w_seq fun K2 hK2 => ?_
  refine w_seq fun K3 hK3 => ?_
  refine w_reg gC ?_
  try simp only [W, EE, Nat.reduceAdd]
  refine seq_n hK3 ?_
  obtain ⟨y5, hw6, g12⟩ := Option.bind_eq_some_iff.1 h
  refine w_join gC (fun s H => y5 = LR.next () ∧ s = [u, u, u, u, u, u, u, u, u, u, u, u, u, u, u, u, u, u, u] ∧ Own H (F)) (fun K7 hK7 => ?_) (fun s H hq => ?_)
  · refine w_blk fun K8 hK8 => ?_
    refine w_loop gC hw6 (fun x s H => s = [.fz (a0.map e_Slip), .fn f1 c1, u, u, u, u, u, .int .i64 (a0.length : Int), .int .i64 x, u, u, u, u, u, u, u, u, u, u] ∧ Own H (F)) ⟨rfl, hS⟩ (fun x4 y11 s H h hd10 hi K9 hK9 => ?_)
    skip
    try dsimp only at hi
    obtain ⟨rfl, hS⟩ := hi
    simp only [slices_IndexFunc_impl_Slip_l0] at h
    refine w_seq fun K13 hK13 => ?_
    refine w_reg gC ?_
    try simp only [W, EE, Nat.reduceAdd]
    refine seq_n hK13 ?_
    refine w_seq fun K14 hK14 => ?_
    refine w_if ?_
    simp only [W]
    refine w_cnd h (fun hc h => ?_) (fun hc h => ?_)
    · refine w_skip ?_
      refine seq_n hK14 ?_
      refine w_seq fun K15 hK15 => ?_
      refine w_blk fun K16 hK16 => ?_
      refine w_seq fun K17 hK17 => ?_
      refine w_reg gC ?_
      try simp only [W, Nat.reduceAdd]
      refine seq_n hK17 ?_
      refine w_seq fun K18 hK18 => ?_
      refine w_reg gC ?_
      try simp only [W, EE, Nat.reduceAdd]
      refine w_fz rfl rfl rfl (fun _ => rfl) h fun b19 hb19 h => ?_
      try simp only [W, EE, EN, reduceIte, Nat.reduceAdd, Nat.reduceLeDiff]
      refine w_call h fun b20 hb20 h => ?_
      refine hg1 hb20 _ 0 rfl _ hS _ fun H hS => ?_
      try simp only [W]
      refine seq_n hK18 ?_
      refine w_if ?_
      simp only [W]
      refine w_cnd h (fun hc h => ?_) (fun hc h => ?_)
      · refine w_seq fun K21 hK21 => ?_
        refine w_reg gC ?_
        try simp only [W, Nat.reduceAdd]
        refine seq_n hK21 ?_
        refine w_ret ?_
        refine blk_r hK16 ?_
        refine seq_r hK15 ?_
        try obtain rfl := Option.some.inj h
        obtain rfl := hd10 _ rfl
        have h : (some (LR.done x4) : Option (LR Unit (Int))) = some (LR.done x4) := rfl
        refine lp_r hK9 ?_
        refine blk_r hK8 ?_
        try obtain rfl := Option.some.inj h
        obtain rfl := Option.some.inj g12
        have h : (some x4 : Option (Int)) = some x4 := rfl
        refine cut_r hK7 ?_
        refine seq_r hK2 ?_
        refine fin_r1 hK0 rfl ?_
        try obtain rfl := Option.some.inj h
        exact hP _ hS
      · refine w_skip ?_
        refine blk_n0 hK16 ?_
        refine seq_n hK15 ?_
        refine w_reg gC ?_
        try simp only [W, EE, Nat.reduceAdd]
        exact lp_n hK9 h ⟨rfl, hS⟩
    · refine w_exit ?_
      refine seq_x hK14 ?_
      try obtain rfl := Option.some.inj h
      obtain rfl := hd10 _ rfl
      have h : (some (LR.next ()) : Option (LR Unit (Int))) = some (LR.next ()) := rfl
      refine lp_x hK9 ?_
      refine blk_e hK8 ?_
      exact cut_n hK7 ⟨(Option.some.inj h).symm, rfl, hS⟩
  · obtain ⟨rfl, rfl, hS⟩ := hq
    replace h := g12
    try dsimp only at h
    refine seq_n hK2 ?_
    refine w_seq fun K28 hK28 => ?_
    refine w_reg gC ?_
    try simp only [W, Nat.reduceAdd]
    refine seq_n hK28 ?_
    refine w_ret ?_
    refine fin_r1 hK0 rfl ?_
    try obtain rfl := Option.some.inj h
    exact hP _ hS
theorem slices_ContainsFunc_impl_Slip_w {a0 : List Slip} {g1 : Slip → Option Bool} {f1 : FuncId} {c1 : List AV} {r : (Bool)} (h : slices_ContainsFunc_impl_Slip a0 g1 = some r) {F : List It} {H : Heap} (hg1 : ∀ {x0 : Slip} {r : Bool}, g1 x0 = some r → ∀ (L : List It) (n : Nat), L.drop n = F → ∀ (H : Heap), Own H L → ∀ (P : AV → Heap → Prop), (∀ H', Own H' L → P (.bool r) H') → ACall C f1 ([.agg [.int .i64 x0.Kind, .int .i64 x0.Case, .int .i64 x0.What]] ++ c1) H P) (hS : Own H (F)) {P : AV → Heap → Prop} (hP : ∀ H', Own H' (F) → P (.bool r) H') : ACall C 169 [.fz (a0.map e_Slip), .fn f1 c1] H P := by
  refine acall_of gC (res := [.tmp 4]) (n := 9) rfl rfl rfl rfl fun K0 hK0 => ?_
  simp only [W, Nat.reduceSub, Nat.reduceAdd, List.replicate]
  unfold slices_ContainsFunc_impl_Slip at h
  refine w_seq fun K1 hK1 => ?_
  refine w_reg gC ?_
  try simp only [W, Nat.reduceAdd]
  refine seq_n hK1 ?_
  refine w_seq fun K2 hK2 => ?_
  refine w_reg gC ?_
  try simp only [W, Nat.reduceAdd]
  refine w_call h fun b3 hb3 h => ?_
  refine slices_IndexFunc_impl_Slip_w hb3 hg1 hS fun H hS => ?_
  try simp only [W, EE]
  refine seq_n hK2 ?_
  refine w_ret ?_
  refine fin_r1 hK0 rfl ?_
  try obtain rfl := Option.some.inj h
  exact hP _ hS
theorem impl_isVerdict_w {a0 : Int} {r : (Bool)} (h : impl_isVerdict a0 = some r) {F : List It} {H : Heap} (hS : Own H (F)) {P : AV → Heap → Prop} (hP : ∀ H', Own H' (F) → P (.bool r) H') : ACall C 188 [.int .i64 a0] H P := by
  refine acall_of gC (res := [.tmp 2]) (n := 9) rfl rfl rfl rfl fun K0 hK0 => ?_
  simp only [W, Nat.reduceSub, Nat.reduceAdd, List.replicate]
  unfold impl_isVerdict at h
  refine w_seq fun K1 hK1 => ?_
  refine w_reg gC ?_
  try simp only [W, Nat.reduceAdd]
  refine seq_n hK1 ?_
  refine w_seq fun K2 hK2 => ?_
  refine w_reg gC ?_
  try simp only [W, EE, Nat.reduceAdd]
  refine w_grdT h (fun hc h => ?_) (fun hc h => ?_)
  · try simp only [W, hc]
    refine seq_n hK2 ?_
    refine w_ret ?_
    refine fin_r1 hK0 rfl ?_
    try obtain rfl := Option.some.inj h
    exact hP _ hS
  · try simp only [W, EE, reduceIte, Bool.false_eq_true, hc]
    refine seq_n hK2 ?_
    refine w_ret ?_
    refine fin_r1 hK0 rfl ?_
    try obtain rfl := Option.some.inj h
    exact hP _ hS
theorem impl_Court_isSlip_w {a0 : Court} {a1 : Slip} {i0 : Nat} {w0 : Nat} {r : (Bool)} (h : impl_Court_isSlip a0 a1 = some r) {F : List It} {H : Heap} (hm0 : ⟨.ptr i0 w0 0 0, 3, [.agg [.int .i64 a0.Now, .fz (a0.Cases.map e_Case), .fz (a0.Line.map e_Slip)]]⟩ ∈ F) (hS : Own H (F)) {P : AV → Heap → Prop} (hP : ∀ H', Own H' (F) → P (.bool r) H') : ACall C 171 [.ptr i0 w0 0 0, .agg [.int .i64 a1.Kind, .int .i64 a1.Case, .int .i64 a1.What]] H P := by
  refine acall_of gC (res := [.tmp 4]) (n := 48) rfl rfl rfl rfl fun K0 hK0 => ?_
  simp only [W, Nat.reduceSub, Nat.reduceAdd, List.replicate]
  unfold impl_Court_isSlip at h
  refine w_seq fun K1 hK1 => ?_
  refine w_reg gC ?_
  try simp only [W, Nat.reduceAdd]
  refine w_box hS rfl rfl rfl rfl fun ip2 wp2 H hS => ?_
  try simp only [W]
  refine seq_n hK1 ?_
  refine w_seq fun K4 hK4 => ?_
  refine w_seq fun K5 hK5 => ?_
  refine w_draw0 gC (by kernel_rfl) ?_
  try simp only [W, EE, Nat.reduceAdd, Nat.reduceBEq, hS.varm (List.mem_cons_of_mem _ (hm0)), hS.var 0 rfl]
  refine w_callS (rsh := [[.sc]]) (ys := [.int .i64 a1.Case, .int .i64 0, .int .i64 (IntKind.i64.wrap ((a0.Cases.length : Int) - 1))]) h rfl (by rfl) fun b6 hb6 h => ⟨.bool b6, impl_in_w hb6 (Own.nil _) fun H hS => TV_ok rfl (TV_p rfl (TV_n rfl)), ⟨rfl, rfl, fun _ => rfl⟩, ?_⟩
  try simp only [W]
  refine seq_n hK5 ?_
  refine w_if ?_
  simp only [W]
  refine w_cnd h (fun hc h => ?_) (fun hc h => ?_)
  · refine w_seq fun K7 hK7 => ?_
    refine w_reg gC ?_
    try simp only [W, Nat.reduceAdd]
    refine seq_n hK7 ?_
    refine w_ret ?_
    refine seq_r hK4 ?_
    refine fin_r1 hK0 rfl ?_
    try obtain rfl := Option.some.inj h
    exact hP _ (hS.sel 1 [] (by decide))
  · refine w_skip ?_
    refine seq_n hK4 ?_
    refine w_seq fun K8 hK8 => ?_
    refine w_seq fun K9 hK9 => ?_
    refine w_reg gC ?_
    try simp only [W, EE, Nat.reduceAdd, Nat.reduceBEq, hS.var 0 rfl]
    refine seq_n hK9 ?_
    refine w_if ?_
    simp only [W]
    refine w_cnd h (fun hc h => ?_) (fun hc h => ?_)
    · refine w_seq fun K10 hK10 => ?_
      refine w_draw0 gC (by kernel_rfl) ?_
      try simp only [W, EE, Nat.reduceAdd, Nat.reduceBEq, hS.var 0 rfl]
      refine w_callS (rsh := [[.sc]]) (ys := [.int .i64 a1.What]) h rfl (by rfl) fun b11 hb11 h => ⟨.bool b11, impl_isVerdict_w hb11 (Own.nil _) fun H hS => TV_ok rfl (TV_p rfl (TV_n rfl)), ⟨rfl, rfl, fun _ => rfl⟩, ?_⟩
      try simp only [W]
      refine w_grdT h (fun hc h => ?_) (fun hc h => ?_)
      · try simp only [W, EE, Nat.reduceAdd, Nat.reduceBEq, hS.varm (List.mem_cons_of_mem _ (hm0)), hS.var 0 rfl, hc]
        refine w_fz rfl rfl rfl (fun _ => rfl) h fun b12 hb12 h => ?_
        try simp only [W, EE, EN, reduceIte, Nat.reduceAdd, Nat.reduceBEq]
        refine seq_n hK10 ?_
        refine w_ret ?_
        refine seq_r hK8 ?_
        refine fin_r1 hK0 rfl ?_
        try obtain rfl := Option.some.inj h
        exact hP _ (hS.sel 1 [] (by decide))
      · try simp only [W, hc]
        refine seq_n hK10 ?_
        refine w_ret ?_
        refine seq_r hK8 ?_
        refine fin_r1 hK0 rfl ?_
        try obtain rfl := Option.some.inj h
        exact hP _ (hS.sel 1 [] (by decide))
    · refine w_skip ?_
      refine seq_n hK8 ?_
      refine w_seq fun K13 hK13 => ?_
      refine w_reg gC ?_
      try simp only [W, EE, Nat.reduceAdd, Nat.reduceBEq, hS.var 0 rfl]
      refine w_grdT h (fun hc h => ?_) (fun hc h => ?_)
      · try simp only [W, EE, reduceIte, Nat.reduceAdd, Nat.reduceBEq, hS.var 0 rfl, hc]
        refine seq_n hK13 ?_
        refine w_ret ?_
        refine fin_r1 hK0 rfl ?_
        try obtain rfl := Option.some.inj h
        exact hP _ (hS.sel 1 [] (by decide))
      · try simp only [W, EE, reduceIte, Nat.reduceAdd, Nat.reduceBEq, Bool.false_eq_true, hS.var 0 rfl, hc]
        refine w_grdT h (fun hc h => ?_) (fun hc h => ?_)
        · try simp only [W, EE, reduceIte, Nat.reduceAdd, Nat.reduceBEq, hS.var 0 rfl, hc]
          refine seq_n hK13 ?_
          refine w_ret ?_
          refine fin_r1 hK0 rfl ?_
          try obtain rfl := Option.some.inj h
          exact hP _ (hS.sel 1 [] (by decide))
        · try simp only [W, hc]
          refine seq_n hK13 ?_
          refine w_ret ?_
          refine fin_r1 hK0 rfl ?_
          try obtain rfl := Option.some.inj h
          exact hP _ (hS.sel 1 [] (by decide))
theorem impl_GoodCourt_1_w {a0 : Slip} {a1 : Court} {i1 : Nat} {w1 : Nat} {r : (Bool)} (h : impl_GoodCourt_1 a0 a1 = some r) {F : List It} {H : Heap} (hm1 : ⟨.ptr i1 w1 0 0, 3, [.agg [.int .i64 a1.Now, .fz (a1.Cases.map e_Case), .fz (a1.Line.map e_Slip)]]⟩ ∈ F) (hS : Own H (F)) {P : AV → Heap → Prop} (hP : ∀ H', Own H' (F) → P (.bool r) H') : ACall C 170 [.agg [.int .i64 a0.Kind, .int .i64 a0.Case, .int .i64 a0.What], .ptr i1 w1 0 0] H P := by
  refine acall_of gC (res := [.tmp 3]) (n := 7) rfl rfl rfl rfl fun K0 hK0 => ?_
  simp only [W, Nat.reduceSub, Nat.reduceAdd, List.replicate]
  unfold impl_GoodCourt_1 at h
  refine w_seq fun K1 hK1 => ?_
  refine w_reg gC ?_
  try simp only [W, Nat.reduceAdd]
  refine w_box hS rfl rfl rfl rfl fun ip2 wp2 H hS => ?_
  try simp only [W]
  refine seq_n hK1 ?_
  refine w_seq fun K4 hK4 => ?_
  refine w_reg gC ?_
  try simp only [W, EE, reduceIte, Nat.reduceAdd, Nat.reduceLeDiff, hS.var 0 rfl]
  refine w_call h fun b5 hb5 h => ?_
  refine impl_Court_isSlip_w hb5 (List.mem_cons_of_mem _ (hm1)) hS fun H hS => ?_
  try simp only [W]
  refine seq_n hK4 ?_
  refine w_ret ?_
  refine fin_r1 hK0 rfl ?_
  try obtain rfl := Option.some.inj h
  exact hP _ (hS.sel 1 [] (by decide))
theorem impl_GoodCourt_w {a0 : Court} {r : (Bool)} (h : impl_GoodCourt a0 = some r) {F : List It} {H : Heap} (hS : Own H (F)) {P : AV → Heap → Prop} (hP : ∀ H', Own H' (F) → P (.bool r) H') : ACall C 104 [.agg [.int .i64 a0.Now, .fz (a0.Cases.map e_Case), .fz (a0.Line.map e_Slip)]] H P := by
  refine acall_of gC (res := [.tmp 2]) (n := 68) rfl rfl rfl rfl fun K0 hK0 => ?_
  simp only [W, Nat.reduceSub, Nat.reduceAdd, List.replicate]
  unfold impl_GoodCourt at h
  refine w_seq fun K1 hK1 => ?_
  refine w_reg gC ?_
  try simp only [W, Nat.reduceAdd]
  refine w_box hS rfl rfl rfl rfl fun ip2 wp2 H hS => ?_
  try simp only [W]
  refine seq_n hK1 ?_
  refine w_seq fun K4 hK4 => ?_
  refine w_seq fun K5 hK5 => ?_
  obtain ⟨y7, h, g8⟩ := Option.bind_eq_some_iff.1 h
  refine w_join gC (fun s H => ∃ x6 : Bool, y7 = (x6) ∧ s = [u, .ptr ip2 wp2 0 0, u, u, u, u, u, u, u, u, u, u, u, u, u, u, u, u, u, u, .bool x6, u, u, u, u, u, u, u, u, u, u, u, u, u, u, u, u, u, u, u, u, u, u, u, u, u, u, u, u, u, u, u, u, u, u, u, u, u, u, u, u, u, u, u, u, u, u, u] ∧ Own H (⟨.ptr ip2 wp2 0 0, 3, [.agg [.int .i64 a0.Now, .fz (a0.Cases.map e_Case), .fz (a0.Line.map e_Slip)]]⟩ :: F)) (fun K9 hK9 => ?_) (fun s H hq => ?_)
  · refine w_seq fun K10 hK10 => ?_
    refine w_reg gC ?_
    try simp only [W, EE, Nat.reduceAdd, Nat.reduceBEq, hS.var 0 rfl]
    refine w_call h fun b11 hb11 h => ?_
    refine impl_in_w hb11 hS fun H hS => ?_
    try simp only [W]
    refine w_grdT h (fun hc h => ?_) (fun hc h => ?_)
    · try simp only [W, hc]
      refine seq_n hK10 ?_
      refine w_kill ?_
      exact cut_n hK9 ⟨_, (Option.some.inj h).symm, rfl, hS⟩
    · try simp only [W, EE, reduceIte, Nat.reduceAdd, Nat.reduceBEq, Bool.false_eq_true, hS.var 0 rfl, hc]
      refine w_grdT h (fun hc h => ?_) (fun hc h => ?_)
      · try simp only [W, hc]
        refine seq_n hK10 ?_
        refine w_kill ?_
        exact cut_n hK9 ⟨_, (Option.some.inj h).symm, rfl, hS⟩
      · try simp only [W, EE, reduceIte, Nat.reduceAdd, Nat.reduceBEq, Bool.false_eq_true, hS.var 0 rfl, hc]
        refine seq_n hK10 ?_
        refine w_kill ?_
        exact cut_n hK9 ⟨_, (Option.some.inj h).symm, rfl, hS⟩
  · obtain ⟨x6, ey, rfl, hS⟩ := hq; obtain rfl := ey.symm
    replace h := g8
    try dsimp only at h
    refine seq_n hK5 ?_
    refine w_if ?_
    simp only [W]
    refine w_cnd h (fun hc h => ?_) (fun hc h => ?_)
    · refine w_seq fun K12 hK12 => ?_
      refine w_reg gC ?_
      try simp only [W, Nat.reduceAdd]
      refine seq_n hK12 ?_
      refine w_ret ?_
      refine seq_r hK4 ?_
      refine fin_r1 hK0 rfl ?_
      try obtain rfl := Option.some.inj h
      exact hP _ (hS.sel 1 [] (by decide))
    · refine w_skip ?_
      refine seq_n hK4 ?_
      refine w_seq fun K13 hK13 => ?_
      refine w_seq fun K14 hK14 => ?_
      refine w_reg gC ?_
      try simp only [W, EE, Nat.reduceAdd, Nat.reduceBEq, hS.var 0 rfl]
      refine seq_n hK14 ?_
      obtain ⟨y16, hw17, g23⟩ := Option.bind_eq_some_iff.1 h
      refine w_join gC (fun s H => y16 = LR.next () ∧ s = [u, .ptr ip2 wp2 0 0, u, u, u, u, u, u, u, u, u, u, u, u, u, u, u, u, u, u, u, u, u, u, u, u, u, u, u, u, u, u, u, u, u, u, u, u, u, u, u, u, u, u, u, u, u, u, u, u, u, u, u, u, u, u, u, u, u, u, u, u, u, u, u, u, u, u] ∧ Own H (⟨.ptr ip2 wp2 0 0, 3, [.agg [.int .i64 a0.Now, .fz (a0.Cases.map e_Case), .fz (a0.Line.map e_Slip)]]⟩ :: F)) (fun K18 hK18 => ?_) (fun s H hq => ?_)
      · refine w_blk fun K19 hK19 => ?_
        refine w_loop gC hw17 (fun x s H => s = [u, .ptr ip2 wp2 0 0, u, u, u, u, u, u, u, u, u, u, u, u, u, u, u, u, u, u, u, u, .fz (a0.Cases.map e_Case), .int .i64 (a0.Cases.length : Int), .int .i64 x, u, u, u, u, u, u, u, u, u, u, u, u, u, u, u, u, u, u, u, u, u, u, u, u, u, u, u, u, u, u, u, u, u, u, u, u, u, u, u, u, u, u, u] ∧ Own H (⟨.ptr ip2 wp2 0 0, 3, [.agg [.int .i64 a0.Now, .fz (a0.Cases.map e_Case), .fz (a0.Line.map e_Slip)]]⟩ :: F)) ⟨rfl, hS⟩ (fun x15 y22 s H h hd21 hi K20 hK20 => ?_)
        skip
        try dsimp only at hi
        obtain ⟨rfl, hS⟩ := hi
        simp only [impl_GoodCourt_l0] at h
        refine w_seq fun K24 hK24 => ?_
        refine w_reg gC ?_
        try simp only [W, EE, Nat.reduceAdd]
        refine seq_n hK24 ?_
        refine w_seq fun K25 hK25 => ?_
        refine w_if ?_
        simp only [W]
        refine w_cnd h (fun hc h => ?_) (fun hc h => ?_)
        · refine w_skip ?_
          refine seq_n hK25 ?_
          refine w_seq fun K26 hK26 => ?_
          refine w_blk fun K27 hK27 => ?_
          refine w_seq fun K28 hK28 => ?_
          refine w_reg gC ?_
          try simp only [W, EE, Nat.reduceAdd]
          refine w_fz rfl rfl rfl (fun _ => rfl) h fun b29 hb29 h => ?_
          try simp only [W, EE, EN, reduceIte, Nat.reduceAdd, Nat.reduceLeDiff]
          refine w_alloc hS rfl rfl fun ip30 wp30 H hS => ?_
          try simp only [W]
          refine w_stv (a := .agg [.int .i64 b29.End, .bool b29.Asks, .int .i64 b29.Final, .int .i64 b29.Said]) (y' := .agg [.int .i64 b29.End, .bool b29.Asks, .int .i64 b29.Final, .int .i64 b29.Said]) 0 hS rfl rfl rfl rfl rfl rfl rfl rfl fun H hS => ?_
          try simp only [W]
          refine seq_n hK28 ?_
          refine w_seq fun K32 hK32 => ?_
          obtain ⟨y34, h, g35⟩ := Option.bind_eq_some_iff.1 h
          refine w_join gC (fun s H => ∃ x33 : Bool, y34 = (x33) ∧ s = [u, .ptr ip2 wp2 0 0, u, u, u, u, u, u, u, u, u, u, u, u, u, u, u, u, u, u, u, u, .fz (a0.Cases.map e_Case), .int .i64 (a0.Cases.length : Int), .int .i64 x15, u, u, u, u, u, u, u, u, u, u, u, u, u, u, u, u, u, u, u, u, u, u, u, u, u, u, u, u, u, u, u, u, u, u, u, u, .bool x33, u, u, u, u, u, u] ∧ Own H (⟨.ptr ip2 wp2 0 0, 3, [.agg [.int .i64 a0.Now, .fz (a0.Cases.map e_Case), .fz (a0.Line.map e_Slip)]]⟩ :: F)) (fun K36 hK36 => ?_) (fun s H hq => ?_)
          · refine w_seq fun K37 hK37 => ?_
            refine w_reg gC ?_
            try simp only [W, EE, Nat.reduceAdd, Nat.reduceBEq, hS.var 0 rfl]
            refine w_call h fun b38 hb38 h => ?_
            refine impl_in_w hb38 hS fun H hS => ?_
            try simp only [W]
            refine w_grdT h (fun hc h => ?_) (fun hc h => ?_)
            · try simp only [W, hc]
              refine seq_n hK37 ?_
              refine w_kill ?_
              exact cut_n hK36 ⟨_, (Option.some.inj h).symm, rfl, (hS.sel 2 [1] (by decide))⟩
            · try simp only [W, EE, Nat.reduceAdd, Nat.reduceBEq, hS.var 0 rfl, hc]
              refine w_call h fun b39 hb39 h => ?_
              refine impl_in_w hb39 hS fun H hS => ?_
              try simp only [W, reduceIte, Bool.false_eq_true]
              refine w_grdT h (fun hc h => ?_) (fun hc h => ?_)
              · try simp only [W, hc]
                refine seq_n hK37 ?_
                refine w_kill ?_
                exact cut_n hK36 ⟨_, (Option.some.inj h).symm, rfl, (hS.sel 2 [1] (by decide))⟩
              · try simp only [W, EE, Nat.reduceAdd, Nat.reduceBEq, hS.var 0 rfl, hc]
                refine w_grdT h (fun hc h => ?_) (fun hc h => ?_)
                · try simp only [W, EE, reduceIte, Nat.reduceAdd, Nat.reduceBEq, Bool.false_eq_true, hS.var 0 rfl, hc]
                  refine w_grdT h (fun hc h => ?_) (fun hc h => ?_)
                  · try simp only [W, hc]
                    refine seq_n hK37 ?_
                    refine w_kill ?_
                    exact cut_n hK36 ⟨_, (Option.some.inj h).symm, rfl, (hS.sel 2 [1] (by decide))⟩
                  · try simp only [W, EE, Nat.reduceAdd, Nat.reduceBEq, hS.var 0 rfl, hc]
                    refine w_grdT h (fun hc h => ?_) (fun hc h => ?_)
                    · try simp only [W, EE, reduceIte, Nat.reduceAdd, Nat.reduceBEq, Bool.false_eq_true, hS.var 1 rfl, hS.var 0 rfl, hc]
                      refine seq_n hK37 ?_
                      refine w_kill ?_
                      exact cut_n hK36 ⟨_, (Option.some.inj h).symm, rfl, (hS.sel 2 [1] (by decide))⟩
                    · try simp only [W, reduceIte, Bool.false_eq_true, hc]
                      refine seq_n hK37 ?_
                      refine w_kill ?_
                      exact cut_n hK36 ⟨_, (Option.some.inj h).symm, rfl, (hS.sel 2 [1] (by decide))⟩
                · try simp only [W, EE, reduceIte, Nat.reduceAdd, Nat.reduceBEq, Bool.false_eq_true, hS.var 0 rfl, hc]
                  refine w_grdT h (fun hc h => ?_) (fun hc h => ?_)
                  · try simp only [W, EE, reduceIte, Nat.reduceAdd, Nat.reduceBEq, Bool.false_eq_true, hS.var 1 rfl, hS.var 0 rfl, hc]
                    refine seq_n hK37 ?_
                    refine w_kill ?_
                    exact cut_n hK36 ⟨_, (Option.some.inj h).symm, rfl, (hS.sel 2 [1] (by decide))⟩
                  · try simp only [W, reduceIte, Bool.false_eq_true, hc]
                    refine seq_n hK37 ?_
                    refine w_kill ?_
                    exact cut_n hK36 ⟨_, (Option.some.inj h).symm, rfl, (hS.sel 2 [1] (by decide))⟩
          · obtain ⟨x33, ey, rfl, hS⟩ := hq; obtain rfl := ey.symm
            replace h := g35
            try dsimp only at h
            refine seq_n hK32 ?_
            refine w_if ?_
            simp only [W]
            refine w_cnd h (fun hc h => ?_) (fun hc h => ?_)
            · refine w_seq fun K40 hK40 => ?_
              refine w_reg gC ?_
              try simp only [W, Nat.reduceAdd]
              refine seq_n hK40 ?_
              refine w_ret ?_
              refine blk_r hK27 ?_
              refine seq_r hK26 ?_
              try obtain rfl := Option.some.inj h
              obtain rfl := hd21 _ rfl
              have h : (some (LR.done false) : Option (LR Unit (Bool))) = some (LR.done false) := rfl
              refine lp_r hK20 ?_
              refine blk_r hK19 ?_
              try obtain rfl := Option.some.inj h
              obtain rfl := Option.some.inj g23
              have h : (some false : Option (Bool)) = some false := rfl
              refine cut_r hK18 ?_
              refine seq_r hK13 ?_
              refine fin_r1 hK0 rfl ?_
              try obtain rfl := Option.some.inj h
              exact hP _ (hS.sel 1 [] (by decide))
            · refine w_skip ?_
              refine blk_n0 hK27 ?_
              refine seq_n hK26 ?_
              refine w_reg gC ?_
              try simp only [W, EE, Nat.reduceAdd]
              exact lp_n hK20 h ⟨rfl, hS⟩
        · refine w_exit ?_
          refine seq_x hK25 ?_
          try obtain rfl := Option.some.inj h
          obtain rfl := hd21 _ rfl
          have h : (some (LR.next ()) : Option (LR Unit (Bool))) = some (LR.next ()) := rfl
          refine lp_x hK20 ?_
          refine blk_e hK19 ?_
          exact cut_n hK18 ⟨(Option.some.inj h).symm, rfl, hS⟩
      · obtain ⟨rfl, rfl, hS⟩ := hq
        replace h := g23
        try dsimp only at h
        refine seq_n hK13 ?_
        refine w_seq fun K47 hK47 => ?_
        refine w_reg gC ?_
        try simp only [W, EE, Nat.reduceAdd, Nat.reduceBEq, hS.var 0 rfl]
        refine w_call h fun b48 hb48 h => ?_
        refine slices_ContainsFunc_impl_Slip_w hb48 (fun h _ n hL _ hS _ hP => impl_GoodCourt_1_w h (memd hL (List.mem_of_getElem? (i := 0) rfl)) hS hP) hS fun H hS => ?_
        try simp only [W]
        refine seq_n hK47 ?_
        refine w_ret ?_
        refine fin_r1 hK0 rfl ?_
        try obtain rfl := Option.some.inj h
        exact hP _ (hS.sel 1 [] (by decide))
theorem slices_IndexFunc_impl_Case_w {a0 : List Case} {g1 : Case → Option Bool} {f1 : FuncId} {c1 : List AV} {r : (Int)} (h : slices_IndexFunc_impl_Case a0 g1 = some r) {F : List It} {H : Heap} (hg1 : ∀ {x0 : Case} {r : Bool}, g1 x0 = some r → ∀ (L : List It) (n : Nat), L.drop n = F → ∀ (H : Heap), Own H L → ∀ (P : AV → Heap → Prop), (∀ H', Own H' L → P (.bool r) H') → ACall C f1 ([.agg [.int .i64 x0.End, .bool x0.Asks, .int .i64 x0.Final, .int .i64 x0.Said]] ++ c1) H P) (hS : Own H (F)) {P : AV → Heap → Prop} (hP : ∀ H', Own H' (F) → P (.int .i64 r) H') : ACall C 172 [.fz (a0.map e_Case), .fn f1 c1] H P := by
  refine acall_of gC (res := [.tmp 4]) (n := 19) rfl rfl rfl rfl fun K0 hK0 => ?_
  simp only [W, Nat.reduceSub, Nat.reduceAdd, List.replicate]
  unfold slices_IndexFunc_impl_Case at h
  refine w_seq fun K1 hK1 => ?_
  refine w_reg gC ?_
  try simp only [W, Nat.reduceAdd]
  refine seq_n hK1 ?_
  refine w_seq fun K2 hK2 => ?_
  refine w_seq fun K3 hK3 => ?_
  refine w_reg gC ?_
  try simp only [W, EE, Nat.reduceAdd]
  refine seq_n hK3 ?_
  obtain ⟨y5, hw6, g12⟩ := Option.bind_eq_some_iff.1 h
  refine w_join gC (fun s H => y5 = LR.next () ∧ s = [u, u, u, u, u, u, u, u, u, u, u, u, u, u, u, u, u, u, u] ∧ Own H (F)) (fun K7 hK7 => ?_) (fun s H hq => ?_)
  · refine w_blk fun K8 hK8 => ?_
    refine w_loop gC hw6 (fun x s H => s = [.fz (a0.map e_Case), .fn f1 c1, u, u, u, u, u, .int .i64 (a0.length : Int), .int .i64 x, u, u, u, u, u, u, u, u, u, u] ∧ Own H (F)) ⟨rfl, hS⟩ (fun x4 y11 s H h hd10 hi K9 hK9 => ?_)
    skip
    try dsimp only at hi
    obtain ⟨rfl, hS⟩ := hi
    simp only [slices_IndexFunc_impl_Case_l0] at h
    refine w_seq fun K13 hK13 => ?_
    refine w_reg gC ?_
    try simp only [W, EE, Nat.reduceAdd]
    refine seq_n hK13 ?_
    refine w_seq fun K14 hK14 => ?_
    refine w_if ?_
    simp only [W]
    refine w_cnd h (fun hc h => ?_) (fun hc h => ?_)
    · refine w_skip ?_
      refine seq_n hK14 ?_
      refine w_seq fun K15 hK15 => ?_
      refine w_blk fun K16 hK16 => ?_
      refine w_seq fun K17 hK17 => ?_
      refine w_reg gC ?_
      try simp only [W, Nat.reduceAdd]
      refine seq_n hK17 ?_
      refine w_seq fun K18 hK18 => ?_
      refine w_reg gC ?_
      try simp only [W, EE, Nat.reduceAdd]
      refine w_fz rfl rfl rfl (fun _ => rfl) h fun b19 hb19 h => ?_
      try simp only [W, EE, EN, reduceIte, Nat.reduceAdd, Nat.reduceLeDiff]
      refine w_call h fun b20 hb20 h => ?_
      refine hg1 hb20 _ 0 rfl _ hS _ fun H hS => ?_
      try simp only [W]
      refine seq_n hK18 ?_
      refine w_if ?_
      simp only [W]
      refine w_cnd h (fun hc h => ?_) (fun hc h => ?_)
      · refine w_seq fun K21 hK21 => ?_
        refine w_reg gC ?_
        try simp only [W, Nat.reduceAdd]
        refine seq_n hK21 ?_
        refine w_ret ?_
        refine blk_r hK16 ?_
        refine seq_r hK15 ?_
        try obtain rfl := Option.some.inj h
        obtain rfl := hd10 _ rfl
        have h : (some (LR.done x4) : Option (LR Unit (Int))) = some (LR.done x4) := rfl
        refine lp_r hK9 ?_
        refine blk_r hK8 ?_
        try obtain rfl := Option.some.inj h
        obtain rfl := Option.some.inj g12
        have h : (some x4 : Option (Int)) = some x4 := rfl
        refine cut_r hK7 ?_
        refine seq_r hK2 ?_
        refine fin_r1 hK0 rfl ?_
        try obtain rfl := Option.some.inj h
        exact hP _ hS
      · refine w_skip ?_
        refine blk_n0 hK16 ?_
        refine seq_n hK15 ?_
        refine w_reg gC ?_
        try simp only [W, EE, Nat.reduceAdd]
        exact lp_n hK9 h ⟨rfl, hS⟩
    · refine w_exit ?_
      refine seq_x hK14 ?_
      try obtain rfl := Option.some.inj h
      obtain rfl := hd10 _ rfl
      have h : (some (LR.next ()) : Option (LR Unit (Int))) = some (LR.next ()) := rfl
      refine lp_x hK9 ?_
      refine blk_e hK8 ?_
      exact cut_n hK7 ⟨(Option.some.inj h).symm, rfl, hS⟩
  · obtain ⟨rfl, rfl, hS⟩ := hq
    replace h := g12
    try dsimp only at h
    refine seq_n hK2 ?_
    refine w_seq fun K28 hK28 => ?_
    refine w_reg gC ?_
    try simp only [W, Nat.reduceAdd]
    refine seq_n hK28 ?_
    refine w_ret ?_
    refine fin_r1 hK0 rfl ?_
    try obtain rfl := Option.some.inj h
    exact hP _ hS
theorem impl_Court_unsettled_1_w {a0 : Case} {r : (Bool)} (h : impl_Court_unsettled_1 a0 = some r) {F : List It} {H : Heap} (hS : Own H (F)) {P : AV → Heap → Prop} (hP : ∀ H', Own H' (F) → P (.bool r) H') : ACall C 173 [.agg [.int .i64 a0.End, .bool a0.Asks, .int .i64 a0.Final, .int .i64 a0.Said]] H P := by
  refine acall_of gC (res := [.tmp 2]) (n := 6) rfl rfl rfl rfl fun K0 hK0 => ?_
  simp only [W, Nat.reduceSub, Nat.reduceAdd, List.replicate]
  unfold impl_Court_unsettled_1 at h
  refine w_seq fun K1 hK1 => ?_
  refine w_reg gC ?_
  try simp only [W, Nat.reduceAdd]
  refine w_box hS rfl rfl rfl rfl fun ip2 wp2 H hS => ?_
  try simp only [W]
  refine seq_n hK1 ?_
  refine w_seq fun K4 hK4 => ?_
  refine w_reg gC ?_
  try simp only [W, EE, Nat.reduceAdd, Nat.reduceBEq, hS.var 0 rfl]
  refine seq_n hK4 ?_
  refine w_ret ?_
  refine fin_r1 hK0 rfl ?_
  try obtain rfl := Option.some.inj h
  exact hP _ (hS.sel 1 [] (by decide))
theorem impl_Court_unsettled_w {a0 : Court} {i0 : Nat} {w0 : Nat} {r : (Int)} (h : impl_Court_unsettled a0 = some r) {F : List It} {H : Heap} (hm0 : ⟨.ptr i0 w0 0 0, 3, [.agg [.int .i64 a0.Now, .fz (a0.Cases.map e_Case), .fz (a0.Line.map e_Slip)]]⟩ ∈ F) (hS : Own H (F)) {P : AV → Heap → Prop} (hP : ∀ H', Own H' (F) → P (.int .i64 r) H') : ACall C 105 [.ptr i0 w0 0 0] H P := by
  refine acall_of gC (res := [.tmp 2]) (n := 8) rfl rfl rfl rfl fun K0 hK0 => ?_
  simp only [W, Nat.reduceSub, Nat.reduceAdd, List.replicate]
  unfold impl_Court_unsettled at h
  refine w_seq fun K1 hK1 => ?_
  refine w_reg gC ?_
  try simp only [W, Nat.reduceAdd]
  refine seq_n hK1 ?_
  refine w_seq fun K2 hK2 => ?_
  refine w_reg gC ?_
  try simp only [W, EE, Nat.reduceAdd, Nat.reduceBEq, hS.varm hm0]
  refine w_call h fun b3 hb3 h => ?_
  refine slices_IndexFunc_impl_Case_w hb3 (fun h _ n hL _ hS _ hP => impl_Court_unsettled_1_w h hS hP) hS fun H hS => ?_
  try simp only [W]
  refine seq_n hK2 ?_
  refine w_ret ?_
  refine fin_r1 hK0 rfl ?_
  try obtain rfl := Option.some.inj h
  exact hP _ hS
theorem impl_IsSettled_w {a0 : Court} {r : (Bool × Bool)} (h : impl_IsSettled a0 = some r) {F : List It} {H : Heap} (hS : Own H (F)) {P : AV → Heap → Prop} (hP : ∀ H', Own H' (F) → P (.tup [.bool r.1, .bool r.2]) H') : ACall C 27 [.agg [.int .i64 a0.Now, .fz (a0.Cases.map e_Case), .fz (a0.Line.map e_Slip)]] H P := by
  refine acall_of gC (res := [.tmp 2, .tmp 3]) (n := 9) rfl rfl rfl rfl fun K0 hK0 => ?_
  simp only [W, Nat.reduceSub, Nat.reduceAdd, List.replicate]
  unfold impl_IsSettled at h
  refine w_seq fun K1 hK1 => ?_
  refine w_reg gC ?_
  try simp only [W, Nat.reduceAdd]
  refine w_box hS rfl rfl rfl rfl fun ip2 wp2 H hS => ?_
  try simp only [W]
  refine seq_n hK1 ?_
  refine w_seq fun K4 hK4 => ?_
  refine w_seq fun K5 hK5 => ?_
  refine w_reg gC ?_
  try simp only [W, EE, reduceIte, Nat.reduceAdd, Nat.reduceLeDiff, hS.var 0 rfl]
  refine w_call h fun b6 hb6 h => ?_
  refine impl_GoodCourt_w hb6 hS fun H hS => ?_
  try simp only [W]
  refine seq_n hK5 ?_
  refine w_if ?_
  simp only [W]
  refine w_cnd h (fun hc h => ?_) (fun hc h => ?_)
  · refine w_seq fun K7 hK7 => ?_
    refine w_reg gC ?_
    try simp only [W, Nat.reduceAdd]
    refine seq_n hK7 ?_
    refine w_ret ?_
    refine seq_r hK4 ?_
    refine fin_r2 hK0 rfl rfl ?_
    try obtain rfl := Option.some.inj h
    exact hP _ (hS.sel 1 [] (by decide))
  · refine w_skip ?_
    refine seq_n hK4 ?_
    refine w_seq fun K8 hK8 => ?_
    refine w_reg gC ?_
    try simp only [W, Nat.reduceAdd]
    refine w_call h fun b9 hb9 h => ?_
    refine impl_Court_unsettled_w hb9 (List.mem_of_getElem? (i := 0) rfl) hS fun H hS => ?_
    try simp only [W, EE]
    refine seq_n hK8 ?_
    refine w_ret ?_
    refine fin_r2 hK0 rfl rfl ?_
    try obtain rfl := Option.some.inj h
    exact hP _ (hS.sel 1 [] (by decide))
theorem laws_eqCase_w {a0 : Case} {a1 : Case} {r : (Bool)} (h : laws_eqCase a0 a1 = some r) {F : List It} {H : Heap} (hS : Own H (F)) {P : AV → Heap → Prop} (hP : ∀ H', Own H' (F) → P (.bool r) H') : ACall C 174 [.agg [.int .i64 a0.End, .bool a0.Asks, .int .i64 a0.Final, .int .i64 a0.Said], .agg [.int .i64 a1.End, .bool a1.Asks, .int .i64 a1.Final, .int .i64 a1.Said]] H P := by
  refine acall_of gC (res := [.tmp 4]) (n := 25) rfl rfl rfl rfl fun K0 hK0 => ?_
  simp only [W, Nat.reduceSub, Nat.reduceAdd, List.replicate]
  unfold laws_eqCase at h
  refine w_seq fun K1 hK1 => ?_
  refine w_reg gC ?_
  try simp only [W, Nat.reduceAdd]
  refine w_box hS rfl rfl rfl rfl fun ip2 wp2 H hS => ?_
  try simp only [W]
  refine w_box hS rfl rfl rfl rfl fun ip4 wp4 H hS => ?_
  try simp only [W]
  refine seq_n hK1 ?_
  refine w_seq fun K6 hK6 => ?_
  refine w_seq fun K7 hK7 => ?_
  refine w_reg gC ?_
  try simp only [W, EE, Nat.reduceAdd, Nat.reduceBEq, hS.var 1 rfl, hS.var 0 rfl]
  refine seq_n hK7 ?_
  refine w_if ?_
  simp only [W]
  refine w_cnd h (fun hc h => ?_) (fun hc h => ?_)
  · refine w_seq fun K8 hK8 => ?_
    refine w_reg gC ?_
    try simp only [W, Nat.reduceAdd]
    refine seq_n hK8 ?_
    refine w_ret ?_
    refine seq_r hK6 ?_
    refine fin_r1 hK0 rfl ?_
    try obtain rfl := Option.some.inj h
    exact hP _ (hS.sel 2 [] (by decide))
  · refine w_skip ?_
    refine seq_n hK6 ?_
    refine w_seq fun K9 hK9 => ?_
    refine w_seq fun K10 hK10 => ?_
    refine w_reg gC ?_
    try simp only [W, EE, Nat.reduceAdd, Nat.reduceBEq, hS.var 1 rfl, hS.var 0 rfl]
    rw [b_bneq _ _ _ _ (h := rfl) rfl, resV_s]
    try simp only [W]
    refine seq_n hK10 ?_
    refine w_if ?_
    simp only [W]
    refine w_cnd h (fun hc h => ?_) (fun hc h => ?_)
    · refine w_seq fun K11 hK11 => ?_
      refine w_reg gC ?_
      try simp only [W, Nat.reduceAdd]
      refine seq_n hK11 ?_
      refine w_ret ?_
      refine seq_r hK9 ?_
      refine fin_r1 hK0 rfl ?_
      try obtain rfl := Option.some.inj h
      exact hP _ (hS.sel 2 [] (by decide))
    · refine w_skip ?_
      refine seq_n hK9 ?_
      refine w_seq fun K12 hK12 => ?_
      refine w_seq fun K13 hK13 => ?_
      refine w_reg gC ?_
      try simp only [W, EE, Nat.reduceAdd, Nat.reduceBEq, hS.var 1 rfl, hS.var 0 rfl]
      refine seq_n hK13 ?_
      refine w_if ?_
      simp only [W]
      refine w_cnd h (fun hc h => ?_) (fun hc h => ?_)
      · refine w_seq fun K14 hK14 => ?_
        refine w_reg gC ?_
        try simp only [W, Nat.reduceAdd]
        refine seq_n hK14 ?_
        refine w_ret ?_
        refine seq_r hK12 ?_
        refine fin_r1 hK0 rfl ?_
        try obtain rfl := Option.some.inj h
        exact hP _ (hS.sel 2 [] (by decide))
      · refine w_skip ?_
        refine seq_n hK12 ?_
        refine w_seq fun K15 hK15 => ?_
        refine w_seq fun K16 hK16 => ?_
        refine w_reg gC ?_
        try simp only [W, EE, Nat.reduceAdd, Nat.reduceBEq, hS.var 1 rfl, hS.var 0 rfl]
        refine seq_n hK16 ?_
        refine w_if ?_
        simp only [W]
        refine w_cnd h (fun hc h => ?_) (fun hc h => ?_)
        · refine w_seq fun K17 hK17 => ?_
          refine w_reg gC ?_
          try simp only [W, Nat.reduceAdd]
          refine seq_n hK17 ?_
          refine w_ret ?_
          refine seq_r hK15 ?_
          refine fin_r1 hK0 rfl ?_
          try obtain rfl := Option.some.inj h
          exact hP _ (hS.sel 2 [] (by decide))
        · refine w_skip ?_
          refine seq_n hK15 ?_
          refine w_seq fun K18 hK18 => ?_
          refine w_reg gC ?_
          try simp only [W, Nat.reduceAdd]
          refine seq_n hK18 ?_
          refine w_ret ?_
          refine fin_r1 hK0 rfl ?_
          try obtain rfl := Option.some.inj h
          exact hP _ (hS.sel 2 [] (by decide))
theorem laws_eqCaseS_w {a0 : List Case} {a1 : List Case} {r : (Bool)} (h : laws_eqCaseS a0 a1 = some r) {F : List It} {H : Heap} (hS : Own H (F)) {P : AV → Heap → Prop} (hP : ∀ H', Own H' (F) → P (.bool r) H') : ACall C 106 [.fz (a0.map e_Case), .fz (a1.map e_Case)] H P := by
  refine acall_of gC (res := [.tmp 4]) (n := 27) rfl rfl rfl rfl fun K0 hK0 => ?_
  simp only [W, Nat.reduceSub, Nat.reduceAdd, List.replicate]
  unfold laws_eqCaseS at h
  refine w_seq fun K1 hK1 => ?_
  refine w_reg gC ?_
  try simp only [W, Nat.reduceAdd]
  refine seq_n hK1 ?_
  refine w_seq fun K2 hK2 => ?_
  refine w_seq fun K3 hK3 => ?_
  refine w_reg gC ?_
  try simp only [W, EE, Nat.reduceAdd]
  refine seq_n hK3 ?_
  refine w_if ?_
  simp only [W]
  refine w_cnd h (fun hc h => ?_) (fun hc h => ?_)
  · refine w_seq fun K4 hK4 => ?_
    refine w_reg gC ?_
    try simp only [W, Nat.reduceAdd]
    refine seq_n hK4 ?_
    refine w_ret ?_
    refine seq_r hK2 ?_
    refine fin_r1 hK0 rfl ?_
    try obtain rfl := Option.some.inj h
    exact hP _ hS
  · refine w_skip ?_
    refine seq_n hK2 ?_
    refine w_seq fun K5 hK5 => ?_
    refine w_seq fun K6 hK6 => ?_
    refine w_reg gC ?_
    try simp only [W, Nat.reduceAdd]
    refine seq_n hK6 ?_
    obtain ⟨y8, hw9, g15⟩ := Option.bind_eq_some_iff.1 h
    refine w_join gC (fun s H => y8 = LR.next () ∧ s = [u, u, u, u, u, u, u, u, u, u, u, u, u, u, u, u, u, u, u, u, u, u, u, u, u, u, u] ∧ Own H (F)) (fun K10 hK10 => ?_) (fun s H hq => ?_)
    · refine w_blk fun K11 hK11 => ?_
      refine w_loop gC hw9 (fun x s H => s = [.fz (a0.map e_Case), .fz (a1.map e_Case), u, u, u, .int .i64 x, u, u, u, u, u, u, u, u, u, u, u, u, u, u, u, u, u, u, u, u, u] ∧ Own H (F)) ⟨rfl, hS⟩ (fun x7 y14 s H h hd13 hi K12 hK12 => ?_)
      skip
      try dsimp only at hi
      obtain ⟨rfl, hS⟩ := hi
      simp only [laws_eqCaseS_l0] at h
      refine w_seq fun K16 hK16 => ?_
      refine w_seq fun K17 hK17 => ?_
      refine w_reg gC ?_
      try simp only [W, EE, Nat.reduceAdd]
      refine seq_n hK17 ?_
      refine w_if ?_
      simp only [W]
      refine w_cnd h (fun hc h => ?_) (fun hc h => ?_)
      · refine w_skip ?_
        refine seq_n hK16 ?_
        refine w_seq fun K18 hK18 => ?_
        refine w_blk fun K19 hK19 => ?_
        refine w_seq fun K20 hK20 => ?_
        refine w_draw0 gC (by kernel_rfl) ?_
        try simp only [W, EE, Nat.reduceAdd]
        refine w_fz rfl rfl rfl (fun _ => rfl) h fun b21 hb21 h => ?_
        try simp only [W, EE, EN, reduceIte, Nat.reduceAdd, Nat.reduceLeDiff]
        refine w_fz rfl rfl rfl (fun _ => rfl) h fun b22 hb22 h => ?_
        try simp only [W, EE, EN, reduceIte, Nat.reduceAdd, Nat.reduceLeDiff]
        refine w_callS (rsh := [[.sc]]) (ys := [.agg [.int .i64 b21.End, .bool b21.Asks, .int .i64 b21.Final, .int .i64 b21.Said], .agg [.int .i64 b22.End, .bool b22.Asks, .int .i64 b22.Final, .int .i64 b22.Said]]) h rfl (by rfl) fun b23 hb23 h => ⟨.bool b23, laws_eqCase_w hb23 (Own.nil _) fun H hS => TV_ok rfl (TV_p rfl (TV_n rfl)), ⟨rfl, rfl, fun _ => rfl⟩, ?_⟩
        try simp only [W]
        refine seq_n hK20 ?_
        refine w_if ?_
        simp only [W]
        refine w_cnd h (fun hc h => ?_) (fun hc h => ?_)
        · refine w_seq fun K24 hK24 => ?_
          refine w_reg gC ?_
          try simp only [W, Nat.reduceAdd]
          refine seq_n hK24 ?_
          refine w_ret ?_
          refine blk_r hK19 ?_
          refine seq_r hK18 ?_
          try obtain rfl := Option.some.inj h
          obtain rfl := hd13 _ rfl
          have h : (some (LR.done false) : Option (LR Unit (Bool))) = some (LR.done false) := rfl
          refine lp_r hK12 ?_
          refine blk_r hK11 ?_
          try obtain rfl := Option.some.inj h
          obtain rfl := Option.some.inj g15
          have h : (some false : Option (Bool)) = some false := rfl
          refine cut_r hK10 ?_
          refine seq_r hK5 ?_
          refine fin_r1 hK0 rfl ?_
          try obtain rfl := Option.some.inj h
          exact hP _ hS
        · refine w_skip ?_
          refine blk_n0 hK19 ?_
          refine seq_n hK18 ?_
          refine w_reg gC ?_
          try simp only [W, EE, Nat.reduceAdd]
          exact lp_n hK12 h ⟨rfl, hS⟩
      · refine w_exit ?_
        refine seq_x hK16 ?_
        try obtain rfl := Option.some.inj h
        obtain rfl := hd13 _ rfl
        have h : (some (LR.next ()) : Option (LR Unit (Bool))) = some (LR.next ()) := rfl
        refine lp_x hK12 ?_
        refine blk_e hK11 ?_
        exact cut_n hK10 ⟨(Option.some.inj h).symm, rfl, hS⟩
    · obtain ⟨rfl, rfl, hS⟩ := hq
      replace h := g15
      try dsimp only at h
      refine seq_n hK5 ?_
      refine w_seq fun K31 hK31 => ?_
      refine w_reg gC ?_
      try simp only [W, Nat.reduceAdd]
      refine seq_n hK31 ?_
      refine w_ret ?_
      refine fin_r1 hK0 rfl ?_
      try obtain rfl := Option.some.inj h
      exact hP _ hS
theorem laws_eqSlip_w {a0 : Slip} {a1 : Slip} {r : (Bool)} (h : laws_eqSlip a0 a1 = some r) {F : List It} {H : Heap} (hS : Own H (F)) {P : AV → Heap → Prop} (hP : ∀ H', Own H' (F) → P (.bool r) H') : ACall C 175 [.agg [.int .i64 a0.Kind, .int .i64 a0.Case, .int .i64 a0.What], .agg [.int .i64 a1.Kind, .int .i64 a1.Case, .int .i64 a1.What]] H P := by
  refine acall_of gC (res := [.tmp 4]) (n := 20) rfl rfl rfl rfl fun K0 hK0 => ?_
  simp only [W, Nat.reduceSub, Nat.reduceAdd, List.replicate]
  unfold laws_eqSlip at h
  refine w_seq fun K1 hK1 => ?_
  refine w_reg gC ?_
  try simp only [W, Nat.reduceAdd]
  refine w_box hS rfl rfl rfl rfl fun ip2 wp2 H hS => ?_
  try simp only [W]
  refine w_box hS rfl rfl rfl rfl fun ip4 wp4 H hS => ?_
  try simp only [W]
  refine seq_n hK1 ?_
  refine w_seq fun K6 hK6 => ?_
  refine w_seq fun K7 hK7 => ?_
  refine w_reg gC ?_
  try simp only [W, EE, Nat.reduceAdd, Nat.reduceBEq, hS.var 1 rfl, hS.var 0 rfl]
  refine seq_n hK7 ?_
  refine w_if ?_
  simp only [W]
  refine w_cnd h (fun hc h => ?_) (fun hc h => ?_)
  · refine w_seq fun K8 hK8 => ?_
    refine w_reg gC ?_
    try simp only [W, Nat.reduceAdd]
    refine seq_n hK8 ?_
    refine w_ret ?_
    refine seq_r hK6 ?_
    refine fin_r1 hK0 rfl ?_
    try obtain rfl := Option.some.inj h
    exact hP _ (hS.sel 2 [] (by decide))
  · refine w_skip ?_
    refine seq_n hK6 ?_
    refine w_seq fun K9 hK9 => ?_
    refine w_seq fun K10 hK10 => ?_
    refine w_reg gC ?_
    try simp only [W, EE, Nat.reduceAdd, Nat.reduceBEq, hS.var 1 rfl, hS.var 0 rfl]
    refine seq_n hK10 ?_
    refine w_if ?_
    simp only [W]
    refine w_cnd h (fun hc h => ?_) (fun hc h => ?_)
    · refine w_seq fun K11 hK11 => ?_
      refine w_reg gC ?_
      try simp only [W, Nat.reduceAdd]
      refine seq_n hK11 ?_
      refine w_ret ?_
      refine seq_r hK9 ?_
      refine fin_r1 hK0 rfl ?_
      try obtain rfl := Option.some.inj h
      exact hP _ (hS.sel 2 [] (by decide))
    · refine w_skip ?_
      refine seq_n hK9 ?_
      refine w_seq fun K12 hK12 => ?_
      refine w_seq fun K13 hK13 => ?_
      refine w_reg gC ?_
      try simp only [W, EE, Nat.reduceAdd, Nat.reduceBEq, hS.var 1 rfl, hS.var 0 rfl]
      refine seq_n hK13 ?_
      refine w_if ?_
      simp only [W]
      refine w_cnd h (fun hc h => ?_) (fun hc h => ?_)
      · refine w_seq fun K14 hK14 => ?_
        refine w_reg gC ?_
        try simp only [W, Nat.reduceAdd]
        refine seq_n hK14 ?_
        refine w_ret ?_
        refine seq_r hK12 ?_
        refine fin_r1 hK0 rfl ?_
        try obtain rfl := Option.some.inj h
        exact hP _ (hS.sel 2 [] (by decide))
      · refine w_skip ?_
        refine seq_n hK12 ?_
        refine w_seq fun K15 hK15 => ?_
        refine w_reg gC ?_
        try simp only [W, Nat.reduceAdd]
        refine seq_n hK15 ?_
        refine w_ret ?_
        refine fin_r1 hK0 rfl ?_
        try obtain rfl := Option.some.inj h
        exact hP _ (hS.sel 2 [] (by decide))
theorem laws_eqSlipS_w {a0 : List Slip} {a1 : List Slip} {r : (Bool)} (h : laws_eqSlipS a0 a1 = some r) {F : List It} {H : Heap} (hS : Own H (F)) {P : AV → Heap → Prop} (hP : ∀ H', Own H' (F) → P (.bool r) H') : ACall C 107 [.fz (a0.map e_Slip), .fz (a1.map e_Slip)] H P := by
  refine acall_of gC (res := [.tmp 4]) (n := 27) rfl rfl rfl rfl fun K0 hK0 => ?_
  simp only [W, Nat.reduceSub, Nat.reduceAdd, List.replicate]
  unfold laws_eqSlipS at h
  refine w_seq fun K1 hK1 => ?_
  refine w_reg gC ?_
  try simp only [W, Nat.reduceAdd]
  refine seq_n hK1 ?_
  refine w_seq fun K2 hK2 => ?_
  refine w_seq fun K3 hK3 => ?_
  refine w_reg gC ?_
  try simp only [W, EE, Nat.reduceAdd]
  refine seq_n hK3 ?_
  refine w_if ?_
  simp only [W]
  refine w_cnd h (fun hc h => ?_) (fun hc h => ?_)
  · refine w_seq fun K4 hK4 => ?_
    refine w_reg gC ?_
    try simp only [W, Nat.reduceAdd]
    refine seq_n hK4 ?_
    refine w_ret ?_
    refine seq_r hK2 ?_
    refine fin_r1 hK0 rfl ?_
    try obtain rfl := Option.some.inj h
    exact hP _ hS
  · refine w_skip ?_
    refine seq_n hK2 ?_
    refine w_seq fun K5 hK5 => ?_
    refine w_seq fun K6 hK6 => ?_
    refine w_reg gC ?_
    try simp only [W, Nat.reduceAdd]
    refine seq_n hK6 ?_
    obtain ⟨y8, hw9, g15⟩ := Option.bind_eq_some_iff.1 h
    refine w_join gC (fun s H => y8 = LR.next () ∧ s = [u, u, u, u, u, u, u, u, u, u, u, u, u, u, u, u, u, u, u, u, u, u, u, u, u, u, u] ∧ Own H (F)) (fun K10 hK10 => ?_) (fun s H hq => ?_)
    · refine w_blk fun K11 hK11 => ?_
      refine w_loop gC hw9 (fun x s H => s = [.fz (a0.map e_Slip), .fz (a1.map e_Slip), u, u, u, .int .i64 x, u, u, u, u, u, u, u, u, u, u, u, u, u, u, u, u, u, u, u, u, u] ∧ Own H (F)) ⟨rfl, hS⟩ (fun x7 y14 s H h hd13 hi K12 hK12 => ?_)
      skip
      try dsimp only at hi
      obtain ⟨rfl, hS⟩ := hi
      simp only [laws_eqSlipS_l0] at h
      refine w_seq fun K16 hK16 => ?_
      refine w_seq fun K17 hK17 => ?_
      refine w_reg gC ?_
      try simp only [W, EE, Nat.reduceAdd]
      refine seq_n hK17 ?_
      refine w_if ?_
      simp only [W]
      refine w_cnd h (fun hc h => ?_) (fun hc h => ?_)
      · refine w_skip ?_
        refine seq_n hK16 ?_
        refine w_seq fun K18 hK18 => ?_
        refine w_blk fun K19 hK19 => ?_
        refine w_seq fun K20 hK20 => ?_
        refine w_draw0 gC (by kernel_rfl) ?_
        try simp only [W, EE, Nat.reduceAdd]
        refine w_fz rfl rfl rfl (fun _ => rfl) h fun b21 hb21 h => ?_
        try simp only [W, EE, EN, reduceIte, Nat.reduceAdd, Nat.reduceLeDiff]
        refine w_fz rfl rfl rfl (fun _ => rfl) h fun b22 hb22 h => ?_
        try simp only [W, EE, EN, reduceIte, Nat.reduceAdd, Nat.reduceLeDiff]
        refine w_callS (rsh := [[.sc]]) (ys := [.agg [.int .i64 b21.Kind, .int .i64 b21.Case, .int .i64 b21.What], .agg [.int .i64 b22.Kind, .int .i64 b22.Case, .int .i64 b22.What]]) h rfl (by rfl) fun b23 hb23 h => ⟨.bool b23, laws_eqSlip_w hb23 (Own.nil _) fun H hS => TV_ok rfl (TV_p rfl (TV_n rfl)), ⟨rfl, rfl, fun _ => rfl⟩, ?_⟩
        try simp only [W]
        refine seq_n hK20 ?_
        refine w_if ?_
        simp only [W]
        refine w_cnd h (fun hc h => ?_) (fun hc h => ?_)
        · refine w_seq fun K24 hK24 => ?_
          refine w_reg gC ?_
          try simp only [W, Nat.reduceAdd]
          refine seq_n hK24 ?_
          refine w_ret ?_
          refine blk_r hK19 ?_
          refine seq_r hK18 ?_
          try obtain rfl := Option.some.inj h
          obtain rfl := hd13 _ rfl
          have h : (some (LR.done false) : Option (LR Unit (Bool))) = some (LR.done false) := rfl
          refine lp_r hK12 ?_
          refine blk_r hK11 ?_
          try obtain rfl := Option.some.inj h
          obtain rfl := Option.some.inj g15
          have h : (some false : Option (Bool)) = some false := rfl
          refine cut_r hK10 ?_
          refine seq_r hK5 ?_
          refine fin_r1 hK0 rfl ?_
          try obtain rfl := Option.some.inj h
          exact hP _ hS
        · refine w_skip ?_
          refine blk_n0 hK19 ?_
          refine seq_n hK18 ?_
          refine w_reg gC ?_
          try simp only [W, EE, Nat.reduceAdd]
          exact lp_n hK12 h ⟨rfl, hS⟩
      · refine w_exit ?_
        refine seq_x hK16 ?_
        try obtain rfl := Option.some.inj h
        obtain rfl := hd13 _ rfl
        have h : (some (LR.next ()) : Option (LR Unit (Bool))) = some (LR.next ()) := rfl
        refine lp_x hK12 ?_
        refine blk_e hK11 ?_
        exact cut_n hK10 ⟨(Option.some.inj h).symm, rfl, hS⟩
    · obtain ⟨rfl, rfl, hS⟩ := hq
      replace h := g15
      try dsimp only at h
      refine seq_n hK5 ?_
      refine w_seq fun K31 hK31 => ?_
      refine w_reg gC ?_
      try simp only [W, Nat.reduceAdd]
      refine seq_n hK31 ?_
      refine w_ret ?_
      refine fin_r1 hK0 rfl ?_
      try obtain rfl := Option.some.inj h
      exact hP _ hS
theorem laws_eqCourt_w {a0 : Court} {a1 : Court} {r : (Bool)} (h : laws_eqCourt a0 a1 = some r) {F : List It} {H : Heap} (hS : Own H (F)) {P : AV → Heap → Prop} (hP : ∀ H', Own H' (F) → P (.bool r) H') : ACall C 28 [.agg [.int .i64 a0.Now, .fz (a0.Cases.map e_Case), .fz (a0.Line.map e_Slip)], .agg [.int .i64 a1.Now, .fz (a1.Cases.map e_Case), .fz (a1.Line.map e_Slip)]] H P := by
  refine acall_of gC (res := [.tmp 4]) (n := 22) rfl rfl rfl rfl fun K0 hK0 => ?_
  simp only [W, Nat.reduceSub, Nat.reduceAdd, List.replicate]
  unfold laws_eqCourt at h
  refine w_seq fun K1 hK1 => ?_
  refine w_reg gC ?_
  try simp only [W, Nat.reduceAdd]
  refine w_box hS rfl rfl rfl rfl fun ip2 wp2 H hS => ?_
  try simp only [W]
  refine w_box hS rfl rfl rfl rfl fun ip4 wp4 H hS => ?_
  try simp only [W]
  refine seq_n hK1 ?_
  refine w_seq fun K6 hK6 => ?_
  refine w_seq fun K7 hK7 => ?_
  refine w_reg gC ?_
  try simp only [W, EE, Nat.reduceAdd, Nat.reduceBEq, hS.var 1 rfl, hS.var 0 rfl]
  refine seq_n hK7 ?_
  refine w_if ?_
  simp only [W]
  refine w_cnd h (fun hc h => ?_) (fun hc h => ?_)
  · refine w_seq fun K8 hK8 => ?_
    refine w_reg gC ?_
    try simp only [W, Nat.reduceAdd]
    refine seq_n hK8 ?_
    refine w_ret ?_
    refine seq_r hK6 ?_
    refine fin_r1 hK0 rfl ?_
    try obtain rfl := Option.some.inj h
    exact hP _ (hS.sel 2 [] (by decide))
  · refine w_skip ?_
    refine seq_n hK6 ?_
    refine w_seq fun K9 hK9 => ?_
    refine w_seq fun K10 hK10 => ?_
    refine w_reg gC ?_
    try simp only [W, EE, Nat.reduceAdd, Nat.reduceBEq, hS.var 1 rfl, hS.var 0 rfl]
    refine w_call h fun b11 hb11 h => ?_
    refine laws_eqCaseS_w hb11 hS fun H hS => ?_
    try simp only [W]
    refine seq_n hK10 ?_
    refine w_if ?_
    simp only [W]
    refine w_cnd h (fun hc h => ?_) (fun hc h => ?_)
    · refine w_seq fun K12 hK12 => ?_
      refine w_reg gC ?_
      try simp only [W, Nat.reduceAdd]
      refine seq_n hK12 ?_
      refine w_ret ?_
      refine seq_r hK9 ?_
      refine fin_r1 hK0 rfl ?_
      try obtain rfl := Option.some.inj h
      exact hP _ (hS.sel 2 [] (by decide))
    · refine w_skip ?_
      refine seq_n hK9 ?_
      refine w_seq fun K13 hK13 => ?_
      refine w_seq fun K14 hK14 => ?_
      refine w_reg gC ?_
      try simp only [W, EE, Nat.reduceAdd, Nat.reduceBEq, hS.var 1 rfl, hS.var 0 rfl]
      refine w_call h fun b15 hb15 h => ?_
      refine laws_eqSlipS_w hb15 hS fun H hS => ?_
      try simp only [W]
      refine seq_n hK14 ?_
      refine w_if ?_
      simp only [W]
      refine w_cnd h (fun hc h => ?_) (fun hc h => ?_)
      · refine w_seq fun K16 hK16 => ?_
        refine w_reg gC ?_
        try simp only [W, Nat.reduceAdd]
        refine seq_n hK16 ?_
        refine w_ret ?_
        refine seq_r hK13 ?_
        refine fin_r1 hK0 rfl ?_
        try obtain rfl := Option.some.inj h
        exact hP _ (hS.sel 2 [] (by decide))
      · refine w_skip ?_
        refine seq_n hK13 ?_
        refine w_seq fun K17 hK17 => ?_
        refine w_reg gC ?_
        try simp only [W, Nat.reduceAdd]
        refine seq_n hK17 ?_
        refine w_ret ?_
        refine fin_r1 hK0 rfl ?_
        try obtain rfl := Option.some.inj h
        exact hP _ (hS.sel 2 [] (by decide))
theorem laws_FnExactIsSettled_w {a0 : Court} {r : (Bool)} (h : laws_FnExactIsSettled a0 = some r) {F : List It} {H : Heap} (hS : Own H (F)) {P : AV → Heap → Prop} (hP : ∀ H', Own H' (F) → P (.bool r) H') : ACall C 6 [.agg [.int .i64 a0.Now, .fz (a0.Cases.map e_Case), .fz (a0.Line.map e_Slip)]] H P := by
  refine acall_of gC (res := [.tmp 2]) (n := 40) rfl rfl rfl rfl fun K0 hK0 => ?_
  simp only [W, Nat.reduceSub, Nat.reduceAdd, List.replicate]
  unfold laws_FnExactIsSettled at h
  refine w_seq fun K1 hK1 => ?_
  refine w_reg gC ?_
  try simp only [W, Nat.reduceAdd]
  refine w_box hS rfl rfl rfl rfl fun ip2 wp2 H hS => ?_
  try simp only [W]
  refine seq_n hK1 ?_
  refine w_seq fun K4 hK4 => ?_
  refine w_reg gC ?_
  try simp only [W, Nat.reduceAdd]
  refine seq_n hK4 ?_
  refine w_seq fun K5 hK5 => ?_
  refine w_reg gC ?_
  try simp only [W, EE, reduceIte, Nat.reduceAdd, Nat.reduceLeDiff, hS.var 0 rfl]
  refine w_call h fun b6 hb6 h => ?_
  refine laws_szCourt_w hb6 hS fun H hS => ?_
  try simp only [W]
  refine seq_n hK5 ?_
  refine w_seq fun K7 hK7 => ?_
  refine w_seq fun K8 hK8 => ?_
  refine w_reg gC ?_
  try simp only [W, EE, Nat.reduceAdd]
  refine seq_n hK8 ?_
  refine w_if ?_
  simp only [W]
  refine w_cnd h (fun hc h => ?_) (fun hc h => ?_)
  · refine w_seq fun K9 hK9 => ?_
    refine w_reg gC ?_
    try simp only [W, Nat.reduceAdd]
    refine seq_n hK9 ?_
    refine w_ret ?_
    refine seq_r hK7 ?_
    refine fin_r1 hK0 rfl ?_
    try obtain rfl := Option.some.inj h
    exact hP _ (hS.sel 1 [] (by decide))
  · refine w_skip ?_
    refine seq_n hK7 ?_
    refine w_seq fun K10 hK10 => ?_
    refine w_reg gC ?_
    try simp only [W, EE, reduceIte, Nat.reduceAdd, Nat.reduceLeDiff, hS.var 0 rfl]
    refine w_call h fun b11 hb11 h => ?_
    refine laws_toCourt_w hb11 hS fun v12 qv12 v14 qv14 H hS => ?_
    try simp only [W]
    refine w_callS (rsh := [[.sc], [.sc]]) (ys := [.agg [.int .i64 b11.Now, .fz (b11.Cases.map e_Case), .fz (b11.Line.map e_Slip)]]) h rfl (pv_c (sn_agg (sm_c rfl (sm_c (sn_ow hS 0 rfl qv12 (fun _ => rfl)) (sm_c (sn_ow hS 1 rfl qv14 (fun _ => rfl)) (sm_n _))))) pv_n) fun b16 hb16 h => ⟨.tup [.bool b16.1, .bool b16.2], spec_IsSettled_w hb16 (Own.nil _) fun H hS => TV_ok rfl (TV_p rfl (TV_p rfl (TV_n rfl))), ⟨rfl, rfl, fun _ => rfl⟩, ?_⟩
    obtain ⟨b17, b18⟩ := b16
    try dsimp only at h
    try simp only [W]
    refine seq_n hK10 ?_
    refine w_seq fun K19 hK19 => ?_
    refine w_reg gC ?_
    try simp only [W, EE, reduceIte, Nat.reduceAdd, Nat.reduceLeDiff, hS.var 2 rfl]
    refine w_call h fun b20 hb20 h => ?_
    refine laws_toCourt_w hb20 hS fun v21 qv21 v23 qv23 H hS => ?_
    try simp only [W]
    refine w_alloc hS rfl rfl fun ip25 wp25 H hS => ?_
    try simp only [W]
    refine w_stv (a := .agg [.int .i64 b20.Now, v21, v23]) (y' := .agg [.int .i64 b20.Now, v21, v23]) 0 hS rfl rfl rfl rfl rfl (by simp only [storA, List.all_cons, List.all_nil, qv21.stor, qv23.stor]; rfl) rfl rfl fun H hS => ?_
    try simp only [W]
    refine seq_n hK19 ?_
    refine w_seq fun K27 hK27 => ?_
    refine w_reg gC ?_
    try simp only [W, EE, reduceIte, Nat.reduceAdd, Nat.reduceLeDiff, hS.var 0 rfl]
    refine w_callS (rsh := [[.sc], [.sc]]) (ys := [.agg [.int .i64 b20.Now, .fz (b20.Cases.map e_Case), .fz (b20.Line.map e_Slip)]]) h rfl (pv_c (sn_agg (sm_c rfl (sm_c (sn_ow hS 1 rfl qv21 (fun _ => rfl)) (sm_c (sn_ow hS 2 rfl qv23 (fun _ => rfl)) (sm_n _))))) pv_n) fun b28 hb28 h => ⟨.tup [.bool b28.1, .bool b28.2], impl_IsSettled_w hb28 (Own.nil _) fun H hS => TV_ok rfl (TV_p rfl (TV_p rfl (TV_n rfl))), ⟨rfl, rfl, fun _ => rfl⟩, ?_⟩
    obtain ⟨b29, b30⟩ := b28
    try dsimp only at h
    try simp only [W]
    refine seq_n hK27 ?_
    refine w_seq fun K31 hK31 => ?_
    refine w_seq fun K32 hK32 => ?_
    obtain ⟨y34, h, g35⟩ := Option.bind_eq_some_iff.1 h
    refine w_join gC (fun s H => ∃ x33 : Bool, y34 = (x33) ∧ s = [u, .ptr ip2 wp2 0 0, u, u, u, u, .ptr ip25 wp25 0 0, u, u, u, u, u, u, u, u, u, u, u, u, u, u, u, u, u, u, u, u, u, u, u, u, u, u, u, .bool x33, u, u, u, u, u] ∧ Own H (⟨v21, 4, b20.Cases.map e_Case⟩ :: ⟨v23, 3, b20.Line.map e_Slip⟩ :: ⟨.ptr ip2 wp2 0 0, 3, [.agg [.int .i64 a0.Now, .fz (a0.Cases.map e_Case), .fz (a0.Line.map e_Slip)]]⟩ :: ⟨.ptr ip25 wp25 0 0, 3, [.agg [.int .i64 b20.Now, v21, v23]]⟩ :: F)) (fun K36 hK36 => ?_) (fun s H hq => ?_)
    · refine w_seq fun K37 hK37 => ?_
      refine w_reg gC ?_
      try simp only [W, EE, Nat.reduceAdd]
      rw [b_bneq _ _ _ _ (h := rfl) rfl, resV_s]
      try simp only [W]
      refine w_grdT h (fun hc h => ?_) (fun hc h => ?_)
      · try simp only [W, hc]
        refine seq_n hK37 ?_
        refine w_kill ?_
        exact cut_n hK36 ⟨_, (Option.some.inj h).symm, rfl, (hS.sel 6 [1, 2, 5, 0] (by decide))⟩
      · try simp only [W, EE, hc]
        rw [b_bneq _ _ _ _ (h := rfl) rfl, resV_s]
        try simp only [W, reduceIte, Bool.false_eq_true]
        refine seq_n hK37 ?_
        refine w_kill ?_
        exact cut_n hK36 ⟨_, (Option.some.inj h).symm, rfl, (hS.sel 6 [1, 2, 5, 0] (by decide))⟩
    · obtain ⟨x33, ey, rfl, hS⟩ := hq; obtain rfl := ey.symm
      replace h := g35
      try dsimp only at h
      refine seq_n hK32 ?_
      refine w_if ?_
      simp only [W]
      refine w_cnd h (fun hc h => ?_) (fun hc h => ?_)
      · refine w_seq fun K38 hK38 => ?_
        refine w_reg gC ?_
        try simp only [W, Nat.reduceAdd]
        refine seq_n hK38 ?_
        refine w_ret ?_
        refine seq_r hK31 ?_
        refine fin_r1 hK0 rfl ?_
        try obtain rfl := Option.some.inj h
        exact hP _ (hS.sel 4 [] (by decide))
      · refine w_skip ?_
        refine seq_n hK31 ?_
        refine w_seq fun K39 hK39 => ?_
        refine w_seq fun K40 hK40 => ?_
        refine w_draw0 gC (by kernel_rfl) ?_
        try simp only [W, EE, reduceIte, Nat.reduceAdd, Nat.reduceLeDiff, hS.var 3 rfl, hS.var 2 rfl]
        refine w_callF (rsh := [[.sc, .sl [.sc, .sc, .sc, .sc], .sl [.sc, .sc, .sc]]]) (ys := [.agg [.int .i64 a0.Now, .fz (a0.Cases.map e_Case), .fz (a0.Line.map e_Slip)]]) h rfl (by rfl) fun b41 hb41 h => ⟨.agg [.int .i64 b41.Now, .own 4 (b41.Cases.map e_Case), .own 3 (b41.Line.map e_Slip)], laws_toCourt_w hb41 (Own.nil _) fun v42 qv42 v43 qv43 H hS => TV_ok rfl (TV_a (TC_sc rfl (TC_ow 0 hS rfl qv42 (fun _ _ => by simp [takeE, takeT, takeC, plainA, e_Case]) fun H hS => TC_ow 0 hS rfl qv43 (fun _ _ => by simp [takeE, takeT, takeC, plainA, e_Slip]) fun H hS => TC_nil (TV_n rfl)))), ?_⟩
        simp only [W, frzL_map (c := e_Case) (fun _ => rfl), frzL_map (c := e_Slip) (fun _ => rfl)]
        try simp only [W, EE, EN, reduceIte, Nat.reduceAdd, Nat.reduceLeDiff, Nat.reduceBEq, Nat.reduceMul, Bool.false_eq_true]
        refine w_callS (rsh := [[.sc]]) (ys := [.agg [.int .i64 b20.Now, .fz (b20.Cases.map e_Case), .fz (b20.Line.map e_Slip)], .agg [.int .i64 b41.Now, .fz (b41.Cases.map e_Case), .fz (b41.Line.map e_Slip)]]) h rfl (pv_c (sn_agg (sm_c rfl (sm_c (sn_ow hS 0 rfl qv21 (fun _ => rfl)) (sm_c (sn_ow hS 1 rfl qv23 (fun _ => rfl)) (sm_n _))))) (pv_c rfl pv_n)) fun b44 hb44 h => ⟨.bool b44, laws_eqCourt_w hb44 (Own.nil _) fun H hS => TV_ok rfl (TV_p rfl (TV_n rfl)), ⟨rfl, rfl, fun _ => rfl⟩, ?_⟩
        try simp only [W]
        refine seq_n hK40 ?_
        refine w_if ?_
        simp only [W]
        refine w_cnd h (fun hc h => ?_) (fun hc h => ?_)
        · refine w_seq fun K45 hK45 => ?_
          refine w_reg gC ?_
          try simp only [W, Nat.reduceAdd]
          refine seq_n hK45 ?_
          refine w_ret ?_
          refine seq_r hK39 ?_
          refine fin_r1 hK0 rfl ?_
          try obtain rfl := Option.some.inj h
          exact hP _ (hS.sel 4 [] (by decide))
        · refine w_skip ?_
          refine seq_n hK39 ?_
          refine w_seq fun K46 hK46 => ?_
          refine w_reg gC ?_
          try simp only [W, Nat.reduceAdd]
          refine seq_n hK46 ?_
          refine w_ret ?_
          refine fin_r1 hK0 rfl ?_
          try obtain rfl := Option.some.inj h
          exact hP _ (hS.sel 4 [] (by decide))
end Go.VxW
