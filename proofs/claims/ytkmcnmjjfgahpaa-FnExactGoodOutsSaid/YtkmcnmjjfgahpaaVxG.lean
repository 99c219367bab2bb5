import Derived.Test.YtkmcnmjjfgahpaaProg
import Derived.Test.YtkmcnmjjfgahpaaVtS
import Derived.KernelRfl
open Go Go.VS
namespace Go.VxW
structure Out where
  Text : List UInt8
  End : Int
  Heard : List Bool
  Final : Int
def e_Out (x : Out) : AV := .agg [.str x.Text, .int .i64 x.End, .fz (x.Heard.map AV.bool), .int .i64 x.Final]
def E : TEnv := fun t => match t with
  | 3 => some { sz := 1, agg := false, zero := [AV.int IntKind.i64 0], bytes := 8, und := UD.it IntKind.i64, eqok := true }
  | 4 => some { sz := 1, agg := false, zero := [AV.bool false], bytes := 1, und := UD.bl, eqok := true }
  | 9 => some { sz := 1, agg := false, zero := [AV.str []], bytes := 16, und := UD.str, eqok := true }
  | 22 => some { sz := 1, agg := false, zero := [AV.nil], bytes := 24, und := UD.sl 115, eqok := true }
  | 25 => some { sz := 1, agg := false, zero := [AV.nil], bytes := 24, und := UD.sl 116, eqok := true }
  | 113 => some { sz := 1, agg := false, zero := [AV.nil], bytes := 24, und := UD.sl 4, eqok := true }
  | 115 => some { sz := 4, agg := true, zero := [AV.str [], AV.int IntKind.i64 0, AV.nil, AV.int IntKind.i64 0], bytes := 56, und := UD.st [(0, 9), (1, 3), (2, 113), (3, 3)], eqok := true }
  | 116 => some { sz := 4, agg := true, zero := [AV.str [], AV.int IntKind.i64 0, AV.nil, AV.int IntKind.i64 0], bytes := 56, und := UD.st [(0, 9), (1, 3), (2, 113), (3, 3)], eqok := true }
  | 122 => some { sz := 1, agg := false, zero := [AV.undef], bytes := 8, und := UD.ot, eqok := true }
  | _ => none
def pol : FuncId → FPol := fun f => match f with
  | 3 => { rsh := [[.sc]], fz := [(5, [(2, [([13], [.sl [.sc, .sc, .sl [.sc], .sc]])])]), (7, [(1, [([17, 5, 16], [.sl [.sc, .sc, .sl [.sc], .sc]])])]), (10, [(3, [([24], [.sl [.sc, .sc, .sl [.sc], .sc]])])])] }
  | 4 => { rsh := [[.sc]], frz := [(8, [], some [0, 8, 38])], fz := [(5, [(3, [([18], [.sl [.sc, .sc, .sl [.sc], .sc]])])]), (7, [(2, [([26, 8, 24], [.sl [.sc, .sc, .sl [.sc], .sc]])])]), (10, [(3, [([41], [.sl [.sc, .sc, .sl [.sc], .sc]])])])] }
  | 5 => { rsh := [[.sc]], frz := [(8, [], some [0, 8, 52])], fz := [(5, [(2, [([20], [.sl [.sc, .sc, .sl [.sc], .sc]])])]), (7, [(1, [([29, 8, 27], [.sl [.sc, .sc, .sl [.sc], .sc]])])]), (10, [(3, [([55], [.sl [.sc, .sc, .sl [.sc], .sc]])])])] }
  | 15 => { rsh := [[.sc]], loops := [(0, { keep := [0, 1, 5] })], blocks := [(0, [1])] }
  | 16 => { rsh := [[.sc]], loops := [(0, { keep := [0, 5, 6, 7] })], blocks := [(0, [0])], frz := [(4, [], some [0, 5, 6, 7, 37])] }
  | 17 => { rsh := [[.sl [.sc, .sc, .sl [.sc], .sc]]], loops := [(0, { keep := [0, 3, 4] })], blocks := [(0, [3])], fz := [(5, [(8, [([20], [.sc, .sc, .sl [.sc], .sc])])])] }
  | 18 => { rsh := [[.sc]] }
  | 19 => { rsh := [[.sc]], loops := [(0, { keep := [0, 1, 5] })], blocks := [(0, [])] }
  | 20 => { rsh := [[.sc], [.sc]], loops := [(0, { keep := [1, 6, 19, 20, 21] }), (2, { keep := [1, 6, 19, 20, 21, 35, 36, 37] })], blocks := [(1, [1, 6, 19, 20, 21]), (2, [1, 6, 19, 20, 21]), (0, [6])], frz := [(1, [], some [0, 1, 18]), (7, [], some [1, 6, 8, 19, 20, 21, 33])] }
  | 21 => { rsh := [[.sc], [.sc]], loops := [(0, { keep := [1, 6, 19, 20, 21] }), (2, { keep := [1, 6, 19, 20, 21, 35, 36, 37] })], blocks := [(1, [1, 6, 19, 20, 21]), (3, [1, 6, 19, 20, 21, 35, 36, 37]), (2, [1, 6, 19, 20, 21]), (0, [6])], frz := [(1, [], some [0, 1, 18]), (7, [], some [1, 6, 8, 19, 20, 21, 33])], cnds := [(42, [1, 6, 19, 20, 21, 35, 36, 37])] }
  | 22 => { rsh := [[.sc], [.sc], [.sc], [.sc]] }
  | 23 => { rsh := [[.sc], [.sc], [.sc], [.sc]] }
  | 85 => { rsh := [[.sc]] }
  | 86 => { rsh := [[.sc]] }
  | 87 => { rsh := [[.sc]] }
  | 88 => { rsh := [[.sc]] }
  | 89 => { rsh := [[.sc, .sc, .sl [.sc], .sc]] }
  | 90 => { rsh := [[.sc]] }
  | 91 => { rsh := [[.sc]] }
  | 92 => { rsh := [[.sc]] }
  | 93 => { rsh := [[.sc]] }
  | 94 => { rsh := [[.sc]] }
  | 95 => { rsh := [[.sc]] }
  | 96 => { rsh := [[.sc], [.sc]], loops := [(0, { keep := [0, 4, 7, 8, 9] })], blocks := [(1, [0, 4, 7, 8, 9]), (0, [0, 4])], frz := [(5, [], some [0, 4, 5, 7, 8, 9, 35])], cnds := [(35, [0, 4, 7, 8, 9])] }
  | 97 => { rsh := [[.sc], [.sc], [.sc]], loops := [(0, { keep := [0, 5, 8, 9, 10] })], blocks := [(1, [0, 5, 8, 9, 10]), (0, [0, 5])], frz := [(5, [], some [0, 5, 6, 8, 9, 10, 36])], cnds := [(36, [0, 5, 8, 9, 10])] }
  | 160 => { rsh := [[.sc]] }
  | 161 => { rsh := [[.sl [.sc]]], loops := [(0, { keep := [0, 3, 4] })], blocks := [(0, [3])] }
  | 162 => { rsh := [[.sc]], loops := [(0, { keep := [0, 1, 7, 8] })], blocks := [(0, [])] }
  | 163 => { rsh := [[.sc]], loops := [(0, { keep := [0, 1, 5] })], blocks := [(0, [])] }
  | 164 => { rsh := [[.sc]], loops := [(0, { keep := [6, 7, 8] })], blocks := [(0, [])] }
  | 165 => { rsh := [[.sc]] }
  | 166 => { rsh := [[.sc]], loops := [(0, { keep := [0, 1, 7, 8] })], blocks := [(0, [])] }
  | _ => {}
noncomputable def code : FuncId → Option Func := fun f => match f with
  | 3 => some Go.Proofs.Try.f3
  | 4 => some Go.Proofs.Try.f4
  | 5 => some Go.Proofs.Try.f5
  | 15 => some Go.Proofs.Try.f15
  | 16 => some Go.Proofs.Try.f16
  | 17 => some Go.Proofs.Try.f17
  | 18 => some Go.Proofs.Try.f18
  | 19 => some Go.Proofs.Try.f19
  | 20 => some Go.Proofs.Try.f20
  | 21 => some Go.Proofs.Try.f21
  | 22 => some Go.Proofs.Try.f22
  | 23 => some Go.Proofs.Try.f23
  | 85 => some Go.Proofs.Try.f85
  | 86 => some Go.Proofs.Try.f86
  | 87 => some Go.Proofs.Try.f87
  | 88 => some Go.Proofs.Try.f88
  | 89 => some Go.Proofs.Try.f89
  | 90 => some Go.Proofs.Try.f90
  | 91 => some Go.Proofs.Try.f91
  | 92 => some Go.Proofs.Try.f92
  | 93 => some Go.Proofs.Try.f93
  | 94 => some Go.Proofs.Try.f94
  | 95 => some Go.Proofs.Try.f95
  | 96 => some Go.Proofs.Try.f96
  | 97 => some Go.Proofs.Try.f97
  | 160 => some Go.Proofs.Try.f160
  | 161 => some Go.Proofs.Try.f161
  | 162 => some Go.Proofs.Try.f162
  | 163 => some Go.Proofs.Try.f163
  | 164 => some Go.Proofs.Try.f164
  | 165 => some Go.Proofs.Try.f165
  | 166 => some Go.Proofs.Try.f166
  | _ => none
noncomputable def C : Ctx := ⟨E, pol, code, fun _ _ _ _ => False⟩
theorem gC : Good C := ⟨fun _ _ _ _ _ _ h => h, fun _ _ _ _ h => h.elim⟩
theorem cE : C.E = E := rfl
theorem E3 : E 3 = some { sz := 1, agg := false, zero := [AV.int IntKind.i64 0], bytes := 8, und := UD.it IntKind.i64, eqok := true } := rfl
theorem E4 : E 4 = some { sz := 1, agg := false, zero := [AV.bool false], bytes := 1, und := UD.bl, eqok := true } := rfl
theorem E9 : E 9 = some { sz := 1, agg := false, zero := [AV.str []], bytes := 16, und := UD.str, eqok := true } := rfl
theorem E22 : E 22 = some { sz := 1, agg := false, zero := [AV.nil], bytes := 24, und := UD.sl 115, eqok := true } := rfl
theorem E25 : E 25 = some { sz := 1, agg := false, zero := [AV.nil], bytes := 24, und := UD.sl 116, eqok := true } := rfl
theorem E113 : E 113 = some { sz := 1, agg := false, zero := [AV.nil], bytes := 24, und := UD.sl 4, eqok := true } := rfl
theorem E115 : E 115 = some { sz := 4, agg := true, zero := [AV.str [], AV.int IntKind.i64 0, AV.nil, AV.int IntKind.i64 0], bytes := 56, und := UD.st [(0, 9), (1, 3), (2, 113), (3, 3)], eqok := true } := rfl
theorem E116 : E 116 = some { sz := 4, agg := true, zero := [AV.str [], AV.int IntKind.i64 0, AV.nil, AV.int IntKind.i64 0], bytes := 56, und := UD.st [(0, 9), (1, 3), (2, 113), (3, 3)], eqok := true } := rfl
theorem E122 : E 122 = some { sz := 1, agg := false, zero := [AV.undef], bytes := 8, und := UD.ot, eqok := true } := rfl
theorem EE : type_of% (And.intro @cE <| And.intro @E3 <| And.intro @E4 <| And.intro @E9 <| And.intro @E22 <| And.intro @E25 <| And.intro @E113 <| And.intro @E115 <| And.intro @E116 @E122) := And.intro @cE <| And.intro @E3 <| And.intro @E4 <| And.intro @E9 <| And.intro @E22 <| And.intro @E25 <| And.intro @E113 <| And.intro @E115 <| And.intro @E116 @E122
theorem e_Out_d (x : Out) : e_Out x = .agg [.str x.Text, .int .i64 x.End, .fz (x.Heard.map AV.bool), .int .i64 x.Final] := rfl
theorem EN : type_of% (And.intro @e_Out_d @killB_n) := And.intro @e_Out_d @killB_n
noncomputable def laws_szBoolS (a0 : List Bool) (a1 : Int) : Option (Int) :=
  (bif (decide ((IntKind.i64.wrap (a1 - (a0.length : Int))) < 0)) then some (-1) else some (IntKind.i64.wrap (a1 - (a0.length : Int))))
theorem laws_szBoolS_w {a0 : List Bool} {a1 : Int} {r : (Int)} (h : laws_szBoolS a0 a1 = some r) {F : List It} {H : Heap} (hS : Own H (F)) {P : AV → Heap → Prop} (hP : ∀ H', Own H' (F) → P (.int .i64 r) H') : ACall C 160 [.fz (a0.map AV.bool), .int .i64 a1] H P := by
  refine acall_of gC (res := [.tmp 4]) (n := 12) rfl rfl rfl rfl fun K0 hK0 => ?_
  simp only [W, Nat.reduceSub, Nat.reduceAdd, List.replicate]
  unfold laws_szBoolS at h
  refine w_seq fun K1 hK1 => ?_
  refine w_reg gC ?_
  try simp only [W, Nat.reduceAdd]
  refine seq_n hK1 ?_
  refine w_seq fun K2 hK2 => ?_
  refine w_reg gC ?_
  try simp only [W, EE, Nat.reduceAdd]
  refine seq_n hK2 ?_
  refine w_seq fun K3 hK3 => ?_
  refine w_seq fun K4 hK4 => ?_
  refine w_reg gC ?_
  try simp only [W, EE, Nat.reduceAdd]
  refine seq_n hK4 ?_
  refine w_if ?_
  simp only [W]
  refine w_cnd h (fun hc h => ?_) (fun hc h => ?_)
  · refine w_seq fun K5 hK5 => ?_
    refine w_reg gC ?_
    try simp only [W, Nat.reduceAdd]
    refine seq_n hK5 ?_
    refine w_ret ?_
    refine seq_r hK3 ?_
    refine fin_r1 hK0 rfl ?_
    try obtain rfl := Option.some.inj h
    exact hP _ hS
  · refine w_skip ?_
    refine seq_n hK3 ?_
    refine w_seq fun K6 hK6 => ?_
    refine w_reg gC ?_
    try simp only [W, Nat.reduceAdd]
    refine seq_n hK6 ?_
    refine w_ret ?_
    refine fin_r1 hK0 rfl ?_
    try obtain rfl := Option.some.inj h
    exact hP _ hS
noncomputable def laws_szOut (a0 : Out) (a1 : Int) : Option (Int) :=
  (bif (decide ((IntKind.i64.wrap (a1 - (a0.Text.length : Int))) < 0)) then some (-1) else (laws_szBoolS a0.Heard (IntKind.i64.wrap (a1 - (a0.Text.length : Int)))).bind fun b9 => (bif (decide (b9 < 0)) then some (-1) else some b9))
theorem laws_szOut_w {a0 : Out} {a1 : Int} {r : (Int)} (h : laws_szOut a0 a1 = some r) {F : List It} {H : Heap} (hS : Own H (F)) {P : AV → Heap → Prop} (hP : ∀ H', Own H' (F) → P (.int .i64 r) H') : ACall C 85 [.agg [.str a0.Text, .int .i64 a0.End, .fz (a0.Heard.map AV.bool), .int .i64 a0.Final], .int .i64 a1] H P := by
  refine acall_of gC (res := [.tmp 4]) (n := 19) rfl rfl rfl rfl fun K0 hK0 => ?_
  simp only [W, Nat.reduceSub, Nat.reduceAdd, List.replicate]
  unfold laws_szOut at h
  refine w_seq fun K1 hK1 => ?_
  refine w_reg gC ?_
  try simp only [W, Nat.reduceAdd]
  refine w_box hS rfl rfl rfl rfl fun ip2 wp2 H hS => ?_
  try simp only [W]
  refine seq_n hK1 ?_
  refine w_seq fun K4 hK4 => ?_
  refine w_reg gC ?_
  try simp only [W, EE, Nat.reduceAdd, Nat.reduceBEq, hS.var 0 rfl]
  refine seq_n hK4 ?_
  refine w_seq fun K5 hK5 => ?_
  refine w_seq fun K6 hK6 => ?_
  refine w_reg gC ?_
  try simp only [W, EE, Nat.reduceAdd]
  refine seq_n hK6 ?_
  refine w_if ?_
  simp only [W]
  refine w_cnd h (fun hc h => ?_) (fun hc h => ?_)
  · refine w_seq fun K7 hK7 => ?_
    refine w_reg gC ?_
    try simp only [W, Nat.reduceAdd]
    refine seq_n hK7 ?_
    refine w_ret ?_
    refine seq_r hK5 ?_
    refine fin_r1 hK0 rfl ?_
    try obtain rfl := Option.some.inj h
    exact hP _ (hS.sel 1 [] (by decide))
  · refine w_skip ?_
    refine seq_n hK5 ?_
    refine w_seq fun K8 hK8 => ?_
    refine w_reg gC ?_
    try simp only [W, EE, Nat.reduceAdd, Nat.reduceBEq, hS.var 0 rfl]
    refine w_call h fun b9 hb9 h => ?_
    refine laws_szBoolS_w hb9 hS fun H hS => ?_
    try simp only [W]
    refine seq_n hK8 ?_
    refine w_seq fun K10 hK10 => ?_
    refine w_seq fun K11 hK11 => ?_
    refine w_reg gC ?_
    try simp only [W, EE, Nat.reduceAdd]
    refine seq_n hK11 ?_
    refine w_if ?_
    simp only [W]
    refine w_cnd h (fun hc h => ?_) (fun hc h => ?_)
    · refine w_seq fun K12 hK12 => ?_
      refine w_reg gC ?_
      try simp only [W, Nat.reduceAdd]
      refine seq_n hK12 ?_
      refine w_ret ?_
      refine seq_r hK10 ?_
      refine fin_r1 hK0 rfl ?_
      try obtain rfl := Option.some.inj h
      exact hP _ (hS.sel 1 [] (by decide))
    · refine w_skip ?_
      refine seq_n hK10 ?_
      refine w_seq fun K13 hK13 => ?_
      refine w_reg gC ?_
      try simp only [W, Nat.reduceAdd]
      refine seq_n hK13 ?_
      refine w_ret ?_
      refine fin_r1 hK0 rfl ?_
      try obtain rfl := Option.some.inj h
      exact hP _ (hS.sel 1 [] (by decide))
noncomputable def laws_szOutS_l0 (a0 : List Out) (x : (Int × Int)) : Option (LR (Int × Int) (LR (Int) (Int))) :=
  match x with
  | (x8, x9) => (bif (decide (x9 < (a0.length : Int))) then (idx a0 x9).bind fun b24 => (laws_szOut b24 x8).bind fun b25 => (bif (decide (b25 < 0)) then some (LR.done (LR.done (-1))) else some (LR.next (b25, (IntKind.i64.wrap (x9 + 1))))) else some (LR.done (LR.next (x8))))
noncomputable def laws_szOutS (a0 : List Out) (a1 : Int) : Option (Int) :=
  (bif (decide ((IntKind.i64.wrap (a1 - (a0.length : Int))) < 0)) then some (-1) else (whl (laws_szOutS_l0 a0) ((IntKind.i64.wrap (a1 - (a0.length : Int))), 0)).bind fun y => match y with | LR.next (x10) => some x10 | LR.done z => some z)
theorem laws_szOutS_w {a0 : List Out} {a1 : Int} {r : (Int)} (h : laws_szOutS a0 a1 = some r) {F : List It} {H : Heap} (hS : Own H (F)) {P : AV → Heap → Prop} (hP : ∀ H', Own H' (F) → P (.int .i64 r) H') : ACall C 15 [.fz (a0.map e_Out), .int .i64 a1] H P := by
  refine acall_of gC (res := [.tmp 4]) (n := 27) rfl rfl rfl rfl fun K0 hK0 => ?_
  simp only [W, Nat.reduceSub, Nat.reduceAdd, List.replicate]
  unfold laws_szOutS at h
  refine w_seq fun K1 hK1 => ?_
  refine w_reg gC ?_
  try simp only [W, Nat.reduceAdd]
  refine seq_n hK1 ?_
  refine w_seq fun K2 hK2 => ?_
  refine w_reg gC ?_
  try simp only [W, EE, Nat.reduceAdd]
  refine seq_n hK2 ?_
  refine w_seq fun K3 hK3 => ?_
  refine w_seq fun K4 hK4 => ?_
  refine w_reg gC ?_
  try simp only [W, EE, Nat.reduceAdd]
  refine seq_n hK4 ?_
  refine w_if ?_
  simp only [W]
  refine w_cnd h (fun hc h => ?_) (fun hc h => ?_)
  · refine w_seq fun K5 hK5 => ?_
    refine w_reg gC ?_
    try simp only [W, Nat.reduceAdd]
    refine seq_n hK5 ?_
    refine w_ret ?_
    refine seq_r hK3 ?_
    refine fin_r1 hK0 rfl ?_
    try obtain rfl := Option.some.inj h
    exact hP _ hS
  · refine w_skip ?_
    refine seq_n hK3 ?_
    refine w_seq fun K6 hK6 => ?_
    refine w_seq fun K7 hK7 => ?_
    refine w_reg gC ?_
    try simp only [W, Nat.reduceAdd]
    refine seq_n hK7 ?_
    obtain ⟨y11, hw12, g18⟩ := Option.bind_eq_some_iff.1 h
    refine w_join gC (fun s H => ∃ x10 : Int, y11 = LR.next (x10) ∧ s = [u, .int .i64 x10, u, u, u, u, u, u, u, u, u, u, u, u, u, u, u, u, u, u, u, u, u, u, u, u, u] ∧ Own H (F)) (fun K13 hK13 => ?_) (fun s H hq => ?_)
    · refine w_blk fun K14 hK14 => ?_
      refine w_loop gC hw12 (fun x s H => match x with | (x8, x9) => s = [.fz (a0.map e_Out), .int .i64 x8, u, u, u, .int .i64 x9, u, u, u, u, u, u, u, u, u, u, u, u, u, u, u, u, u, u, u, u, u] ∧ Own H (F)) ⟨rfl, hS⟩ (fun x y17 s H h hd16 hi K15 hK15 => ?_)
      obtain ⟨x8, x9⟩ := x
      try dsimp only at hi
      obtain ⟨rfl, hS⟩ := hi
      simp only [laws_szOutS_l0] at h
      refine w_seq fun K19 hK19 => ?_
      refine w_seq fun K20 hK20 => ?_
      refine w_reg gC ?_
      try simp only [W, EE, Nat.reduceAdd]
      refine seq_n hK20 ?_
      refine w_if ?_
      simp only [W]
      refine w_cnd h (fun hc h => ?_) (fun hc h => ?_)
      · refine w_skip ?_
        refine seq_n hK19 ?_
        refine w_seq fun K21 hK21 => ?_
        refine w_blk fun K22 hK22 => ?_
        refine w_seq fun K23 hK23 => ?_
        refine w_reg gC ?_
        try simp only [W, EE, Nat.reduceAdd]
        refine w_fz rfl rfl rfl (fun _ => rfl) h fun b24 hb24 h => ?_
        try simp only [W, EE, EN, reduceIte, Nat.reduceAdd, Nat.reduceLeDiff]
        refine w_call h fun b25 hb25 h => ?_
        refine laws_szOut_w hb25 hS fun H hS => ?_
        try simp only [W]
        refine seq_n hK23 ?_
        refine w_seq fun K26 hK26 => ?_
        refine w_reg gC ?_
        try simp only [W, EE, Nat.reduceAdd]
        refine seq_n hK26 ?_
        refine w_if ?_
        simp only [W]
        refine w_cnd h (fun hc h => ?_) (fun hc h => ?_)
        · refine w_seq fun K27 hK27 => ?_
          refine w_reg gC ?_
          try simp only [W, Nat.reduceAdd]
          refine seq_n hK27 ?_
          refine w_ret ?_
          refine blk_r hK22 ?_
          refine seq_r hK21 ?_
          try obtain rfl := Option.some.inj h
          obtain rfl := hd16 _ rfl
          have h : (some (LR.done (-1)) : Option (LR (Int) (Int))) = some (LR.done (-1)) := rfl
          refine lp_r hK15 ?_
          refine blk_r hK14 ?_
          try obtain rfl := Option.some.inj h
          obtain rfl := Option.some.inj g18
          have h : (some (-1) : Option (Int)) = some (-1) := rfl
          refine cut_r hK13 ?_
          refine seq_r hK6 ?_
          refine fin_r1 hK0 rfl ?_
          try obtain rfl := Option.some.inj h
          exact hP _ hS
        · refine w_skip ?_
          refine blk_n0 hK22 ?_
          refine seq_n hK21 ?_
          refine w_reg gC ?_
          try simp only [W, EE, Nat.reduceAdd]
          exact lp_n hK15 h ⟨rfl, hS⟩
      · refine w_exit ?_
        refine seq_x hK19 ?_
        try obtain rfl := Option.some.inj h
        obtain rfl := hd16 _ rfl
        have h : (some (LR.next (x8)) : Option (LR (Int) (Int))) = some (LR.next (x8)) := rfl
        refine lp_x hK15 ?_
        refine blk_e hK14 ?_
        exact cut_n hK13 ⟨_, (Option.some.inj h).symm, rfl, hS⟩
    · obtain ⟨x10, rfl, rfl, hS⟩ := hq
      replace h := g18
      try dsimp only at h
      refine seq_n hK6 ?_
      refine w_seq fun K34 hK34 => ?_
      refine w_reg gC ?_
      try simp only [W, Nat.reduceAdd]
      refine seq_n hK34 ?_
      refine w_ret ?_
      refine fin_r1 hK0 rfl ?_
      try obtain rfl := Option.some.inj h
      exact hP _ hS
noncomputable def laws_toBoolS_l0 (a0 : List Bool) (x : ((List Bool) × Int)) : Option (LR ((List Bool) × Int) ((List Bool))) :=
  match x with
  | (x8, x9) => (bif (decide (x9 < (a0.length : Int))) then (idx a0 x9).bind fun b23 => (idx x8 x9).bind fun _b24 => some (LR.next ((x8.set x9.toNat b23), (IntKind.i64.wrap (x9 + 1)))) else some (LR.done (x8)))
noncomputable def laws_toBoolS (a0 : List Bool) : Option (List Bool) :=
  (mkL 1 (a0.length : Int) (false : Bool)).bind fun x5 => (whl (laws_toBoolS_l0 a0) (x5, 0)).bind fun x10 => some x10
theorem laws_toBoolS_w {a0 : List Bool} {r : (List Bool)} (h : laws_toBoolS a0 = some r) {F : List It} {H : Heap} (hS : Own H (F)) {P : AV → Heap → Prop} (hP : ∀ v29 : AV, isSl v29 → ∀ H', Own H' (⟨v29, 1, r.map AV.bool⟩ :: F) → P (v29) H') : ACall C 161 [.fz (a0.map AV.bool)] H P := by
  refine acall_of gC (res := [.tmp 2]) (n := 22) rfl rfl rfl rfl fun K0 hK0 => ?_
  simp only [W, Nat.reduceSub, Nat.reduceAdd, List.replicate]
  unfold laws_toBoolS at h
  refine w_seq fun K1 hK1 => ?_
  refine w_reg gC ?_
  try simp only [W, Nat.reduceAdd]
  refine seq_n hK1 ?_
  refine w_seq fun K2 hK2 => ?_
  refine w_reg gC ?_
  try simp only [W, EE, Nat.reduceAdd]
  refine w_make (c := AV.bool) hS rfl rfl rfl rfl rfl rfl h fun v3 H x5 qv3 hm h hS => ?_
  try simp only [W]
  refine seq_n hK2 ?_
  refine w_seq fun K6 hK6 => ?_
  refine w_seq fun K7 hK7 => ?_
  refine w_reg gC ?_
  try simp only [W, Nat.reduceAdd]
  refine seq_n hK7 ?_
  obtain ⟨y11, hw12, g18⟩ := Option.bind_eq_some_iff.1 h
  refine w_join gC (fun s H => ∃ x10 : List Bool, y11 = (x10) ∧ s = [u, u, u, v3, u, u, u, u, u, u, u, u, u, u, u, u, u, u, u, u, u, u] ∧ Own H (⟨v3, 1, x10.map AV.bool⟩ :: F)) (fun K13 hK13 => ?_) (fun s H hq => ?_)
  · refine w_blk fun K14 hK14 => ?_
    refine w_loop gC hw12 (fun x s H => match x with | (x8, x9) => s = [.fz (a0.map AV.bool), u, u, v3, .int .i64 x9, u, u, u, u, u, u, u, u, u, u, u, u, u, u, u, u, u] ∧ Own H (⟨v3, 1, x8.map AV.bool⟩ :: F)) ⟨rfl, hS⟩ (fun x y17 s H h hd16 hi K15 hK15 => ?_)
    obtain ⟨x8, x9⟩ := x
    try dsimp only at hi
    obtain ⟨rfl, hS⟩ := hi
    simp only [laws_toBoolS_l0] at h
    refine w_seq fun K19 hK19 => ?_
    refine w_seq fun K20 hK20 => ?_
    refine w_reg gC ?_
    try simp only [W, EE, Nat.reduceAdd]
    refine seq_n hK20 ?_
    refine w_if ?_
    simp only [W]
    refine w_cnd h (fun hc h => ?_) (fun hc h => ?_)
    · refine w_skip ?_
      refine seq_n hK19 ?_
      refine w_seq fun K21 hK21 => ?_
      refine w_blk fun K22 hK22 => ?_
      refine w_reg gC ?_
      try simp only [W, EE, Nat.reduceAdd]
      refine w_fz rfl rfl rfl (fun _ => rfl) h fun b23 hb23 h => ?_
      try simp only [W, EE]
      refine w_ow 0 hS rfl rfl rfl rfl rfl h (fun b24 in25 wn25 on25 hb24 h en25 => ?_) qv3.ne
      obtain ⟨kn25, hbn25, hen25⟩ := hS.elem 0 rfl en25 hb24
      try simp only [W]
      refine w_ste (a := .bool b23) (y' := b23) 0 hS rfl en25 hb24 rfl rfl rfl rfl rfl rfl rfl fun H hS => ?_
      try simp only [W]
      refine blk_n0 hK22 ?_
      refine seq_n hK21 ?_
      refine w_reg gC ?_
      try simp only [W, EE, Nat.reduceAdd]
      exact lp_n hK15 h ⟨rfl, hS⟩
    · refine w_exit ?_
      refine seq_x hK19 ?_
      try obtain rfl := Option.some.inj h
      obtain rfl := hd16 _ rfl
      have h : (some (x8) : Option ((List Bool))) = some (x8) := rfl
      refine lp_x hK15 ?_
      refine blk_e hK14 ?_
      exact cut_n hK13 ⟨_, (Option.some.inj h).symm, rfl, hS⟩
  · obtain ⟨x10, rfl, rfl, hS⟩ := hq
    replace h := g18
    try dsimp only at h
    refine seq_n hK6 ?_
    refine w_seq fun K28 hK28 => ?_
    refine w_reg gC ?_
    try simp only [W, Nat.reduceAdd]
    refine seq_n hK28 ?_
    refine w_ret ?_
    refine fin_r1 hK0 rfl ?_
    try obtain rfl := Option.some.inj h
    exact hP _ qv3 _ hS
noncomputable def laws_toOut (a0 : Out) : Option (Out) :=
  (laws_toBoolS a0.Heard).bind fun b12 => some (⟨a0.Text, a0.End, b12, a0.Final⟩ : Out)
theorem laws_toOut_w {a0 : Out} {r : (Out)} (h : laws_toOut a0 = some r) {F : List It} {H : Heap} (hS : Own H (F)) {P : AV → Heap → Prop} (hP : ∀ v17 : AV, isSl v17 → ∀ H', Own H' (⟨v17, 1, r.Heard.map AV.bool⟩ :: F) → P (.agg [.str r.Text, .int .i64 r.End, v17, .int .i64 r.Final]) H') : ACall C 89 [.agg [.str a0.Text, .int .i64 a0.End, .fz (a0.Heard.map AV.bool), .int .i64 a0.Final]] H P := by
  refine acall_of gC (res := [.cell 2 116]) (n := 18) rfl rfl rfl rfl fun K0 hK0 => ?_
  simp only [W, Nat.reduceSub, Nat.reduceAdd, List.replicate]
  unfold laws_toOut at h
  refine w_seq fun K1 hK1 => ?_
  refine w_reg gC ?_
  try simp only [W, Nat.reduceAdd]
  refine w_box hS rfl rfl rfl rfl fun ip2 wp2 H hS => ?_
  try simp only [W]
  refine w_alloc hS rfl rfl fun ip4 wp4 H hS => ?_
  try simp only [W]
  refine seq_n hK1 ?_
  refine w_seq fun K6 hK6 => ?_
  refine w_reg gC ?_
  try simp only [W, Nat.reduceAdd]
  refine w_alloc hS rfl rfl fun ip7 wp7 H hS => ?_
  try simp only [W]
  refine seq_n hK6 ?_
  refine w_seq fun K9 hK9 => ?_
  refine w_reg gC ?_
  try simp only [W, EE, Nat.reduceAdd, Nat.reduceBEq, hS.var 2 rfl, hS.var 0 rfl]
  refine w_stv (a := .str a0.Text) (y' := .agg [.str a0.Text, .int .i64 0, .nil, .int .i64 0]) 0 hS rfl rfl rfl rfl rfl rfl rfl rfl fun H hS => ?_
  try simp only [W]
  refine seq_n hK9 ?_
  refine w_seq fun K10 hK10 => ?_
  refine w_reg gC ?_
  try simp only [W, EE, Nat.reduceAdd, Nat.reduceBEq, hS.var 2 rfl, hS.var 0 rfl]
  refine w_stv (a := .int .i64 a0.End) (y' := .agg [.str a0.Text, .int .i64 a0.End, .nil, .int .i64 0]) 0 hS rfl rfl rfl rfl rfl rfl rfl rfl fun H hS => ?_
  try simp only [W]
  refine seq_n hK10 ?_
  refine w_seq fun K11 hK11 => ?_
  refine w_reg gC ?_
  try simp only [W, EE, Nat.reduceAdd, Nat.reduceBEq, hS.var 2 rfl]
  refine w_call h fun b12 hb12 h => ?_
  refine laws_toBoolS_w hb12 hS fun v13 qv13 H hS => ?_
  try simp only [W, EE, Nat.reduceAdd, Nat.reduceBEq, hS.var 1 rfl]
  refine w_stv (a := v13) (y' := .agg [.str a0.Text, .int .i64 a0.End, v13, .int .i64 0]) 1 hS rfl rfl rfl rfl (by rw [qv13.cells]; rfl) qv13.stora (qv13.wr _ _ (by simp)) rfl fun H hS => ?_
  try simp only [W]
  refine seq_n hK11 ?_
  refine w_seq fun K15 hK15 => ?_
  refine w_reg gC ?_
  try simp only [W, EE, Nat.reduceAdd, Nat.reduceBEq, hS.var 3 rfl, hS.var 1 rfl]
  refine w_stv (a := .int .i64 a0.Final) (y' := .agg [.str a0.Text, .int .i64 a0.End, v13, .int .i64 a0.Final]) 1 hS rfl rfl rfl rfl rfl rfl rfl rfl fun H hS => ?_
  try simp only [W]
  refine seq_n hK15 ?_
  refine w_seq fun K16 hK16 => ?_
  refine w_reg gC ?_
  try simp only [W, EE, reduceIte, Nat.reduceAdd, Nat.reduceLeDiff, hS.var 1 rfl]
  refine w_stv (a := .agg [.str a0.Text, .int .i64 a0.End, v13, .int .i64 a0.Final]) (y' := .agg [.str a0.Text, .int .i64 a0.End, v13, .int .i64 a0.Final]) 2 hS rfl rfl rfl rfl rfl (by simp only [storA, List.all_cons, List.all_nil, qv13.stor]; rfl) rfl rfl fun H hS => ?_
  try simp only [W]
  refine seq_n hK16 ?_
  refine w_ret ?_
  refine fin_r hK0 (res_c rfl rfl (hS.var 2 rfl) rfl rfl) ?_
  try obtain rfl := Option.some.inj h
  exact hP _ qv13 _ (hS.sel 4 [0] (by decide))
noncomputable def laws_toOutS_l0 (a0 : List Out) (x : ((List Out) × Int)) : Option (LR ((List Out) × Int) ((List Out))) :=
  match x with
  | (x8, x9) => (bif (decide (x9 < (a0.length : Int))) then (idx a0 x9).bind fun b23 => (laws_toOut b23).bind fun b24 => (idx x8 x9).bind fun _b27 => some (LR.next ((x8.set x9.toNat b24), (IntKind.i64.wrap (x9 + 1)))) else some (LR.done (x8)))
noncomputable def laws_toOutS (a0 : List Out) : Option (List Out) :=
  (mkL 56 (a0.length : Int) ((⟨[], 0, [], 0⟩ : Out) : Out)).bind fun x5 => (whl (laws_toOutS_l0 a0) (x5, 0)).bind fun x10 => some x10
theorem laws_toOutS_w {a0 : List Out} {r : (List Out)} (h : laws_toOutS a0 = some r) {F : List It} {H : Heap} (hS : Own H (F)) {P : AV → Heap → Prop} (hP : ∀ v32 : AV, isSl v32 → ∀ H', Own H' (⟨v32, 4, r.map e_Out⟩ :: F) → P (v32) H') : ACall C 17 [.fz (a0.map e_Out)] H P := by
  refine acall_of gC (res := [.tmp 2]) (n := 23) rfl rfl rfl rfl fun K0 hK0 => ?_
  simp only [W, Nat.reduceSub, Nat.reduceAdd, List.replicate]
  unfold laws_toOutS at h
  refine w_seq fun K1 hK1 => ?_
  refine w_reg gC ?_
  try simp only [W, Nat.reduceAdd]
  refine seq_n hK1 ?_
  refine w_seq fun K2 hK2 => ?_
  refine w_reg gC ?_
  try simp only [W, EE, Nat.reduceAdd]
  refine w_make (c := e_Out) hS rfl rfl rfl rfl rfl rfl h fun v3 H x5 qv3 hm h hS => ?_
  try simp only [W]
  refine seq_n hK2 ?_
  refine w_seq fun K6 hK6 => ?_
  refine w_seq fun K7 hK7 => ?_
  refine w_reg gC ?_
  try simp only [W, Nat.reduceAdd]
  refine seq_n hK7 ?_
  obtain ⟨y11, hw12, g18⟩ := Option.bind_eq_some_iff.1 h
  refine w_join gC (fun s H => ∃ x10 : List Out, y11 = (x10) ∧ s = [u, u, u, v3, u, u, u, u, u, u, u, u, u, u, u, u, u, u, u, u, u, u, u] ∧ Own H (⟨v3, 4, x10.map e_Out⟩ :: F)) (fun K13 hK13 => ?_) (fun s H hq => ?_)
  · refine w_blk fun K14 hK14 => ?_
    refine w_loop gC hw12 (fun x s H => match x with | (x8, x9) => s = [.fz (a0.map e_Out), u, u, v3, .int .i64 x9, u, u, u, u, u, u, u, u, u, u, u, u, u, u, u, u, u, u] ∧ Own H (⟨v3, 4, x8.map e_Out⟩ :: F)) ⟨rfl, hS⟩ (fun x y17 s H h hd16 hi K15 hK15 => ?_)
    obtain ⟨x8, x9⟩ := x
    try dsimp only at hi
    obtain ⟨rfl, hS⟩ := hi
    simp only [laws_toOutS_l0] at h
    refine w_seq fun K19 hK19 => ?_
    refine w_seq fun K20 hK20 => ?_
    refine w_reg gC ?_
    try simp only [W, EE, Nat.reduceAdd]
    refine seq_n hK20 ?_
    refine w_if ?_
    simp only [W]
    refine w_cnd h (fun hc h => ?_) (fun hc h => ?_)
    · refine w_skip ?_
      refine seq_n hK19 ?_
      refine w_seq fun K21 hK21 => ?_
      refine w_blk fun K22 hK22 => ?_
      refine w_regF (fz := [(8, [([20], [.sc, .sc, .sl [.sc], .sc])])]) gC ?_
      try simp only [W, EE, Nat.reduceAdd, Nat.reduceBEq]
      refine w_fz rfl rfl rfl (fun _ => rfl) h fun b23 hb23 h => ?_
      try simp only [W, EE, EN, reduceIte, Nat.reduceAdd, Nat.reduceLeDiff, Nat.reduceBEq]
      refine w_call h fun b24 hb24 h => ?_
      refine laws_toOut_w hb24 hS fun v25 qv25 H hS => ?_
      try simp only [W, EE, Nat.reduceAdd, Nat.reduceBEq]
      refine w_ow 1 hS rfl rfl rfl rfl rfl h (fun b27 in28 wn28 on28 hb27 h en28 => ?_) qv3.ne
      obtain ⟨kn28, hbn28, hen28⟩ := hS.elem 1 rfl en28 hb27
      try simp only [W, Nat.reduceAdd]
      refine FZ_agg rfl ?_
      refine TC_sc rfl ?_
      refine TC_sc rfl ?_
      refine TC_ow 0 hS rfl qv25 (fun _ _ => by simp [takeE, takeT, plainA]) fun H hS => ?_
      refine TC_sc rfl ?_
      refine TC_nil ?_
      simp only [W, frzL_map (c := AV.bool) (fun _ => rfl)]
      try simp only [W, EE, EN, reduceIte, Nat.reduceAdd, Nat.reduceLeDiff, Nat.reduceBEq, Nat.reduceMul, Bool.false_eq_true]
      refine w_ste (a := .agg [.str b24.Text, .int .i64 b24.End, .fz (b24.Heard.map AV.bool), .int .i64 b24.Final]) (y' := b24) 0 hS rfl en28 hb27 rfl rfl rfl rfl rfl rfl rfl fun H hS => ?_
      try simp only [W, Nat.reduceAdd]
      refine blk_n0 hK22 ?_
      refine seq_n hK21 ?_
      refine w_reg gC ?_
      try simp only [W, EE, Nat.reduceAdd]
      exact lp_n hK15 h ⟨rfl, hS⟩
    · refine w_exit ?_
      refine seq_x hK19 ?_
      try obtain rfl := Option.some.inj h
      obtain rfl := hd16 _ rfl
      have h : (some (x8) : Option ((List Out))) = some (x8) := rfl
      refine lp_x hK15 ?_
      refine blk_e hK14 ?_
      exact cut_n hK13 ⟨_, (Option.some.inj h).symm, rfl, hS⟩
  · obtain ⟨x10, rfl, rfl, hS⟩ := hq
    replace h := g18
    try dsimp only at h
    refine seq_n hK6 ?_
    refine w_seq fun K31 hK31 => ?_
    refine w_reg gC ?_
    try simp only [W, Nat.reduceAdd]
    refine seq_n hK31 ?_
    refine w_ret ?_
    refine fin_r1 hK0 rfl ?_
    try obtain rfl := Option.some.inj h
    exact hP _ qv3 _ hS
noncomputable def spec_l1In (a0 : Int) (a1 : Int) (a2 : Int) : Option (Bool) :=
  (bif (decide (a1 ≤ a0)) then some (decide (a0 ≤ a2)) else some false)
theorem spec_l1In_w {a0 : Int} {a1 : Int} {a2 : Int} {r : (Bool)} (h : spec_l1In a0 a1 a2 = some r) {F : List It} {H : Heap} (hS : Own H (F)) {P : AV → Heap → Prop} (hP : ∀ H', Own H' (F) → P (.bool r) H') : ACall C 86 [.int .i64 a0, .int .i64 a1, .int .i64 a2] H P := by
  refine acall_of gC (res := [.tmp 6]) (n := 15) rfl rfl rfl rfl fun K0 hK0 => ?_
  simp only [W, Nat.reduceSub, Nat.reduceAdd, List.replicate]
  unfold spec_l1In at h
  refine w_seq fun K1 hK1 => ?_
  refine w_reg gC ?_
  try simp only [W, Nat.reduceAdd]
  refine seq_n hK1 ?_
  refine w_seq fun K2 hK2 => ?_
  refine w_reg gC ?_
  try simp only [W, EE, Nat.reduceAdd]
  refine w_grdT h (fun hc h => ?_) (fun hc h => ?_)
  · try simp only [W, EE, reduceIte, hc]
    refine seq_n hK2 ?_
    refine w_ret ?_
    refine fin_r1 hK0 rfl ?_
    try obtain rfl := Option.some.inj h
    exact hP _ hS
  · try simp only [W, hc]
    refine seq_n hK2 ?_
    refine w_ret ?_
    refine fin_r1 hK0 rfl ?_
    try obtain rfl := Option.some.inj h
    exact hP _ hS
noncomputable def spec_l17Parts (a0 : Int) : Option (Int) :=
  some (IntKind.i64.wrap (Int.tdiv (IntKind.i64.wrap ((IntKind.i64.wrap (a0 + 4)) - 1)) 4))
theorem spec_l17Parts_w {a0 : Int} {r : (Int)} (h : spec_l17Parts a0 = some r) {F : List It} {H : Heap} (hS : Own H (F)) {P : AV → Heap → Prop} (hP : ∀ H', Own H' (F) → P (.int .i64 r) H') : ACall C 87 [.int .i64 a0] H P := by
  refine acall_of gC (res := [.tmp 2]) (n := 7) rfl rfl rfl rfl fun K0 hK0 => ?_
  simp only [W, Nat.reduceSub, Nat.reduceAdd, List.replicate]
  unfold spec_l17Parts at h
  refine w_seq fun K1 hK1 => ?_
  refine w_reg gC ?_
  try simp only [W, Nat.reduceAdd]
  refine seq_n hK1 ?_
  refine w_seq fun K2 hK2 => ?_
  refine w_reg gC ?_
  try simp only [W, EE, Nat.reduceAdd]
  rw [dv_lit _ _ _ rfl, Option.map_some, resV_s]
  try simp only [W]
  refine seq_n hK2 ?_
  refine w_ret ?_
  refine fin_r1 hK0 rfl ?_
  try obtain rfl := Option.some.inj h
  exact hP _ hS
noncomputable def spec_l16Verdict (a0 : Int) : Option (Bool) :=
  (spec_l1In a0 0 2).bind fun b3 => some b3
theorem spec_l16Verdict_w {a0 : Int} {r : (Bool)} (h : spec_l16Verdict a0 = some r) {F : List It} {H : Heap} (hS : Own H (F)) {P : AV → Heap → Prop} (hP : ∀ H', Own H' (F) → P (.bool r) H') : ACall C 88 [.int .i64 a0] H P := by
  refine acall_of gC (res := [.tmp 2]) (n := 5) rfl rfl rfl rfl fun K0 hK0 => ?_
  simp only [W, Nat.reduceSub, Nat.reduceAdd, List.replicate]
  unfold spec_l16Verdict at h
  refine w_seq fun K1 hK1 => ?_
  refine w_reg gC ?_
  try simp only [W, Nat.reduceAdd]
  refine seq_n hK1 ?_
  refine w_seq fun K2 hK2 => ?_
  refine w_reg gC ?_
  try simp only [W, Nat.reduceAdd]
  refine w_call h fun b3 hb3 h => ?_
  refine spec_l1In_w hb3 hS fun H hS => ?_
  try simp only [W]
  refine seq_n hK2 ?_
  refine w_ret ?_
  refine fin_r1 hK0 rfl ?_
  try obtain rfl := Option.some.inj h
  exact hP _ hS
noncomputable def spec_GoodOuts_l0 (a0 : List Out) (x : (Int)) : Option (LR (Int) (LR Unit (Bool))) :=
  match x with
  | (x4) => (bif (decide (x4 < (a0.length : Int))) then (idx a0 x4).bind fun b18 => ((spec_l1In (b18.Text.length : Int) 1 40).bind fun b27 => (bif (!b27) then some (true) else (spec_l1In b18.End 0 100).bind fun b28 => (bif (!b28) then some (true) else (spec_l17Parts (b18.Text.length : Int)).bind fun b29 => (bif ((b18.Heard.length : Int) != b29) then some (true) else (spec_l16Verdict b18.Final).bind fun b30 => some ((!b30)))))).bind fun x22 => (bif x22 then some (LR.done (LR.done false)) else some (LR.next ((IntKind.i64.wrap (x4 + 1))))) else some (LR.done (LR.next ())))
noncomputable def spec_GoodOuts (a0 : List Out) : Option (Bool) :=
  (whl (spec_GoodOuts_l0 a0) (0)).bind fun y => match y with | LR.next () => some (decide ((a0.length : Int) ≤ 6)) | LR.done z => some z
theorem spec_GoodOuts_w {a0 : List Out} {r : (Bool)} (h : spec_GoodOuts a0 = some r) {F : List It} {H : Heap} (hS : Own H (F)) {P : AV → Heap → Prop} (hP : ∀ H', Own H' (F) → P (.bool r) H') : ACall C 16 [.fz (a0.map e_Out)] H P := by
  refine acall_of gC (res := [.tmp 2]) (n := 42) rfl rfl rfl rfl fun K0 hK0 => ?_
  simp only [W, Nat.reduceSub, Nat.reduceAdd, List.replicate]
  unfold spec_GoodOuts at h
  refine w_seq fun K1 hK1 => ?_
  refine w_reg gC ?_
  try simp only [W, Nat.reduceAdd]
  refine seq_n hK1 ?_
  refine w_seq fun K2 hK2 => ?_
  refine w_seq fun K3 hK3 => ?_
  refine w_reg gC ?_
  try simp only [W, EE, Nat.reduceAdd]
  refine seq_n hK3 ?_
  obtain ⟨y5, hw6, g12⟩ := Option.bind_eq_some_iff.1 h
  refine w_join gC (fun s H => y5 = LR.next () ∧ s = [.fz (a0.map e_Out), u, u, u, u, u, u, u, u, u, u, u, u, u, u, u, u, u, u, u, u, u, u, u, u, u, u, u, u, u, u, u, u, u, u, u, u, u, u, u, u, u] ∧ Own H (F)) (fun K7 hK7 => ?_) (fun s H hq => ?_)
  · refine w_blk fun K8 hK8 => ?_
    refine w_loop gC hw6 (fun x s H => s = [.fz (a0.map e_Out), u, u, u, u, .fz (a0.map e_Out), .int .i64 (a0.length : Int), .int .i64 x, u, u, u, u, u, u, u, u, u, u, u, u, u, u, u, u, u, u, u, u, u, u, u, u, u, u, u, u, u, u, u, u, u, u] ∧ Own H (F)) ⟨rfl, hS⟩ (fun x4 y11 s H h hd10 hi K9 hK9 => ?_)
    skip
    try dsimp only at hi
    obtain ⟨rfl, hS⟩ := hi
    simp only [spec_GoodOuts_l0] at h
    refine w_seq fun K13 hK13 => ?_
    refine w_reg gC ?_
    try simp only [W, EE, Nat.reduceAdd]
    refine seq_n hK13 ?_
    refine w_seq fun K14 hK14 => ?_
    refine w_if ?_
    simp only [W]
    refine w_cnd h (fun hc h => ?_) (fun hc h => ?_)
    · refine w_skip ?_
      refine seq_n hK14 ?_
      refine w_seq fun K15 hK15 => ?_
      refine w_blk fun K16 hK16 => ?_
      refine w_seq fun K17 hK17 => ?_
      refine w_reg gC ?_
      try simp only [W, EE, Nat.reduceAdd]
      refine w_fz rfl rfl rfl (fun _ => rfl) h fun b18 hb18 h => ?_
      try simp only [W, EE, EN, reduceIte, Nat.reduceAdd, Nat.reduceLeDiff]
      refine w_alloc hS rfl rfl fun ip19 wp19 H hS => ?_
      try simp only [W]
      refine w_stv (a := .agg [.str b18.Text, .int .i64 b18.End, .fz (b18.Heard.map AV.bool), .int .i64 b18.Final]) (y' := .agg [.str b18.Text, .int .i64 b18.End, .fz (b18.Heard.map AV.bool), .int .i64 b18.Final]) 0 hS rfl rfl rfl rfl rfl rfl rfl rfl fun H hS => ?_
      try simp only [W]
      refine seq_n hK17 ?_
      refine w_seq fun K21 hK21 => ?_
      obtain ⟨y23, h, g24⟩ := Option.bind_eq_some_iff.1 h
      refine w_join gC (fun s H => ∃ x22 : Bool, y23 = (x22) ∧ s = [.fz (a0.map e_Out), u, u, u, u, .fz (a0.map e_Out), .int .i64 (a0.length : Int), .int .i64 x4, u, u, u, u, u, u, u, u, u, u, u, u, u, u, u, u, u, u, u, u, u, u, u, u, u, u, u, u, u, .bool x22, u, u, u, u] ∧ Own H (F)) (fun K25 hK25 => ?_) (fun s H hq => ?_)
      · refine w_seq fun K26 hK26 => ?_
        refine w_draw0 gC (by kernel_rfl) ?_
        try simp only [W, EE, Nat.reduceAdd, Nat.reduceBEq, hS.var 0 rfl]
        refine w_callQ (rsh := [[.sc]]) (ys := [.int .i64 (b18.Text.length : Int), .int .i64 1, .int .i64 40]) (lent := false) h rfl (by rfl) fun b27 hb27 h => ⟨_, spec_l1In_w hb27 (Own.nil _) fun H hS => ⟨[_], _, H, rfl, (by simp only [takeVals, takeE, takeT, plainA, if_true, List.headD_cons]; rfl), rfl⟩, .inl rfl, ?_⟩
        try simp only [W, reduceIte, Bool.false_eq_true]
        refine w_grdT h (fun hc h => ?_) (fun hc h => ?_)
        · try simp only [W, hc]
          refine seq_n hK26 ?_
          refine w_kill ?_
          exact cut_n hK25 ⟨_, (Option.some.inj h).symm, rfl, (hS.sel 1 [] (by decide))⟩
        · try simp only [W, EE, Nat.reduceAdd, Nat.reduceBEq, hS.var 0 rfl, hc]
          refine w_callQ (rsh := [[.sc]]) (ys := [.int .i64 b18.End, .int .i64 0, .int .i64 100]) (lent := false) h rfl (by rfl) fun b28 hb28 h => ⟨_, spec_l1In_w hb28 (Own.nil _) fun H hS => ⟨[_], _, H, rfl, (by simp only [takeVals, takeE, takeT, plainA, if_true, List.headD_cons]; rfl), rfl⟩, .inl rfl, ?_⟩
          try simp only [W, reduceIte, Bool.false_eq_true]
          refine w_grdT h (fun hc h => ?_) (fun hc h => ?_)
          · try simp only [W, hc]
            refine seq_n hK26 ?_
            refine w_kill ?_
            exact cut_n hK25 ⟨_, (Option.some.inj h).symm, rfl, (hS.sel 1 [] (by decide))⟩
          · try simp only [W, EE, Nat.reduceAdd, Nat.reduceBEq, hS.var 0 rfl, hc]
            refine w_callQ (rsh := [[.sc]]) (ys := [.int .i64 (b18.Text.length : Int)]) (lent := false) h rfl (by rfl) fun b29 hb29 h => ⟨_, spec_l17Parts_w hb29 (Own.nil _) fun H hS => ⟨[_], _, H, rfl, (by simp only [takeVals, takeE, takeT, plainA, if_true, List.headD_cons]; rfl), rfl⟩, .inl rfl, ?_⟩
            try simp only [W, EE, reduceIte, Bool.false_eq_true]
            refine w_grdT h (fun hc h => ?_) (fun hc h => ?_)
            · try simp only [W, hc]
              refine seq_n hK26 ?_
              refine w_kill ?_
              exact cut_n hK25 ⟨_, (Option.some.inj h).symm, rfl, (hS.sel 1 [] (by decide))⟩
            · try simp only [W, EE, Nat.reduceAdd, Nat.reduceBEq, hS.var 0 rfl, hc]
              refine w_callQ (rsh := [[.sc]]) (ys := [.int .i64 b18.Final]) (lent := false) h rfl (by rfl) fun b30 hb30 h => ⟨_, spec_l16Verdict_w hb30 (Own.nil _) fun H hS => ⟨[_], _, H, rfl, (by simp only [takeVals, takeE, takeT, plainA, if_true, List.headD_cons]; rfl), rfl⟩, .inl rfl, ?_⟩
              try simp only [W, reduceIte, Bool.false_eq_true]
              refine seq_n hK26 ?_
              refine w_kill ?_
              exact cut_n hK25 ⟨_, (Option.some.inj h).symm, rfl, (hS.sel 1 [] (by decide))⟩
      · obtain ⟨x22, rfl, rfl, hS⟩ := hq
        replace h := g24
        try dsimp only at h
        refine seq_n hK21 ?_
        refine w_if ?_
        simp only [W]
        refine w_cnd h (fun hc h => ?_) (fun hc h => ?_)
        · refine w_seq fun K31 hK31 => ?_
          refine w_reg gC ?_
          try simp only [W, Nat.reduceAdd]
          refine seq_n hK31 ?_
          refine w_ret ?_
          refine blk_r hK16 ?_
          refine seq_r hK15 ?_
          try obtain rfl := Option.some.inj h
          obtain rfl := hd10 _ rfl
          have h : (some (LR.done false) : Option (LR Unit (Bool))) = some (LR.done false) := rfl
          refine lp_r hK9 ?_
          refine blk_r hK8 ?_
          try obtain rfl := Option.some.inj h
          obtain rfl := Option.some.inj g12
          have h : (some false : Option (Bool)) = some false := rfl
          refine cut_r hK7 ?_
          refine seq_r hK2 ?_
          refine fin_r1 hK0 rfl ?_
          try obtain rfl := Option.some.inj h
          exact hP _ hS
        · refine w_skip ?_
          refine blk_n0 hK16 ?_
          refine seq_n hK15 ?_
          refine w_reg gC ?_
          try simp only [W, EE, Nat.reduceAdd]
          exact lp_n hK9 h ⟨rfl, hS⟩
    · refine w_exit ?_
      refine seq_x hK14 ?_
      try obtain rfl := Option.some.inj h
      obtain rfl := hd10 _ rfl
      have h : (some (LR.next ()) : Option (LR Unit (Bool))) = some (LR.next ()) := rfl
      refine lp_x hK9 ?_
      refine blk_e hK8 ?_
      exact cut_n hK7 ⟨(Option.some.inj h).symm, rfl, hS⟩
  · obtain ⟨rfl, rfl, hS⟩ := hq
    replace h := g12
    try dsimp only at h
    refine seq_n hK2 ?_
    refine w_seq fun K38 hK38 => ?_
    refine w_reg gC ?_
    try simp only [W, EE, Nat.reduceAdd]
    refine seq_n hK38 ?_
    refine w_ret ?_
    refine fin_r1 hK0 rfl ?_
    try obtain rfl := Option.some.inj h
    exact hP _ hS
noncomputable def slices_IndexFunc_impl_Out_l0 (a0 : List Out) (g1 : Out → Option Bool) (x : (Int)) : Option (LR (Int) (LR Unit (Int))) :=
  match x with
  | (x4) => (bif (decide (x4 < (a0.length : Int))) then (idx a0 x4).bind fun b19 => (g1 b19).bind fun b20 => (bif b20 then some (LR.done (LR.done x4)) else some (LR.next ((IntKind.i64.wrap (x4 + 1))))) else some (LR.done (LR.next ())))
noncomputable def slices_IndexFunc_impl_Out (a0 : List Out) (g1 : Out → Option Bool) : Option (Int) :=
  (whl (slices_IndexFunc_impl_Out_l0 a0 g1) (0)).bind fun y => match y with | LR.next () => some (-1) | LR.done z => some z
theorem slices_IndexFunc_impl_Out_w {a0 : List Out} {g1 : Out → Option Bool} {f1 : FuncId} {c1 : List AV} {r : (Int)} (h : slices_IndexFunc_impl_Out a0 g1 = some r) {F : List It} {H : Heap} (hg1 : ∀ {x0 : Out} {r : Bool}, g1 x0 = some r → ∀ (L : List It) (n : Nat), L.drop n = F → ∀ (H : Heap), Own H L → ∀ (P : AV → Heap → Prop), (∀ H', Own H' L → P (.bool r) H') → ACall C f1 ([.agg [.str x0.Text, .int .i64 x0.End, .fz (x0.Heard.map AV.bool), .int .i64 x0.Final]] ++ c1) H P) (hS : Own H (F)) {P : AV → Heap → Prop} (hP : ∀ H', Own H' (F) → P (.int .i64 r) H') : ACall C 162 [.fz (a0.map e_Out), .fn f1 c1] H P := by
  refine acall_of gC (res := [.tmp 4]) (n := 19) rfl rfl rfl rfl fun K0 hK0 => ?_
  simp only [W, Nat.reduceSub, Nat.reduceAdd, List.replicate]
  unfold slices_IndexFunc_impl_Out at h
  refine w_seq fun K1 hK1 => ?_
  refine w_reg gC ?_
  try simp only [W, Nat.reduceAdd]
  refine seq_n hK1 ?_
  refine w_seq fun K2 hK2 => ?_
  refine w_seq fun K3 hK3 => ?_
  refine w_reg gC ?_
  try simp only [W, EE, Nat.reduceAdd]
  refine seq_n hK3 ?_
  obtain ⟨y5, hw6, g12⟩ := Option.bind_eq_some_iff.1 h
  refine w_join gC (fun s H => y5 = LR.next () ∧ s = [u, u, u, u, u, u, u, u, u, u, u, u, u, u, u, u, u, u, u] ∧ Own H (F)) (fun K7 hK7 => ?_) (fun s H hq => ?_)
  · refine w_blk fun K8 hK8 => ?_
    refine w_loop gC hw6 (fun x s H => s = [.fz (a0.map e_Out), .fn f1 c1, u, u, u, u, u, .int .i64 (a0.length : Int), .int .i64 x, u, u, u, u, u, u, u, u, u, u] ∧ Own H (F)) ⟨rfl, hS⟩ (fun x4 y11 s H h hd10 hi K9 hK9 => ?_)
    skip
    try dsimp only at hi
    obtain ⟨rfl, hS⟩ := hi
    simp only [slices_IndexFunc_impl_Out_l0] at h
    refine w_seq fun K13 hK13 => ?_
    refine w_reg gC ?_
    try simp only [W, EE, Nat.reduceAdd]
    refine seq_n hK13 ?_
    refine w_seq fun K14 hK14 => ?_
    refine w_if ?_
    simp only [W]
    refine w_cnd h (fun hc h => ?_) (fun hc h => ?_)
    · refine w_skip ?_
      refine seq_n hK14 ?_
      refine w_seq fun K15 hK15 => ?_
      refine w_blk fun K16 hK16 => ?_
      refine w_seq fun K17 hK17 => ?_
      refine w_reg gC ?_
      try simp only [W, Nat.reduceAdd]
      refine seq_n hK17 ?_
      refine w_seq fun K18 hK18 => ?_
      refine w_reg gC ?_
      try simp only [W, EE, Nat.reduceAdd]
      refine w_fz rfl rfl rfl (fun _ => rfl) h fun b19 hb19 h => ?_
      try simp only [W, EE, EN, reduceIte, Nat.reduceAdd, Nat.reduceLeDiff]
      refine w_call h fun b20 hb20 h => ?_
      refine hg1 hb20 _ 0 rfl _ hS _ fun H hS => ?_
      try simp only [W]
      refine seq_n hK18 ?_
      refine w_if ?_
      simp only [W]
      refine w_cnd h (fun hc h => ?_) (fun hc h => ?_)
      · refine w_seq fun K21 hK21 => ?_
        refine w_reg gC ?_
        try simp only [W, Nat.reduceAdd]
        refine seq_n hK21 ?_
        refine w_ret ?_
        refine blk_r hK16 ?_
        refine seq_r hK15 ?_
        try obtain rfl := Option.some.inj h
        obtain rfl := hd10 _ rfl
        have h : (some (LR.done x4) : Option (LR Unit (Int))) = some (LR.done x4) := rfl
        refine lp_r hK9 ?_
        refine blk_r hK8 ?_
        try obtain rfl := Option.some.inj h
        obtain rfl := Option.some.inj g12
        have h : (some x4 : Option (Int)) = some x4 := rfl
        refine cut_r hK7 ?_
        refine seq_r hK2 ?_
        refine fin_r1 hK0 rfl ?_
        try obtain rfl := Option.some.inj h
        exact hP _ hS
      · refine w_skip ?_
        refine blk_n0 hK16 ?_
        refine seq_n hK15 ?_
        refine w_reg gC ?_
        try simp only [W, EE, Nat.reduceAdd]
        exact lp_n hK9 h ⟨rfl, hS⟩
    · refine w_exit ?_
      refine seq_x hK14 ?_
      try obtain rfl := Option.some.inj h
      obtain rfl := hd10 _ rfl
      have h : (some (LR.next ()) : Option (LR Unit (Int))) = some (LR.next ()) := rfl
      refine lp_x hK9 ?_
      refine blk_e hK8 ?_
      exact cut_n hK7 ⟨(Option.some.inj h).symm, rfl, hS⟩
  · obtain ⟨rfl, rfl, hS⟩ := hq
    replace h := g12
    try dsimp only at h
    refine seq_n hK2 ?_
    refine w_seq fun K28 hK28 => ?_
    refine w_reg gC ?_
    try simp only [W, Nat.reduceAdd]
    refine seq_n hK28 ?_
    refine w_ret ?_
    refine fin_r1 hK0 rfl ?_
    try obtain rfl := Option.some.inj h
    exact hP _ hS
noncomputable def slices_ContainsFunc_impl_Out (a0 : List Out) (g1 : Out → Option Bool) : Option (Bool) :=
  (slices_IndexFunc_impl_Out a0 g1).bind fun b3 => some (decide (0 ≤ b3))
theorem slices_ContainsFunc_impl_Out_w {a0 : List Out} {g1 : Out → Option Bool} {f1 : FuncId} {c1 : List AV} {r : (Bool)} (h : slices_ContainsFunc_impl_Out a0 g1 = some r) {F : List It} {H : Heap} (hg1 : ∀ {x0 : Out} {r : Bool}, g1 x0 = some r → ∀ (L : List It) (n : Nat), L.drop n = F → ∀ (H : Heap), Own H L → ∀ (P : AV → Heap → Prop), (∀ H', Own H' L → P (.bool r) H') → ACall C f1 ([.agg [.str x0.Text, .int .i64 x0.End, .fz (x0.Heard.map AV.bool), .int .i64 x0.Final]] ++ c1) H P) (hS : Own H (F)) {P : AV → Heap → Prop} (hP : ∀ H', Own H' (F) → P (.bool r) H') : ACall C 90 [.fz (a0.map e_Out), .fn f1 c1] H P := by
  refine acall_of gC (res := [.tmp 4]) (n := 9) rfl rfl rfl rfl fun K0 hK0 => ?_
  simp only [W, Nat.reduceSub, Nat.reduceAdd, List.replicate]
  unfold slices_ContainsFunc_impl_Out at h
  refine w_seq fun K1 hK1 => ?_
  refine w_reg gC ?_
  try simp only [W, Nat.reduceAdd]
  refine seq_n hK1 ?_
  refine w_seq fun K2 hK2 => ?_
  refine w_reg gC ?_
  try simp only [W, Nat.reduceAdd]
  refine w_call h fun b3 hb3 h => ?_
  refine slices_IndexFunc_impl_Out_w hb3 hg1 hS fun H hS => ?_
  try simp only [W, EE]
  refine seq_n hK2 ?_
  refine w_ret ?_
  refine fin_r1 hK0 rfl ?_
  try obtain rfl := Option.some.inj h
  exact hP _ hS
noncomputable def impl_in (a0 : Int) (a1 : Int) (a2 : Int) : Option (Bool) :=
  (bif (decide (a1 ≤ a0)) then some (decide (a0 ≤ a2)) else some false)
theorem impl_in_w {a0 : Int} {a1 : Int} {a2 : Int} {r : (Bool)} (h : impl_in a0 a1 a2 = some r) {F : List It} {H : Heap} (hS : Own H (F)) {P : AV → Heap → Prop} (hP : ∀ H', Own H' (F) → P (.bool r) H') : ACall C 95 [.int .i64 a0, .int .i64 a1, .int .i64 a2] H P := by
  refine acall_of gC (res := [.tmp 6]) (n := 15) rfl rfl rfl rfl fun K0 hK0 => ?_
  simp only [W, Nat.reduceSub, Nat.reduceAdd, List.replicate]
  unfold impl_in at h
  refine w_seq fun K1 hK1 => ?_
  refine w_reg gC ?_
  try simp only [W, Nat.reduceAdd]
  refine seq_n hK1 ?_
  refine w_seq fun K2 hK2 => ?_
  refine w_reg gC ?_
  try simp only [W, EE, Nat.reduceAdd]
  refine w_grdT h (fun hc h => ?_) (fun hc h => ?_)
  · try simp only [W, EE, reduceIte, hc]
    refine seq_n hK2 ?_
    refine w_ret ?_
    refine fin_r1 hK0 rfl ?_
    try obtain rfl := Option.some.inj h
    exact hP _ hS
  · try simp only [W, hc]
    refine seq_n hK2 ?_
    refine w_ret ?_
    refine fin_r1 hK0 rfl ?_
    try obtain rfl := Option.some.inj h
    exact hP _ hS
noncomputable def impl_isOut (a0 : Out) : Option (Bool) :=
  (impl_in (a0.Text.length : Int) 1 40).bind fun b5 => (bif b5 then (impl_in a0.End 0 100).bind fun b6 => (bif b6 then (bif ((a0.Heard.length : Int) == (IntKind.i64.wrap (Int.tdiv (IntKind.i64.wrap ((IntKind.i64.wrap ((a0.Text.length : Int) + 4)) - 1)) 4))) then (impl_in a0.Final 0 2).bind fun b7 => some b7 else some false) else some false) else some false)
theorem impl_isOut_w {a0 : Out} {r : (Bool)} (h : impl_isOut a0 = some r) {F : List It} {H : Heap} (hS : Own H (F)) {P : AV → Heap → Prop} (hP : ∀ H', Own H' (F) → P (.bool r) H') : ACall C 92 [.agg [.str a0.Text, .int .i64 a0.End, .fz (a0.Heard.map AV.bool), .int .i64 a0.Final]] H P := by
  refine acall_of gC (res := [.tmp 2]) (n := 29) rfl rfl rfl rfl fun K0 hK0 => ?_
  simp only [W, Nat.reduceSub, Nat.reduceAdd, List.replicate]
  unfold impl_isOut at h
  refine w_seq fun K1 hK1 => ?_
  refine w_reg gC ?_
  try simp only [W, Nat.reduceAdd]
  refine w_box hS rfl rfl rfl rfl fun ip2 wp2 H hS => ?_
  try simp only [W]
  refine seq_n hK1 ?_
  refine w_seq fun K4 hK4 => ?_
  refine w_reg gC ?_
  try simp only [W, EE, Nat.reduceAdd, Nat.reduceBEq, hS.var 0 rfl]
  refine w_call h fun b5 hb5 h => ?_
  refine impl_in_w hb5 hS fun H hS => ?_
  try simp only [W]
  refine w_grdT h (fun hc h => ?_) (fun hc h => ?_)
  · try simp only [W, EE, Nat.reduceAdd, Nat.reduceBEq, hS.var 0 rfl, hc]
    refine w_call h fun b6 hb6 h => ?_
    refine impl_in_w hb6 hS fun H hS => ?_
    try simp only [W, reduceIte]
    refine w_grdT h (fun hc h => ?_) (fun hc h => ?_)
    · try simp only [W, EE, Nat.reduceAdd, Nat.reduceBEq, hS.var 0 rfl, hc]
      rw [dv_lit _ _ _ rfl, Option.map_some, resV_s]
      try simp only [W, EE, reduceIte]
      refine w_grdT h (fun hc h => ?_) (fun hc h => ?_)
      · try simp only [W, EE, Nat.reduceAdd, Nat.reduceBEq, hS.var 0 rfl, hc]
        refine w_call h fun b7 hb7 h => ?_
        refine impl_in_w hb7 hS fun H hS => ?_
        try simp only [W, reduceIte]
        refine seq_n hK4 ?_
        refine w_ret ?_
        refine fin_r1 hK0 rfl ?_
        try obtain rfl := Option.some.inj h
        exact hP _ (hS.sel 1 [] (by decide))
      · try simp only [W, hc]
        refine seq_n hK4 ?_
        refine w_ret ?_
        refine fin_r1 hK0 rfl ?_
        try obtain rfl := Option.some.inj h
        exact hP _ (hS.sel 1 [] (by decide))
    · try simp only [W, hc]
      refine seq_n hK4 ?_
      refine w_ret ?_
      refine fin_r1 hK0 rfl ?_
      try obtain rfl := Option.some.inj h
      exact hP _ (hS.sel 1 [] (by decide))
  · try simp only [W, hc]
    refine seq_n hK4 ?_
    refine w_ret ?_
    refine fin_r1 hK0 rfl ?_
    try obtain rfl := Option.some.inj h
    exact hP _ (hS.sel 1 [] (by decide))
noncomputable def impl_GoodOuts_1 (a0 : Out) : Option (Bool) :=
  (impl_isOut a0).bind fun b5 => some (!b5)
theorem impl_GoodOuts_1_w {a0 : Out} {r : (Bool)} (h : impl_GoodOuts_1 a0 = some r) {F : List It} {H : Heap} (hS : Own H (F)) {P : AV → Heap → Prop} (hP : ∀ H', Own H' (F) → P (.bool r) H') : ACall C 91 [.agg [.str a0.Text, .int .i64 a0.End, .fz (a0.Heard.map AV.bool), .int .i64 a0.Final]] H P := by
  refine acall_of gC (res := [.tmp 2]) (n := 6) rfl rfl rfl rfl fun K0 hK0 => ?_
  simp only [W, Nat.reduceSub, Nat.reduceAdd, List.replicate]
  unfold impl_GoodOuts_1 at h
  refine w_seq fun K1 hK1 => ?_
  refine w_reg gC ?_
  try simp only [W, Nat.reduceAdd]
  refine w_box hS rfl rfl rfl rfl fun ip2 wp2 H hS => ?_
  try simp only [W]
  refine seq_n hK1 ?_
  refine w_seq fun K4 hK4 => ?_
  refine w_reg gC ?_
  try simp only [W, EE, reduceIte, Nat.reduceAdd, Nat.reduceLeDiff, hS.var 0 rfl]
  refine w_call h fun b5 hb5 h => ?_
  refine impl_isOut_w hb5 hS fun H hS => ?_
  try simp only [W]
  refine seq_n hK4 ?_
  refine w_ret ?_
  refine fin_r1 hK0 rfl ?_
  try obtain rfl := Option.some.inj h
  exact hP _ (hS.sel 1 [] (by decide))
noncomputable def impl_GoodOuts (a0 : List Out) : Option (Bool) :=
  (bif (decide ((a0.length : Int) ≤ 6)) then (slices_ContainsFunc_impl_Out a0 impl_GoodOuts_1).bind fun b3 => some (!b3) else some false)
theorem impl_GoodOuts_w {a0 : List Out} {r : (Bool)} (h : impl_GoodOuts a0 = some r) {F : List It} {H : Heap} (hS : Own H (F)) {P : AV → Heap → Prop} (hP : ∀ H', Own H' (F) → P (.bool r) H') : ACall C 18 [.fz (a0.map e_Out)] H P := by
  refine acall_of gC (res := [.tmp 2]) (n := 11) rfl rfl rfl rfl fun K0 hK0 => ?_
  simp only [W, Nat.reduceSub, Nat.reduceAdd, List.replicate]
  unfold impl_GoodOuts at h
  refine w_seq fun K1 hK1 => ?_
  refine w_reg gC ?_
  try simp only [W, Nat.reduceAdd]
  refine seq_n hK1 ?_
  refine w_seq fun K2 hK2 => ?_
  refine w_reg gC ?_
  try simp only [W, EE, Nat.reduceAdd]
  refine w_grdT h (fun hc h => ?_) (fun hc h => ?_)
  · try simp only [W, hc]
    refine w_call h fun b3 hb3 h => ?_
    refine slices_ContainsFunc_impl_Out_w hb3 (fun h _ n hL _ hS _ hP => impl_GoodOuts_1_w h hS hP) hS fun H hS => ?_
    try simp only [W, reduceIte]
    refine seq_n hK2 ?_
    refine w_ret ?_
    refine fin_r1 hK0 rfl ?_
    try obtain rfl := Option.some.inj h
    exact hP _ hS
  · try simp only [W, hc]
    refine seq_n hK2 ?_
    refine w_ret ?_
    refine fin_r1 hK0 rfl ?_
    try obtain rfl := Option.some.inj h
    exact hP _ hS
noncomputable def laws_eqBoolS_l0 (a0 : List Bool) (a1 : List Bool) (x : (Int)) : Option (LR (Int) (LR Unit (Bool))) :=
  match x with
  | (x7) => (bif (decide (x7 < (a0.length : Int))) then (idx a0 x7).bind fun b21 => (idx a1 x7).bind fun b22 => (bif (!(b21 == b22)) then some (LR.done (LR.done false)) else some (LR.next ((IntKind.i64.wrap (x7 + 1))))) else some (LR.done (LR.next ())))
noncomputable def laws_eqBoolS (a0 : List Bool) (a1 : List Bool) : Option (Bool) :=
  (bif ((a0.length : Int) != (a1.length : Int)) then some false else (whl (laws_eqBoolS_l0 a0 a1) (0)).bind fun y => match y with | LR.next () => some true | LR.done z => some z)
theorem laws_eqBoolS_w {a0 : List Bool} {a1 : List Bool} {r : (Bool)} (h : laws_eqBoolS a0 a1 = some r) {F : List It} {H : Heap} (hS : Own H (F)) {P : AV → Heap → Prop} (hP : ∀ H', Own H' (F) → P (.bool r) H') : ACall C 163 [.fz (a0.map AV.bool), .fz (a1.map AV.bool)] H P := by
  refine acall_of gC (res := [.tmp 4]) (n := 26) rfl rfl rfl rfl fun K0 hK0 => ?_
  simp only [W, Nat.reduceSub, Nat.reduceAdd, List.replicate]
  unfold laws_eqBoolS at h
  refine w_seq fun K1 hK1 => ?_
  refine w_reg gC ?_
  try simp only [W, Nat.reduceAdd]
  refine seq_n hK1 ?_
  refine w_seq fun K2 hK2 => ?_
  refine w_seq fun K3 hK3 => ?_
  refine w_reg gC ?_
  try simp only [W, EE, Nat.reduceAdd]
  refine seq_n hK3 ?_
  refine w_if ?_
  simp only [W]
  refine w_cnd h (fun hc h => ?_) (fun hc h => ?_)
  · refine w_seq fun K4 hK4 => ?_
    refine w_reg gC ?_
    try simp only [W, Nat.reduceAdd]
    refine seq_n hK4 ?_
    refine w_ret ?_
    refine seq_r hK2 ?_
    refine fin_r1 hK0 rfl ?_
    try obtain rfl := Option.some.inj h
    exact hP _ hS
  · refine w_skip ?_
    refine seq_n hK2 ?_
    refine w_seq fun K5 hK5 => ?_
    refine w_seq fun K6 hK6 => ?_
    refine w_reg gC ?_
    try simp only [W, Nat.reduceAdd]
    refine seq_n hK6 ?_
    obtain ⟨y8, hw9, g15⟩ := Option.bind_eq_some_iff.1 h
    refine w_join gC (fun s H => y8 = LR.next () ∧ s = [u, u, u, u, u, u, u, u, u, u, u, u, u, u, u, u, u, u, u, u, u, u, u, u, u, u] ∧ Own H (F)) (fun K10 hK10 => ?_) (fun s H hq => ?_)
    · refine w_blk fun K11 hK11 => ?_
      refine w_loop gC hw9 (fun x s H => s = [.fz (a0.map AV.bool), .fz (a1.map AV.bool), u, u, u, .int .i64 x, u, u, u, u, u, u, u, u, u, u, u, u, u, u, u, u, u, u, u, u] ∧ Own H (F)) ⟨rfl, hS⟩ (fun x7 y14 s H h hd13 hi K12 hK12 => ?_)
      skip
      try dsimp only at hi
      obtain ⟨rfl, hS⟩ := hi
      simp only [laws_eqBoolS_l0] at h
      refine w_seq fun K16 hK16 => ?_
      refine w_seq fun K17 hK17 => ?_
      refine w_reg gC ?_
      try simp only [W, EE, Nat.reduceAdd]
      refine seq_n hK17 ?_
      refine w_if ?_
      simp only [W]
      refine w_cnd h (fun hc h => ?_) (fun hc h => ?_)
      · refine w_skip ?_
        refine seq_n hK16 ?_
        refine w_seq fun K18 hK18 => ?_
        refine w_blk fun K19 hK19 => ?_
        refine w_seq fun K20 hK20 => ?_
        refine w_draw0 gC (by kernel_rfl) ?_
        try simp only [W, EE, Nat.reduceAdd]
        refine w_fz rfl rfl rfl (fun _ => rfl) h fun b21 hb21 h => ?_
        try simp only [W, EE]
        refine w_fz rfl rfl rfl (fun _ => rfl) h fun b22 hb22 h => ?_
        try simp only [W, EE]
        rw [b_bneq _ _ _ _ (h := rfl) rfl, resV_s]
        try simp only [W]
        refine seq_n hK20 ?_
        refine w_if ?_
        simp only [W]
        refine w_cnd h (fun hc h => ?_) (fun hc h => ?_)
        · refine w_seq fun K23 hK23 => ?_
          refine w_reg gC ?_
          try simp only [W, Nat.reduceAdd]
          refine seq_n hK23 ?_
          refine w_ret ?_
          refine blk_r hK19 ?_
          refine seq_r hK18 ?_
          try obtain rfl := Option.some.inj h
          obtain rfl := hd13 _ rfl
          have h : (some (LR.done false) : Option (LR Unit (Bool))) = some (LR.done false) := rfl
          refine lp_r hK12 ?_
          refine blk_r hK11 ?_
          try obtain rfl := Option.some.inj h
          obtain rfl := Option.some.inj g15
          have h : (some false : Option (Bool)) = some false := rfl
          refine cut_r hK10 ?_
          refine seq_r hK5 ?_
          refine fin_r1 hK0 rfl ?_
          try obtain rfl := Option.some.inj h
          exact hP _ hS
        · refine w_skip ?_
          refine blk_n0 hK19 ?_
          refine seq_n hK18 ?_
          refine w_reg gC ?_
          try simp only [W, EE, Nat.reduceAdd]
          exact lp_n hK12 h ⟨rfl, hS⟩
      · refine w_exit ?_
        refine seq_x hK16 ?_
        try obtain rfl := Option.some.inj h
        obtain rfl := hd13 _ rfl
        have h : (some (LR.next ()) : Option (LR Unit (Bool))) = some (LR.next ()) := rfl
        refine lp_x hK12 ?_
        refine blk_e hK11 ?_
        exact cut_n hK10 ⟨(Option.some.inj h).symm, rfl, hS⟩
    · obtain ⟨rfl, rfl, hS⟩ := hq
      replace h := g15
      try dsimp only at h
      refine seq_n hK5 ?_
      refine w_seq fun K30 hK30 => ?_
      refine w_reg gC ?_
      try simp only [W, Nat.reduceAdd]
      refine seq_n hK30 ?_
      refine w_ret ?_
      refine fin_r1 hK0 rfl ?_
      try obtain rfl := Option.some.inj h
      exact hP _ hS
noncomputable def laws_eqOut (a0 : Out) (a1 : Out) : Option (Bool) :=
  (bif (!(a0.Text == a1.Text)) then some false else (bif (a0.End != a1.End) then some false else (laws_eqBoolS a0.Heard a1.Heard).bind fun b14 => (bif (!b14) then some false else (bif (a0.Final != a1.Final) then some false else some true))))
theorem laws_eqOut_w {a0 : Out} {a1 : Out} {r : (Bool)} (h : laws_eqOut a0 a1 = some r) {F : List It} {H : Heap} (hS : Own H (F)) {P : AV → Heap → Prop} (hP : ∀ H', Own H' (F) → P (.bool r) H') : ACall C 93 [.agg [.str a0.Text, .int .i64 a0.End, .fz (a0.Heard.map AV.bool), .int .i64 a0.Final], .agg [.str a1.Text, .int .i64 a1.End, .fz (a1.Heard.map AV.bool), .int .i64 a1.Final]] H P := by
  refine acall_of gC (res := [.tmp 4]) (n := 26) rfl rfl rfl rfl fun K0 hK0 => ?_
  simp only [W, Nat.reduceSub, Nat.reduceAdd, List.replicate]
  unfold laws_eqOut at h
  refine w_seq fun K1 hK1 => ?_
  refine w_reg gC ?_
  try simp only [W, Nat.reduceAdd]
  refine w_box hS rfl rfl rfl rfl fun ip2 wp2 H hS => ?_
  try simp only [W]
  refine w_box hS rfl rfl rfl rfl fun ip4 wp4 H hS => ?_
  try simp only [W]
  refine seq_n hK1 ?_
  refine w_seq fun K6 hK6 => ?_
  refine w_seq fun K7 hK7 => ?_
  refine w_reg gC ?_
  try simp only [W, EE, Nat.reduceAdd, Nat.reduceBEq, hS.var 1 rfl, hS.var 0 rfl]
  refine seq_n hK7 ?_
  refine w_if ?_
  simp only [W]
  refine w_cnd h (fun hc h => ?_) (fun hc h => ?_)
  · refine w_seq fun K8 hK8 => ?_
    refine w_reg gC ?_
    try simp only [W, Nat.reduceAdd]
    refine seq_n hK8 ?_
    refine w_ret ?_
    refine seq_r hK6 ?_
    refine fin_r1 hK0 rfl ?_
    try obtain rfl := Option.some.inj h
    exact hP _ (hS.sel 2 [] (by decide))
  · refine w_skip ?_
    refine seq_n hK6 ?_
    refine w_seq fun K9 hK9 => ?_
    refine w_seq fun K10 hK10 => ?_
    refine w_reg gC ?_
    try simp only [W, EE, Nat.reduceAdd, Nat.reduceBEq, hS.var 1 rfl, hS.var 0 rfl]
    refine seq_n hK10 ?_
    refine w_if ?_
    simp only [W]
    refine w_cnd h (fun hc h => ?_) (fun hc h => ?_)
    · refine w_seq fun K11 hK11 => ?_
      refine w_reg gC ?_
      try simp only [W, Nat.reduceAdd]
      refine seq_n hK11 ?_
      refine w_ret ?_
      refine seq_r hK9 ?_
      refine fin_r1 hK0 rfl ?_
      try obtain rfl := Option.some.inj h
      exact hP _ (hS.sel 2 [] (by decide))
    · refine w_skip ?_
      refine seq_n hK9 ?_
      refine w_seq fun K12 hK12 => ?_
      refine w_seq fun K13 hK13 => ?_
      refine w_reg gC ?_
      try simp only [W, EE, Nat.reduceAdd, Nat.reduceBEq, hS.var 1 rfl, hS.var 0 rfl]
      refine w_call h fun b14 hb14 h => ?_
      refine laws_eqBoolS_w hb14 hS fun H hS => ?_
      try simp only [W]
      refine seq_n hK13 ?_
      refine w_if ?_
      simp only [W]
      refine w_cnd h (fun hc h => ?_) (fun hc h => ?_)
      · refine w_seq fun K15 hK15 => ?_
        refine w_reg gC ?_
        try simp only [W, Nat.reduceAdd]
        refine seq_n hK15 ?_
        refine w_ret ?_
        refine seq_r hK12 ?_
        refine fin_r1 hK0 rfl ?_
        try obtain rfl := Option.some.inj h
        exact hP _ (hS.sel 2 [] (by decide))
      · refine w_skip ?_
        refine seq_n hK12 ?_
        refine w_seq fun K16 hK16 => ?_
        refine w_seq fun K17 hK17 => ?_
        refine w_reg gC ?_
        try simp only [W, EE, Nat.reduceAdd, Nat.reduceBEq, hS.var 1 rfl, hS.var 0 rfl]
        refine seq_n hK17 ?_
        refine w_if ?_
        simp only [W]
        refine w_cnd h (fun hc h => ?_) (fun hc h => ?_)
        · refine w_seq fun K18 hK18 => ?_
          refine w_reg gC ?_
          try simp only [W, Nat.reduceAdd]
          refine seq_n hK18 ?_
          refine w_ret ?_
          refine seq_r hK16 ?_
          refine fin_r1 hK0 rfl ?_
          try obtain rfl := Option.some.inj h
          exact hP _ (hS.sel 2 [] (by decide))
        · refine w_skip ?_
          refine seq_n hK16 ?_
          refine w_seq fun K19 hK19 => ?_
          refine w_reg gC ?_
          try simp only [W, Nat.reduceAdd]
          refine seq_n hK19 ?_
          refine w_ret ?_
          refine fin_r1 hK0 rfl ?_
          try obtain rfl := Option.some.inj h
          exact hP _ (hS.sel 2 [] (by decide))
noncomputable def laws_eqOutS_l0 (a0 : List Out) (a1 : List Out) (x : (Int)) : Option (LR (Int) (LR Unit (Bool))) :=
  match x with
  | (x7) => (bif (decide (x7 < (a0.length : Int))) then (idx a0 x7).bind fun b21 => (idx a1 x7).bind fun b22 => (laws_eqOut b21 b22).bind fun b23 => (bif (!b23) then some (LR.done (LR.done false)) else some (LR.next ((IntKind.i64.wrap (x7 + 1))))) else some (LR.done (LR.next ())))
noncomputable def laws_eqOutS (a0 : List Out) (a1 : List Out) : Option (Bool) :=
  (bif ((a0.length : Int) != (a1.length : Int)) then some false else (whl (laws_eqOutS_l0 a0 a1) (0)).bind fun y => match y with | LR.next () => some true | LR.done z => some z)
theorem laws_eqOutS_w {a0 : List Out} {a1 : List Out} {r : (Bool)} (h : laws_eqOutS a0 a1 = some r) {F : List It} {H : Heap} (hS : Own H (F)) {P : AV → Heap → Prop} (hP : ∀ H', Own H' (F) → P (.bool r) H') : ACall C 19 [.fz (a0.map e_Out), .fz (a1.map e_Out)] H P := by
  refine acall_of gC (res := [.tmp 4]) (n := 27) rfl rfl rfl rfl fun K0 hK0 => ?_
  simp only [W, Nat.reduceSub, Nat.reduceAdd, List.replicate]
  unfold laws_eqOutS at h
  refine w_seq fun K1 hK1 => ?_
  refine w_reg gC ?_
  try simp only [W, Nat.reduceAdd]
  refine seq_n hK1 ?_
  refine w_seq fun K2 hK2 => ?_
  refine w_seq fun K3 hK3 => ?_
  refine w_reg gC ?_
  try simp only [W, EE, Nat.reduceAdd]
  refine seq_n hK3 ?_
  refine w_if ?_
  simp only [W]
  refine w_cnd h (fun hc h => ?_) (fun hc h => ?_)
  · refine w_seq fun K4 hK4 => ?_
    refine w_reg gC ?_
    try simp only [W, Nat.reduceAdd]
    refine seq_n hK4 ?_
    refine w_ret ?_
    refine seq_r hK2 ?_
    refine fin_r1 hK0 rfl ?_
    try obtain rfl := Option.some.inj h
    exact hP _ hS
  · refine w_skip ?_
    refine seq_n hK2 ?_
    refine w_seq fun K5 hK5 => ?_
    refine w_seq fun K6 hK6 => ?_
    refine w_reg gC ?_
    try simp only [W, Nat.reduceAdd]
    refine seq_n hK6 ?_
    obtain ⟨y8, hw9, g15⟩ := Option.bind_eq_some_iff.1 h
    refine w_join gC (fun s H => y8 = LR.next () ∧ s = [u, u, u, u, u, u, u, u, u, u, u, u, u, u, u, u, u, u, u, u, u, u, u, u, u, u, u] ∧ Own H (F)) (fun K10 hK10 => ?_) (fun s H hq => ?_)
    · refine w_blk fun K11 hK11 => ?_
      refine w_loop gC hw9 (fun x s H => s = [.fz (a0.map e_Out), .fz (a1.map e_Out), u, u, u, .int .i64 x, u, u, u, u, u, u, u, u, u, u, u, u, u, u, u, u, u, u, u, u, u] ∧ Own H (F)) ⟨rfl, hS⟩ (fun x7 y14 s H h hd13 hi K12 hK12 => ?_)
      skip
      try dsimp only at hi
      obtain ⟨rfl, hS⟩ := hi
      simp only [laws_eqOutS_l0] at h
      refine w_seq fun K16 hK16 => ?_
      refine w_seq fun K17 hK17 => ?_
      refine w_reg gC ?_
      try simp only [W, EE, Nat.reduceAdd]
      refine seq_n hK17 ?_
      refine w_if ?_
      simp only [W]
      refine w_cnd h (fun hc h => ?_) (fun hc h => ?_)
      · refine w_skip ?_
        refine seq_n hK16 ?_
        refine w_seq fun K18 hK18 => ?_
        refine w_blk fun K19 hK19 => ?_
        refine w_seq fun K20 hK20 => ?_
        refine w_draw0 gC (by kernel_rfl) ?_
        try simp only [W, EE, Nat.reduceAdd]
        refine w_fz rfl rfl rfl (fun _ => rfl) h fun b21 hb21 h => ?_
        try simp only [W, EE, EN, reduceIte, Nat.reduceAdd, Nat.reduceLeDiff]
        refine w_fz rfl rfl rfl (fun _ => rfl) h fun b22 hb22 h => ?_
        try simp only [W, EE, EN, reduceIte, Nat.reduceAdd, Nat.reduceLeDiff]
        refine w_callQ (rsh := [[.sc]]) (ys := [.agg [.str b21.Text, .int .i64 b21.End, .fz (b21.Heard.map AV.bool), .int .i64 b21.Final], .agg [.str b22.Text, .int .i64 b22.End, .fz (b22.Heard.map AV.bool), .int .i64 b22.Final]]) (lent := false) h rfl (by rfl) fun b23 hb23 h => ⟨_, laws_eqOut_w hb23 (Own.nil _) fun H hS => ⟨[_], _, H, rfl, (by simp only [takeVals, takeE, takeT, plainA, if_true, List.headD_cons]; rfl), rfl⟩, .inl rfl, ?_⟩
        try simp only [W, reduceIte, Bool.false_eq_true]
        refine seq_n hK20 ?_
        refine w_if ?_
        simp only [W]
        refine w_cnd h (fun hc h => ?_) (fun hc h => ?_)
        · refine w_seq fun K24 hK24 => ?_
          refine w_reg gC ?_
          try simp only [W, Nat.reduceAdd]
          refine seq_n hK24 ?_
          refine w_ret ?_
          refine blk_r hK19 ?_
          refine seq_r hK18 ?_
          try obtain rfl := Option.some.inj h
          obtain rfl := hd13 _ rfl
          have h : (some (LR.done false) : Option (LR Unit (Bool))) = some (LR.done false) := rfl
          refine lp_r hK12 ?_
          refine blk_r hK11 ?_
          try obtain rfl := Option.some.inj h
          obtain rfl := Option.some.inj g15
          have h : (some false : Option (Bool)) = some false := rfl
          refine cut_r hK10 ?_
          refine seq_r hK5 ?_
          refine fin_r1 hK0 rfl ?_
          try obtain rfl := Option.some.inj h
          exact hP _ hS
        · refine w_skip ?_
          refine blk_n0 hK19 ?_
          refine seq_n hK18 ?_
          refine w_reg gC ?_
          try simp only [W, EE, Nat.reduceAdd]
          exact lp_n hK12 h ⟨rfl, hS⟩
      · refine w_exit ?_
        refine seq_x hK16 ?_
        try obtain rfl := Option.some.inj h
        obtain rfl := hd13 _ rfl
        have h : (some (LR.next ()) : Option (LR Unit (Bool))) = some (LR.next ()) := rfl
        refine lp_x hK12 ?_
        refine blk_e hK11 ?_
        exact cut_n hK10 ⟨(Option.some.inj h).symm, rfl, hS⟩
    · obtain ⟨rfl, rfl, hS⟩ := hq
      replace h := g15
      try dsimp only at h
      refine seq_n hK5 ?_
      refine w_seq fun K31 hK31 => ?_
      refine w_reg gC ?_
      try simp only [W, Nat.reduceAdd]
      refine seq_n hK31 ?_
      refine w_ret ?_
      refine fin_r1 hK0 rfl ?_
      try obtain rfl := Option.some.inj h
      exact hP _ hS
noncomputable def laws_FnExactGoodOuts (a0 : List Out) : Option (Bool) :=
  (laws_szOutS a0 1048576).bind fun b4 => (bif (decide (b4 < 0)) then some true else (laws_toOutS a0).bind fun b9 => (spec_GoodOuts b9).bind fun b12 => (laws_toOutS a0).bind fun b14 => (impl_GoodOuts b14).bind fun b18 => (bif (!(b18 == b12)) then some false else (laws_toOutS a0).bind fun b24 => (laws_eqOutS b14 b24).bind fun b27 => (bif (!b27) then some false else some true)))
theorem laws_FnExactGoodOuts_w {a0 : List Out} {r : (Bool)} (h : laws_FnExactGoodOuts a0 = some r) {F : List It} {H : Heap} (hS : Own H (F)) {P : AV → Heap → Prop} (hP : ∀ H', Own H' (F) → P (.bool r) H') : ACall C 3 [.fz (a0.map e_Out)] H P := by
  refine acall_of gC (res := [.tmp 2]) (n := 27) rfl rfl rfl rfl fun K0 hK0 => ?_
  simp only [W, Nat.reduceSub, Nat.reduceAdd, List.replicate]
  unfold laws_FnExactGoodOuts at h
  refine w_seq fun K1 hK1 => ?_
  refine w_reg gC ?_
  try simp only [W, Nat.reduceAdd]
  refine seq_n hK1 ?_
  refine w_seq fun K2 hK2 => ?_
  refine w_reg gC ?_
  try simp only [W, Nat.reduceAdd]
  refine seq_n hK2 ?_
  refine w_seq fun K3 hK3 => ?_
  refine w_reg gC ?_
  try simp only [W, Nat.reduceAdd]
  refine w_call h fun b4 hb4 h => ?_
  refine laws_szOutS_w hb4 hS fun H hS => ?_
  try simp only [W]
  refine seq_n hK3 ?_
  refine w_seq fun K5 hK5 => ?_
  refine w_seq fun K6 hK6 => ?_
  refine w_reg gC ?_
  try simp only [W, EE, Nat.reduceAdd]
  refine seq_n hK6 ?_
  refine w_if ?_
  simp only [W]
  refine w_cnd h (fun hc h => ?_) (fun hc h => ?_)
  · refine w_seq fun K7 hK7 => ?_
    refine w_reg gC ?_
    try simp only [W, Nat.reduceAdd]
    refine seq_n hK7 ?_
    refine w_ret ?_
    refine seq_r hK5 ?_
    refine fin_r1 hK0 rfl ?_
    try obtain rfl := Option.some.inj h
    exact hP _ hS
  · refine w_skip ?_
    refine seq_n hK5 ?_
    refine w_seq fun K8 hK8 => ?_
    refine w_regF (fz := [(2, [([13], [.sl [.sc, .sc, .sl [.sc], .sc]])])]) gC ?_
    try simp only [W, Nat.reduceAdd, Nat.reduceBEq]
    refine w_call h fun b9 hb9 h => ?_
    refine laws_toOutS_w hb9 hS fun v10 qv10 H hS => ?_
    try simp only [W, Nat.reduceAdd]
    refine FZ_own 0 hS rfl qv10 rfl (fun _ _ => by simp [takeE, takeT, takeC, plainA, e_Out]) (fun _ => rfl) fun H hsame hS => ?_
    try simp only [W]
    refine w_call h fun b12 hb12 h => ?_
    refine spec_GoodOuts_w hb12 hS fun H hS => ?_
    try simp only [W, Nat.reduceAdd, Nat.reduceBEq]
    refine seq_n hK8 ?_
    refine w_seq fun K13 hK13 => ?_
    refine w_reg gC ?_
    try simp only [W, Nat.reduceAdd]
    refine w_call h fun b14 hb14 h => ?_
    refine laws_toOutS_w hb14 hS fun v15 qv15 H hS => ?_
    try simp only [W]
    refine seq_n hK13 ?_
    refine w_seq fun K17 hK17 => ?_
    refine w_regF (fz := [(1, [([17, 5, 16], [.sl [.sc, .sc, .sl [.sc], .sc]])])]) gC ?_
    try simp only [W, Nat.reduceAdd, Nat.reduceBEq]
    refine FZ_own 0 hS rfl qv15 rfl (fun _ _ => by simp [takeE, takeT, takeC, plainA, e_Out]) (fun _ => rfl) fun H hsame hS => ?_
    simp only [W, hsame, if_true]
    try simp only [W, EE, EN, reduceIte, Nat.reduceAdd, Nat.reduceLeDiff, Nat.reduceBEq, Nat.reduceMul, Bool.false_eq_true]
    refine w_call h fun b18 hb18 h => ?_
    refine impl_GoodOuts_w hb18 hS fun H hS => ?_
    try simp only [W, Nat.reduceAdd, Nat.reduceBEq]
    refine seq_n hK17 ?_
    refine w_seq fun K19 hK19 => ?_
    refine w_seq fun K20 hK20 => ?_
    refine w_reg gC ?_
    try simp only [W, EE, Nat.reduceAdd]
    rw [b_bneq _ _ _ _ (h := rfl) rfl, resV_s]
    try simp only [W]
    refine seq_n hK20 ?_
    refine w_if ?_
    simp only [W]
    refine w_cnd h (fun hc h => ?_) (fun hc h => ?_)
    · refine w_seq fun K21 hK21 => ?_
      refine w_reg gC ?_
      try simp only [W, Nat.reduceAdd]
      refine seq_n hK21 ?_
      refine w_ret ?_
      refine seq_r hK19 ?_
      refine fin_r1 hK0 rfl ?_
      try obtain rfl := Option.some.inj h
      exact hP _ hS
    · refine w_skip ?_
      refine seq_n hK19 ?_
      refine w_seq fun K22 hK22 => ?_
      refine w_seq fun K23 hK23 => ?_
      refine w_regF (fz := [(3, [([24], [.sl [.sc, .sc, .sl [.sc], .sc]])])]) gC ?_
      try simp only [W, Nat.reduceAdd, Nat.reduceBEq]
      refine w_call h fun b24 hb24 h => ?_
      refine laws_toOutS_w hb24 hS fun v25 qv25 H hS => ?_
      try simp only [W, Nat.reduceAdd]
      refine FZ_own 0 hS rfl qv25 rfl (fun _ _ => by simp [takeE, takeT, takeC, plainA, e_Out]) (fun _ => rfl) fun H hsame hS => ?_
      try simp only [W]
      refine w_call h fun b27 hb27 h => ?_
      refine laws_eqOutS_w hb27 hS fun H hS => ?_
      try simp only [W, Nat.reduceAdd, Nat.reduceBEq]
      refine seq_n hK23 ?_
      refine w_if ?_
      simp only [W]
      refine w_cnd h (fun hc h => ?_) (fun hc h => ?_)
      · refine w_seq fun K28 hK28 => ?_
        refine w_reg gC ?_
        try simp only [W, Nat.reduceAdd]
        refine seq_n hK28 ?_
        refine w_ret ?_
        refine seq_r hK22 ?_
        refine fin_r1 hK0 rfl ?_
        try obtain rfl := Option.some.inj h
        exact hP _ hS
      · refine w_skip ?_
        refine seq_n hK22 ?_
        refine w_seq fun K29 hK29 => ?_
        refine w_reg gC ?_
        try simp only [W, Nat.reduceAdd]
        refine seq_n hK29 ?_
        refine w_ret ?_
        refine fin_r1 hK0 rfl ?_
        try obtain rfl := Option.some.inj h
        exact hP _ hS
noncomputable def spec_l1Bit (a0 : Bool) : Option (Int) :=
  (bif a0 then some 1 else some 0)
theorem spec_l1Bit_w {a0 : Bool} {r : (Int)} (h : spec_l1Bit a0 = some r) {F : List It} {H : Heap} (hS : Own H (F)) {P : AV → Heap → Prop} (hP : ∀ H', Own H' (F) → P (.int .i64 r) H') : ACall C 94 [.bool a0] H P := by
  refine acall_of gC (res := [.tmp 2]) (n := 4) rfl rfl rfl rfl fun K0 hK0 => ?_
  simp only [W, Nat.reduceSub, Nat.reduceAdd, List.replicate]
  unfold spec_l1Bit at h
  refine w_seq fun K1 hK1 => ?_
  refine w_reg gC ?_
  try simp only [W, Nat.reduceAdd]
  refine seq_n hK1 ?_
  refine w_seq fun K2 hK2 => ?_
  refine w_seq fun K3 hK3 => ?_
  refine w_reg gC ?_
  try simp only [W, Nat.reduceAdd]
  refine seq_n hK3 ?_
  refine w_if ?_
  simp only [W]
  refine w_cnd h (fun hc h => ?_) (fun hc h => ?_)
  · refine w_seq fun K4 hK4 => ?_
    refine w_reg gC ?_
    try simp only [W, Nat.reduceAdd]
    refine seq_n hK4 ?_
    refine w_ret ?_
    refine seq_r hK2 ?_
    refine fin_r1 hK0 rfl ?_
    try obtain rfl := Option.some.inj h
    exact hP _ hS
  · refine w_skip ?_
    refine seq_n hK2 ?_
    refine w_seq fun K5 hK5 => ?_
    refine w_reg gC ?_
    try simp only [W, Nat.reduceAdd]
    refine seq_n hK5 ?_
    refine w_ret ?_
    refine fin_r1 hK0 rfl ?_
    try obtain rfl := Option.some.inj h
    exact hP _ hS
noncomputable def spec_DueIn_l0 (b35 : Out) (x : (Int × Int)) : Option (LR (Int × Int) (Int)) :=
  match x with
  | (x46, x47) => (bif (decide (x47 < (b35.Heard.length : Int))) then (idx b35.Heard x47).bind fun b62 => (spec_l1Bit (!b62)).bind fun b63 => some (LR.next ((IntKind.i64.wrap (x46 + b63)), (IntKind.i64.wrap (x47 + 1)))) else some (LR.done (x46)))
noncomputable def spec_DueIn_l1 (a0 : List Out) (a1 : Int) (x : (Int × Int)) : Option (LR (Int × Int) (Int)) :=
  match x with
  | (x15, x16) => (bif (decide (x16 < (a0.length : Int))) then ((idx a0 x16).bind fun b35 => ((bif (b35.Final != 0) then some (true) else some ((decide (a1 < b35.End))))).bind fun x40 => (bif x40 then some (x15) else (whl (spec_DueIn_l0 b35) (x15, 0)).bind fun x48 => some (x48))).bind fun x30 => some (LR.next (x30, (IntKind.i64.wrap (x16 + 1)))) else some (LR.done (x15)))
noncomputable def spec_DueIn (a0 : List Out) (a1 : Int) : Option (Int × Bool) :=
  ((spec_GoodOuts a0).bind fun b9 => (bif (!b9) then some (true) else (spec_l1In a1 0 200).bind fun b10 => some ((!b10)))).bind fun x4 => (bif x4 then some (0, false) else (whl (spec_DueIn_l1 a0 a1) (0, 0)).bind fun x17 => some (x17, true))
theorem spec_DueIn_w {a0 : List Out} {a1 : Int} {r : (Int × Bool)} (h : spec_DueIn a0 a1 = some r) {F : List It} {H : Heap} (hS : Own H (F)) {P : AV → Heap → Prop} (hP : ∀ H', Own H' (F) → P (.tup [.int .i64 r.1, .bool r.2]) H') : ACall C 20 [.fz (a0.map e_Out), .int .i64 a1] H P := by
  refine acall_of gC (res := [.tmp 4, .tmp 5]) (n := 49) rfl rfl rfl rfl fun K0 hK0 => ?_
  simp only [W, Nat.reduceSub, Nat.reduceAdd, List.replicate]
  unfold spec_DueIn at h
  refine w_seq fun K1 hK1 => ?_
  refine w_reg gC ?_
  try simp only [W, Nat.reduceAdd]
  refine seq_n hK1 ?_
  refine w_seq fun K2 hK2 => ?_
  refine w_seq fun K3 hK3 => ?_
  obtain ⟨y5, h, g6⟩ := Option.bind_eq_some_iff.1 h
  refine w_join gC (fun s H => ∃ x4 : Bool, y5 = (x4) ∧ s = [.fz (a0.map e_Out), .int .i64 a1, u, u, u, u, u, u, u, u, u, u, u, u, u, u, u, u, .bool x4, u, u, u, u, u, u, u, u, u, u, u, u, u, u, u, u, u, u, u, u, u, u, u, u, u, u, u, u, u, u] ∧ Own H (F)) (fun K7 hK7 => ?_) (fun s H hq => ?_)
  · refine w_seq fun K8 hK8 => ?_
    refine w_reg gC ?_
    try simp only [W, Nat.reduceAdd]
    refine w_call h fun b9 hb9 h => ?_
    refine spec_GoodOuts_w hb9 hS fun H hS => ?_
    try simp only [W]
    refine w_grdT h (fun hc h => ?_) (fun hc h => ?_)
    · try simp only [W, hc]
      refine seq_n hK8 ?_
      refine w_kill ?_
      exact cut_n hK7 ⟨_, (Option.some.inj h).symm, rfl, hS⟩
    · try simp only [W, hc]
      refine w_call h fun b10 hb10 h => ?_
      refine spec_l1In_w hb10 hS fun H hS => ?_
      try simp only [W, reduceIte, Bool.false_eq_true]
      refine seq_n hK8 ?_
      refine w_kill ?_
      exact cut_n hK7 ⟨_, (Option.some.inj h).symm, rfl, hS⟩
  · obtain ⟨x4, rfl, rfl, hS⟩ := hq
    replace h := g6
    try dsimp only at h
    refine seq_n hK3 ?_
    refine w_if ?_
    simp only [W]
    refine w_cnd h (fun hc h => ?_) (fun hc h => ?_)
    · refine w_seq fun K11 hK11 => ?_
      refine w_reg gC ?_
      try simp only [W, Nat.reduceAdd]
      refine seq_n hK11 ?_
      refine w_ret ?_
      refine seq_r hK2 ?_
      refine fin_r2 hK0 rfl rfl ?_
      try obtain rfl := Option.some.inj h
      exact hP _ hS
    · refine w_skip ?_
      refine seq_n hK2 ?_
      refine w_seq fun K12 hK12 => ?_
      refine w_reg gC ?_
      try simp only [W, Nat.reduceAdd]
      refine seq_n hK12 ?_
      refine w_seq fun K13 hK13 => ?_
      refine w_seq fun K14 hK14 => ?_
      refine w_reg gC ?_
      try simp only [W, EE, Nat.reduceAdd]
      refine seq_n hK14 ?_
      obtain ⟨y18, hw19, g25⟩ := Option.bind_eq_some_iff.1 h
      refine w_join gC (fun s H => ∃ x17 : Int, y18 = (x17) ∧ s = [u, u, u, u, u, u, .int .i64 x17, u, u, u, u, u, u, u, u, u, u, u, u, u, u, u, u, u, u, u, u, u, u, u, u, u, u, u, u, u, u, u, u, u, u, u, u, u, u, u, u, u, u] ∧ Own H (F)) (fun K20 hK20 => ?_) (fun s H hq => ?_)
      · refine w_blk fun K21 hK21 => ?_
        refine w_loop gC hw19 (fun x s H => match x with | (x15, x16) => s = [u, .int .i64 a1, u, u, u, u, .int .i64 x15, u, u, u, u, u, u, u, u, u, u, u, u, .fz (a0.map e_Out), .int .i64 (a0.length : Int), .int .i64 x16, u, u, u, u, u, u, u, u, u, u, u, u, u, u, u, u, u, u, u, u, u, u, u, u, u, u, u] ∧ Own H (F)) ⟨rfl, hS⟩ (fun x y24 s H h hd23 hi K22 hK22 => ?_)
        obtain ⟨x15, x16⟩ := x
        try dsimp only at hi
        obtain ⟨rfl, hS⟩ := hi
        simp only [spec_DueIn_l1] at h
        refine w_seq fun K26 hK26 => ?_
        refine w_reg gC ?_
        try simp only [W, EE, Nat.reduceAdd]
        refine seq_n hK26 ?_
        refine w_seq fun K27 hK27 => ?_
        refine w_if ?_
        simp only [W]
        refine w_cnd h (fun hc h => ?_) (fun hc h => ?_)
        · refine w_skip ?_
          refine seq_n hK27 ?_
          refine w_seq fun K28 hK28 => ?_
          obtain ⟨y31, h, g32⟩ := Option.bind_eq_some_iff.1 h
          refine w_join gC (fun s H => ∃ x30 : Int, y31 = (x30) ∧ s = [u, .int .i64 a1, u, u, u, u, .int .i64 x30, u, u, u, u, u, u, u, u, u, u, u, u, .fz (a0.map e_Out), .int .i64 (a0.length : Int), .int .i64 x16, u, u, u, u, u, u, u, u, u, u, u, u, u, u, u, u, u, u, u, u, u, u, u, u, u, u, u] ∧ Own H (F)) (fun K33 hK33 => ?_) (fun s H hq => ?_)
          · refine w_blk fun K29 hK29 => ?_
            refine w_seq fun K34 hK34 => ?_
            refine w_reg gC ?_
            try simp only [W, EE, Nat.reduceAdd]
            refine w_fz rfl rfl rfl (fun _ => rfl) h fun b35 hb35 h => ?_
            try simp only [W, EE, EN, reduceIte, Nat.reduceAdd, Nat.reduceLeDiff]
            refine w_alloc hS rfl rfl fun ip36 wp36 H hS => ?_
            try simp only [W]
            refine w_stv (a := .agg [.str b35.Text, .int .i64 b35.End, .fz (b35.Heard.map AV.bool), .int .i64 b35.Final]) (y' := .agg [.str b35.Text, .int .i64 b35.End, .fz (b35.Heard.map AV.bool), .int .i64 b35.Final]) 0 hS rfl rfl rfl rfl rfl rfl rfl rfl fun H hS => ?_
            try simp only [W]
            refine seq_n hK34 ?_
            refine w_seq fun K38 hK38 => ?_
            refine w_seq fun K39 hK39 => ?_
            obtain ⟨y41, h, g42⟩ := Option.bind_eq_some_iff.1 h
            refine w_join gC (fun s H => ∃ x40 : Bool, y41 = (x40) ∧ s = [u, .int .i64 a1, u, u, u, u, .int .i64 x15, u, .ptr ip36 wp36 0 0, u, u, u, u, u, u, u, u, u, u, .fz (a0.map e_Out), .int .i64 (a0.length : Int), .int .i64 x16, u, u, u, u, u, u, u, u, u, u, u, .bool x40, u, u, u, u, u, u, u, u, u, u, u, u, u, u, u] ∧ Own H (⟨.ptr ip36 wp36 0 0, 4, [.agg [.str b35.Text, .int .i64 b35.End, .fz (b35.Heard.map AV.bool), .int .i64 b35.Final]]⟩ :: F)) (fun K43 hK43 => ?_) (fun s H hq => ?_)
            · refine w_seq fun K44 hK44 => ?_
              refine w_reg gC ?_
              try simp only [W, EE, Nat.reduceAdd, Nat.reduceBEq, hS.var 0 rfl]
              refine w_grdT h (fun hc h => ?_) (fun hc h => ?_)
              · try simp only [W, hc]
                refine seq_n hK44 ?_
                refine w_kill ?_
                exact cut_n hK43 ⟨_, (Option.some.inj h).symm, rfl, hS⟩
              · try simp only [W, EE, reduceIte, Nat.reduceAdd, Nat.reduceBEq, Bool.false_eq_true, hS.var 0 rfl, hc]
                refine seq_n hK44 ?_
                refine w_kill ?_
                exact cut_n hK43 ⟨_, (Option.some.inj h).symm, rfl, hS⟩
            · obtain ⟨x40, rfl, rfl, hS⟩ := hq
              replace h := g42
              try dsimp only at h
              refine seq_n hK39 ?_
              refine w_if ?_
              simp only [W]
              refine w_cnd h (fun hc h => ?_) (fun hc h => ?_)
              · refine w_exit ?_
                refine seq_x hK38 ?_
                refine blk_e hK29 ?_
                exact cut_n hK33 ⟨_, (Option.some.inj h).symm, rfl, (hS.sel 1 [] (by decide))⟩
              · refine w_skip ?_
                refine seq_n hK38 ?_
                refine w_seq fun K45 hK45 => ?_
                refine w_reg gC ?_
                try simp only [W, EE, Nat.reduceAdd, Nat.reduceBEq, hS.var 0 rfl]
                refine seq_n hK45 ?_
                obtain ⟨y49, hw50, g56⟩ := Option.bind_eq_some_iff.1 h
                refine w_join gC (fun s H => ∃ x48 : Int, y49 = (x48) ∧ s = [u, .int .i64 a1, u, u, u, u, .int .i64 x48, u, u, u, u, u, u, u, u, u, u, u, u, .fz (a0.map e_Out), .int .i64 (a0.length : Int), .int .i64 x16, u, u, u, u, u, u, u, u, u, u, u, u, u, u, u, u, u, u, u, u, u, u, u, u, u, u, u] ∧ Own H (F)) (fun K51 hK51 => ?_) (fun s H hq => ?_)
                · refine w_blk fun K52 hK52 => ?_
                  refine w_loop gC hw50 (fun x s H => match x with | (x46, x47) => s = [u, .int .i64 a1, u, u, u, u, .int .i64 x46, u, u, u, u, u, u, u, u, u, u, u, u, .fz (a0.map e_Out), .int .i64 (a0.length : Int), .int .i64 x16, u, u, u, u, u, u, u, u, u, u, u, u, u, .fz (b35.Heard.map AV.bool), .int .i64 (b35.Heard.length : Int), .int .i64 x47, u, u, u, u, u, u, u, u, u, u, u] ∧ Own H (F)) ⟨rfl, (hS.sel 1 [] (by decide))⟩ (fun x y55 s H h hd54 hi K53 hK53 => ?_)
                  obtain ⟨x46, x47⟩ := x
                  try dsimp only at hi
                  obtain ⟨rfl, hS⟩ := hi
                  simp only [spec_DueIn_l0] at h
                  refine w_seq fun K57 hK57 => ?_
                  refine w_reg gC ?_
                  try simp only [W, EE, Nat.reduceAdd]
                  refine seq_n hK57 ?_
                  refine w_seq fun K58 hK58 => ?_
                  refine w_if ?_
                  simp only [W]
                  refine w_cnd h (fun hc h => ?_) (fun hc h => ?_)
                  · refine w_skip ?_
                    refine seq_n hK58 ?_
                    refine w_seq fun K59 hK59 => ?_
                    refine w_blk fun K60 hK60 => ?_
                    refine w_seq fun K61 hK61 => ?_
                    refine w_reg gC ?_
                    try simp only [W, EE, Nat.reduceAdd]
                    refine w_fz rfl rfl rfl (fun _ => rfl) h fun b62 hb62 h => ?_
                    try simp only [W, EE]
                    refine seq_n hK61 ?_
                    refine w_reg gC ?_
                    try simp only [W, Nat.reduceAdd]
                    refine w_call h fun b63 hb63 h => ?_
                    refine spec_l1Bit_w hb63 hS fun H hS => ?_
                    try simp only [W, EE]
                    refine blk_n0 hK60 ?_
                    refine seq_n hK59 ?_
                    refine w_reg gC ?_
                    try simp only [W, EE, Nat.reduceAdd]
                    exact lp_n hK53 h ⟨rfl, hS⟩
                  · refine w_exit ?_
                    refine seq_x hK58 ?_
                    try obtain rfl := Option.some.inj h
                    obtain rfl := hd54 _ rfl
                    have h : (some (x46) : Option (Int)) = some (x46) := rfl
                    refine lp_x hK53 ?_
                    refine blk_e hK52 ?_
                    exact cut_n hK51 ⟨_, (Option.some.inj h).symm, rfl, hS⟩
                · obtain ⟨x48, rfl, rfl, hS⟩ := hq
                  replace h := g56
                  try dsimp only at h
                  refine blk_n hK29 ?_
                  exact cut_n hK33 ⟨_, (Option.some.inj h).symm, rfl, hS⟩
          · obtain ⟨x30, rfl, rfl, hS⟩ := hq
            replace h := g32
            try dsimp only at h
            refine seq_n hK28 ?_
            refine w_reg gC ?_
            try simp only [W, EE, Nat.reduceAdd]
            exact lp_n hK22 h ⟨rfl, hS⟩
        · refine w_exit ?_
          refine seq_x hK27 ?_
          try obtain rfl := Option.some.inj h
          obtain rfl := hd23 _ rfl
          have h : (some (x15) : Option (Int)) = some (x15) := rfl
          refine lp_x hK22 ?_
          refine blk_e hK21 ?_
          exact cut_n hK20 ⟨_, (Option.some.inj h).symm, rfl, hS⟩
      · obtain ⟨x17, rfl, rfl, hS⟩ := hq
        replace h := g25
        try dsimp only at h
        refine seq_n hK13 ?_
        refine w_seq fun K68 hK68 => ?_
        refine w_reg gC ?_
        try simp only [W, Nat.reduceAdd]
        refine seq_n hK68 ?_
        refine w_ret ?_
        refine fin_r2 hK0 rfl rfl ?_
        try obtain rfl := Option.some.inj h
        exact hP _ hS
noncomputable def impl_DueIn_l0 (b35 : Out) (x : (Int × Int)) : Option (LR (Int × Int) (Int)) :=
  match x with
  | (x46, x47) => (bif (decide (x47 < (b35.Heard.length : Int))) then ((idx b35.Heard x47).bind fun b66 => ((bif (!b66) then some ((IntKind.i64.wrap (x46 + 1))) else some (x46))).bind fun x68 => some (x68)).bind fun x61 => some (LR.next (x61, (IntKind.i64.wrap (x47 + 1)))) else some (LR.done (x46)))
noncomputable def impl_DueIn_l1 (a0 : List Out) (a1 : Int) (x : (Int × Int)) : Option (LR (Int × Int) (Int)) :=
  match x with
  | (x15, x16) => (bif (decide (x16 < (a0.length : Int))) then ((idx a0 x16).bind fun b35 => ((bif (b35.Final != 0) then some (true) else some ((decide (a1 < b35.End))))).bind fun x40 => (bif x40 then some (x15) else (whl (impl_DueIn_l0 b35) (x15, 0)).bind fun x48 => some (x48))).bind fun x30 => some (LR.next (x30, (IntKind.i64.wrap (x16 + 1)))) else some (LR.done (x15)))
noncomputable def impl_DueIn (a0 : List Out) (a1 : Int) : Option (Int × Bool) :=
  ((impl_GoodOuts a0).bind fun b9 => (bif (!b9) then some (true) else (impl_in a1 0 200).bind fun b10 => some ((!b10)))).bind fun x4 => (bif x4 then some (0, false) else (whl (impl_DueIn_l1 a0 a1) (0, 0)).bind fun x17 => some (x17, true))
theorem impl_DueIn_w {a0 : List Out} {a1 : Int} {r : (Int × Bool)} (h : impl_DueIn a0 a1 = some r) {F : List It} {H : Heap} (hS : Own H (F)) {P : AV → Heap → Prop} (hP : ∀ H', Own H' (F) → P (.tup [.int .i64 r.1, .bool r.2]) H') : ACall C 21 [.fz (a0.map e_Out), .int .i64 a1] H P := by
  refine acall_of gC (res := [.tmp 4, .tmp 5]) (n := 48) rfl rfl rfl rfl fun K0 hK0 => ?_
  simp only [W, Nat.reduceSub, Nat.reduceAdd, List.replicate]
  unfold impl_DueIn at h
  refine w_seq fun K1 hK1 => ?_
  refine w_reg gC ?_
  try simp only [W, Nat.reduceAdd]
  refine seq_n hK1 ?_
  refine w_seq fun K2 hK2 => ?_
  refine w_seq fun K3 hK3 => ?_
  obtain ⟨y5, h, g6⟩ := Option.bind_eq_some_iff.1 h
  refine w_join gC (fun s H => ∃ x4 : Bool, y5 = (x4) ∧ s = [.fz (a0.map e_Out), .int .i64 a1, u, u, u, u, u, u, u, u, u, u, u, u, u, u, u, u, .bool x4, u, u, u, u, u, u, u, u, u, u, u, u, u, u, u, u, u, u, u, u, u, u, u, u, u, u, u, u, u] ∧ Own H (F)) (fun K7 hK7 => ?_) (fun s H hq => ?_)
  · refine w_seq fun K8 hK8 => ?_
    refine w_reg gC ?_
    try simp only [W, Nat.reduceAdd]
    refine w_call h fun b9 hb9 h => ?_
    refine impl_GoodOuts_w hb9 hS fun H hS => ?_
    try simp only [W]
    refine w_grdT h (fun hc h => ?_) (fun hc h => ?_)
    · try simp only [W, hc]
      refine seq_n hK8 ?_
      refine w_kill ?_
      exact cut_n hK7 ⟨_, (Option.some.inj h).symm, rfl, hS⟩
    · try simp only [W, hc]
      refine w_call h fun b10 hb10 h => ?_
      refine impl_in_w hb10 hS fun H hS => ?_
      try simp only [W, reduceIte, Bool.false_eq_true]
      refine seq_n hK8 ?_
      refine w_kill ?_
      exact cut_n hK7 ⟨_, (Option.some.inj h).symm, rfl, hS⟩
  · obtain ⟨x4, rfl, rfl, hS⟩ := hq
    replace h := g6
    try dsimp only at h
    refine seq_n hK3 ?_
    refine w_if ?_
    simp only [W]
    refine w_cnd h (fun hc h => ?_) (fun hc h => ?_)
    · refine w_seq fun K11 hK11 => ?_
      refine w_reg gC ?_
      try simp only [W, Nat.reduceAdd]
      refine seq_n hK11 ?_
      refine w_ret ?_
      refine seq_r hK2 ?_
      refine fin_r2 hK0 rfl rfl ?_
      try obtain rfl := Option.some.inj h
      exact hP _ hS
    · refine w_skip ?_
      refine seq_n hK2 ?_
      refine w_seq fun K12 hK12 => ?_
      refine w_reg gC ?_
      try simp only [W, Nat.reduceAdd]
      refine seq_n hK12 ?_
      refine w_seq fun K13 hK13 => ?_
      refine w_seq fun K14 hK14 => ?_
      refine w_reg gC ?_
      try simp only [W, EE, Nat.reduceAdd]
      refine seq_n hK14 ?_
      obtain ⟨y18, hw19, g25⟩ := Option.bind_eq_some_iff.1 h
      refine w_join gC (fun s H => ∃ x17 : Int, y18 = (x17) ∧ s = [u, u, u, u, u, u, .int .i64 x17, u, u, u, u, u, u, u, u, u, u, u, u, u, u, u, u, u, u, u, u, u, u, u, u, u, u, u, u, u, u, u, u, u, u, u, u, u, u, u, u, u] ∧ Own H (F)) (fun K20 hK20 => ?_) (fun s H hq => ?_)
      · refine w_blk fun K21 hK21 => ?_
        refine w_loop gC hw19 (fun x s H => match x with | (x15, x16) => s = [u, .int .i64 a1, u, u, u, u, .int .i64 x15, u, u, u, u, u, u, u, u, u, u, u, u, .fz (a0.map e_Out), .int .i64 (a0.length : Int), .int .i64 x16, u, u, u, u, u, u, u, u, u, u, u, u, u, u, u, u, u, u, u, u, u, u, u, u, u, u] ∧ Own H (F)) ⟨rfl, hS⟩ (fun x y24 s H h hd23 hi K22 hK22 => ?_)
        obtain ⟨x15, x16⟩ := x
        try dsimp only at hi
        obtain ⟨rfl, hS⟩ := hi
        simp only [impl_DueIn_l1] at h
        refine w_seq fun K26 hK26 => ?_
        refine w_reg gC ?_
        try simp only [W, EE, Nat.reduceAdd]
        refine seq_n hK26 ?_
        refine w_seq fun K27 hK27 => ?_
        refine w_if ?_
        simp only [W]
        refine w_cnd h (fun hc h => ?_) (fun hc h => ?_)
        · refine w_skip ?_
          refine seq_n hK27 ?_
          refine w_seq fun K28 hK28 => ?_
          obtain ⟨y31, h, g32⟩ := Option.bind_eq_some_iff.1 h
          refine w_join gC (fun s H => ∃ x30 : Int, y31 = (x30) ∧ s = [u, .int .i64 a1, u, u, u, u, .int .i64 x30, u, u, u, u, u, u, u, u, u, u, u, u, .fz (a0.map e_Out), .int .i64 (a0.length : Int), .int .i64 x16, u, u, u, u, u, u, u, u, u, u, u, u, u, u, u, u, u, u, u, u, u, u, u, u, u, u] ∧ Own H (F)) (fun K33 hK33 => ?_) (fun s H hq => ?_)
          · refine w_blk fun K29 hK29 => ?_
            refine w_seq fun K34 hK34 => ?_
            refine w_reg gC ?_
            try simp only [W, EE, Nat.reduceAdd]
            refine w_fz rfl rfl rfl (fun _ => rfl) h fun b35 hb35 h => ?_
            try simp only [W, EE, EN, reduceIte, Nat.reduceAdd, Nat.reduceLeDiff]
            refine w_alloc hS rfl rfl fun ip36 wp36 H hS => ?_
            try simp only [W]
            refine w_stv (a := .agg [.str b35.Text, .int .i64 b35.End, .fz (b35.Heard.map AV.bool), .int .i64 b35.Final]) (y' := .agg [.str b35.Text, .int .i64 b35.End, .fz (b35.Heard.map AV.bool), .int .i64 b35.Final]) 0 hS rfl rfl rfl rfl rfl rfl rfl rfl fun H hS => ?_
            try simp only [W]
            refine seq_n hK34 ?_
            refine w_seq fun K38 hK38 => ?_
            refine w_seq fun K39 hK39 => ?_
            obtain ⟨y41, h, g42⟩ := Option.bind_eq_some_iff.1 h
            refine w_join gC (fun s H => ∃ x40 : Bool, y41 = (x40) ∧ s = [u, .int .i64 a1, u, u, u, u, .int .i64 x15, u, .ptr ip36 wp36 0 0, u, u, u, u, u, u, u, u, u, u, .fz (a0.map e_Out), .int .i64 (a0.length : Int), .int .i64 x16, u, u, u, u, u, u, u, u, u, u, u, .bool x40, u, u, u, u, u, u, u, u, u, u, u, u, u, u] ∧ Own H (⟨.ptr ip36 wp36 0 0, 4, [.agg [.str b35.Text, .int .i64 b35.End, .fz (b35.Heard.map AV.bool), .int .i64 b35.Final]]⟩ :: F)) (fun K43 hK43 => ?_) (fun s H hq => ?_)
            · refine w_seq fun K44 hK44 => ?_
              refine w_reg gC ?_
              try simp only [W, EE, Nat.reduceAdd, Nat.reduceBEq, hS.var 0 rfl]
              refine w_grdT h (fun hc h => ?_) (fun hc h => ?_)
              · try simp only [W, hc]
                refine seq_n hK44 ?_
                refine w_kill ?_
                exact cut_n hK43 ⟨_, (Option.some.inj h).symm, rfl, hS⟩
              · try simp only [W, EE, reduceIte, Nat.reduceAdd, Nat.reduceBEq, Bool.false_eq_true, hS.var 0 rfl, hc]
                refine seq_n hK44 ?_
                refine w_kill ?_
                exact cut_n hK43 ⟨_, (Option.some.inj h).symm, rfl, hS⟩
            · obtain ⟨x40, rfl, rfl, hS⟩ := hq
              replace h := g42
              try dsimp only at h
              refine seq_n hK39 ?_
              refine w_if ?_
              simp only [W]
              refine w_cnd h (fun hc h => ?_) (fun hc h => ?_)
              · refine w_exit ?_
                refine seq_x hK38 ?_
                refine blk_e hK29 ?_
                exact cut_n hK33 ⟨_, (Option.some.inj h).symm, rfl, (hS.sel 1 [] (by decide))⟩
              · refine w_skip ?_
                refine seq_n hK38 ?_
                refine w_seq fun K45 hK45 => ?_
                refine w_reg gC ?_
                try simp only [W, EE, Nat.reduceAdd, Nat.reduceBEq, hS.var 0 rfl]
                refine seq_n hK45 ?_
                obtain ⟨y49, hw50, g56⟩ := Option.bind_eq_some_iff.1 h
                refine w_join gC (fun s H => ∃ x48 : Int, y49 = (x48) ∧ s = [u, .int .i64 a1, u, u, u, u, .int .i64 x48, u, u, u, u, u, u, u, u, u, u, u, u, .fz (a0.map e_Out), .int .i64 (a0.length : Int), .int .i64 x16, u, u, u, u, u, u, u, u, u, u, u, u, u, u, u, u, u, u, u, u, u, u, u, u, u, u] ∧ Own H (F)) (fun K51 hK51 => ?_) (fun s H hq => ?_)
                · refine w_blk fun K52 hK52 => ?_
                  refine w_loop gC hw50 (fun x s H => match x with | (x46, x47) => s = [u, .int .i64 a1, u, u, u, u, .int .i64 x46, u, u, u, u, u, u, u, u, u, u, u, u, .fz (a0.map e_Out), .int .i64 (a0.length : Int), .int .i64 x16, u, u, u, u, u, u, u, u, u, u, u, u, u, .fz (b35.Heard.map AV.bool), .int .i64 (b35.Heard.length : Int), .int .i64 x47, u, u, u, u, u, u, u, u, u, u] ∧ Own H (F)) ⟨rfl, (hS.sel 1 [] (by decide))⟩ (fun x y55 s H h hd54 hi K53 hK53 => ?_)
                  obtain ⟨x46, x47⟩ := x
                  try dsimp only at hi
                  obtain ⟨rfl, hS⟩ := hi
                  simp only [impl_DueIn_l0] at h
                  refine w_seq fun K57 hK57 => ?_
                  refine w_reg gC ?_
                  try simp only [W, EE, Nat.reduceAdd]
                  refine seq_n hK57 ?_
                  refine w_seq fun K58 hK58 => ?_
                  refine w_if ?_
                  simp only [W]
                  refine w_cnd h (fun hc h => ?_) (fun hc h => ?_)
                  · refine w_skip ?_
                    refine seq_n hK58 ?_
                    refine w_seq fun K59 hK59 => ?_
                    obtain ⟨y62, h, g63⟩ := Option.bind_eq_some_iff.1 h
                    refine w_join gC (fun s H => ∃ x61 : Int, y62 = (x61) ∧ s = [u, .int .i64 a1, u, u, u, u, .int .i64 x61, u, u, u, u, u, u, u, u, u, u, u, u, .fz (a0.map e_Out), .int .i64 (a0.length : Int), .int .i64 x16, u, u, u, u, u, u, u, u, u, u, u, u, u, .fz (b35.Heard.map AV.bool), .int .i64 (b35.Heard.length : Int), .int .i64 x47, u, u, u, u, u, u, u, u, u, u] ∧ Own H (F)) (fun K64 hK64 => ?_) (fun s H hq => ?_)
                    · refine w_blk fun K60 hK60 => ?_
                      refine w_seq fun K65 hK65 => ?_
                      refine w_reg gC ?_
                      try simp only [W, EE, Nat.reduceAdd]
                      refine w_fz rfl rfl rfl (fun _ => rfl) h fun b66 hb66 h => ?_
                      try simp only [W, EE]
                      refine seq_n hK65 ?_
                      refine w_seq fun K67 hK67 => ?_
                      refine w_reg gC ?_
                      try simp only [W, Nat.reduceAdd]
                      refine seq_n hK67 ?_
                      obtain ⟨y69, h, g70⟩ := Option.bind_eq_some_iff.1 h
                      refine w_join gC (fun s H => ∃ x68 : Int, y69 = (x68) ∧ s = [u, .int .i64 a1, u, u, u, u, .int .i64 x68, u, u, u, u, u, u, u, u, u, u, u, u, .fz (a0.map e_Out), .int .i64 (a0.length : Int), .int .i64 x16, u, u, u, u, u, u, u, u, u, u, u, u, u, .fz (b35.Heard.map AV.bool), .int .i64 (b35.Heard.length : Int), .int .i64 x47, u, u, u, u, u, u, u, u, u, u] ∧ Own H (F)) (fun K71 hK71 => ?_) (fun s H hq => ?_)
                      · refine w_seq fun K72 hK72 => ?_
                        refine w_if ?_
                        simp only [W]
                        refine w_cnd h (fun hc h => ?_) (fun hc h => ?_)
                        · refine w_reg gC ?_
                          try simp only [W, EE, Nat.reduceAdd]
                          refine seq_n hK72 ?_
                          refine w_kill ?_
                          exact cut_n hK71 ⟨_, (Option.some.inj h).symm, rfl, hS⟩
                        · refine w_skip ?_
                          refine seq_n hK72 ?_
                          refine w_kill ?_
                          exact cut_n hK71 ⟨_, (Option.some.inj h).symm, rfl, hS⟩
                      · obtain ⟨x68, rfl, rfl, hS⟩ := hq
                        replace h := g70
                        try dsimp only at h
                        refine blk_n hK60 ?_
                        exact cut_n hK64 ⟨_, (Option.some.inj h).symm, rfl, hS⟩
                    · obtain ⟨x61, rfl, rfl, hS⟩ := hq
                      replace h := g63
                      try dsimp only at h
                      refine seq_n hK59 ?_
                      refine w_reg gC ?_
                      try simp only [W, EE, Nat.reduceAdd]
                      exact lp_n hK53 h ⟨rfl, hS⟩
                  · refine w_exit ?_
                    refine seq_x hK58 ?_
                    try obtain rfl := Option.some.inj h
                    obtain rfl := hd54 _ rfl
                    have h : (some (x46) : Option (Int)) = some (x46) := rfl
                    refine lp_x hK53 ?_
                    refine blk_e hK52 ?_
                    exact cut_n hK51 ⟨_, (Option.some.inj h).symm, rfl, hS⟩
                · obtain ⟨x48, rfl, rfl, hS⟩ := hq
                  replace h := g56
                  try dsimp only at h
                  refine blk_n hK29 ?_
                  exact cut_n hK33 ⟨_, (Option.some.inj h).symm, rfl, hS⟩
          · obtain ⟨x30, rfl, rfl, hS⟩ := hq
            replace h := g32
            try dsimp only at h
            refine seq_n hK28 ?_
            refine w_reg gC ?_
            try simp only [W, EE, Nat.reduceAdd]
            exact lp_n hK22 h ⟨rfl, hS⟩
        · refine w_exit ?_
          refine seq_x hK27 ?_
          try obtain rfl := Option.some.inj h
          obtain rfl := hd23 _ rfl
          have h : (some (x15) : Option (Int)) = some (x15) := rfl
          refine lp_x hK22 ?_
          refine blk_e hK21 ?_
          exact cut_n hK20 ⟨_, (Option.some.inj h).symm, rfl, hS⟩
      · obtain ⟨x17, rfl, rfl, hS⟩ := hq
        replace h := g25
        try dsimp only at h
        refine seq_n hK13 ?_
        refine w_seq fun K77 hK77 => ?_
        refine w_reg gC ?_
        try simp only [W, Nat.reduceAdd]
        refine seq_n hK77 ?_
        refine w_ret ?_
        refine fin_r2 hK0 rfl rfl ?_
        try obtain rfl := Option.some.inj h
        exact hP _ hS
noncomputable def laws_FnExactDueIn (a0 : List Out) (a1 : Int) : Option (Bool) :=
  (laws_szOutS a0 1048576).bind fun b4 => (bif (decide (b4 < 0)) then some true else (laws_toOutS a0).bind fun b9 => (spec_DueIn b9 a1).bind fun (b13, b14) => (laws_toOutS a0).bind fun b16 => (impl_DueIn b16 a1).bind fun (b21, b22) => ((bif (b21 != b13) then some (true) else some ((!(b22 == b14))))).bind fun x25 => (bif x25 then some false else (laws_toOutS a0).bind fun b33 => (laws_eqOutS b16 b33).bind fun b36 => (bif (!b36) then some false else some true)))
theorem laws_FnExactDueIn_w {a0 : List Out} {a1 : Int} {r : (Bool)} (h : laws_FnExactDueIn a0 a1 = some r) {F : List It} {H : Heap} (hS : Own H (F)) {P : AV → Heap → Prop} (hP : ∀ H', Own H' (F) → P (.bool r) H') : ACall C 4 [.fz (a0.map e_Out), .int .i64 a1] H P := by
  refine acall_of gC (res := [.tmp 4]) (n := 44) rfl rfl rfl rfl fun K0 hK0 => ?_
  simp only [W, Nat.reduceSub, Nat.reduceAdd, List.replicate]
  unfold laws_FnExactDueIn at h
  refine w_seq fun K1 hK1 => ?_
  refine w_reg gC ?_
  try simp only [W, Nat.reduceAdd]
  refine seq_n hK1 ?_
  refine w_seq fun K2 hK2 => ?_
  refine w_reg gC ?_
  try simp only [W, Nat.reduceAdd]
  refine seq_n hK2 ?_
  refine w_seq fun K3 hK3 => ?_
  refine w_reg gC ?_
  try simp only [W, Nat.reduceAdd]
  refine w_call h fun b4 hb4 h => ?_
  refine laws_szOutS_w hb4 hS fun H hS => ?_
  try simp only [W]
  refine seq_n hK3 ?_
  refine w_seq fun K5 hK5 => ?_
  refine w_seq fun K6 hK6 => ?_
  refine w_reg gC ?_
  try simp only [W, EE, Nat.reduceAdd]
  refine seq_n hK6 ?_
  refine w_if ?_
  simp only [W]
  refine w_cnd h (fun hc h => ?_) (fun hc h => ?_)
  · refine w_seq fun K7 hK7 => ?_
    refine w_reg gC ?_
    try simp only [W, Nat.reduceAdd]
    refine seq_n hK7 ?_
    refine w_ret ?_
    refine seq_r hK5 ?_
    refine fin_r1 hK0 rfl ?_
    try obtain rfl := Option.some.inj h
    exact hP _ hS
  · refine w_skip ?_
    refine seq_n hK5 ?_
    refine w_seq fun K8 hK8 => ?_
    refine w_regF (fz := [(3, [([18], [.sl [.sc, .sc, .sl [.sc], .sc]])])]) gC ?_
    try simp only [W, Nat.reduceAdd, Nat.reduceBEq]
    refine w_call h fun b9 hb9 h => ?_
    refine laws_toOutS_w hb9 hS fun v10 qv10 H hS => ?_
    try simp only [W, Nat.reduceAdd, Nat.reduceBEq]
    refine FZ_own 0 hS rfl qv10 rfl (fun _ _ => by simp [takeE, takeT, takeC, plainA, e_Out]) (fun _ => rfl) fun H hsame hS => ?_
    try simp only [W]
    refine w_call h fun b12 hb12 h => ?_
    obtain ⟨b13, b14⟩ := b12
    try dsimp only at h
    refine spec_DueIn_w hb12 hS fun H hS => ?_
    try simp only [W, Nat.reduceAdd, Nat.reduceBEq]
    refine seq_n hK8 ?_
    refine w_seq fun K15 hK15 => ?_
    refine w_reg gC ?_
    try simp only [W, Nat.reduceAdd]
    refine w_call h fun b16 hb16 h => ?_
    refine laws_toOutS_w hb16 hS fun v17 qv17 H hS => ?_
    try simp only [W]
    refine seq_n hK15 ?_
    refine w_seq fun K19 hK19 => ?_
    refine w_regF (fz := [(2, [([26, 8, 24], [.sl [.sc, .sc, .sl [.sc], .sc]])])]) gC ?_
    try simp only [W, Nat.reduceAdd, Nat.reduceBEq]
    refine FZ_own 0 hS rfl qv17 rfl (fun _ _ => by simp [takeE, takeT, takeC, plainA, e_Out]) (fun _ => rfl) fun H hsame hS => ?_
    simp only [W, hsame, if_true]
    try simp only [W, EE, EN, reduceIte, Nat.reduceAdd, Nat.reduceLeDiff, Nat.reduceBEq, Nat.reduceMul, Bool.false_eq_true]
    refine w_call h fun b20 hb20 h => ?_
    obtain ⟨b21, b22⟩ := b20
    try dsimp only at h
    refine impl_DueIn_w hb20 hS fun H hS => ?_
    try simp only [W, Nat.reduceAdd, Nat.reduceBEq]
    refine seq_n hK19 ?_
    refine w_seq fun K23 hK23 => ?_
    refine w_seq fun K24 hK24 => ?_
    obtain ⟨y26, h, g27⟩ := Option.bind_eq_some_iff.1 h
    refine w_join gC (fun s H => ∃ x25 : Bool, y26 = (x25) ∧ s = [.fz (a0.map e_Out), u, u, u, u, u, u, u, .fz (b16.map e_Out), u, u, u, u, u, u, u, u, u, u, u, u, u, u, u, u, u, u, u, u, u, u, u, u, u, u, u, u, u, .bool x25, u, u, u, u, u] ∧ Own H (F)) (fun K28 hK28 => ?_) (fun s H hq => ?_)
    · refine w_seq fun K29 hK29 => ?_
      refine w_reg gC ?_
      try simp only [W, EE, Nat.reduceAdd]
      refine w_grdT h (fun hc h => ?_) (fun hc h => ?_)
      · try simp only [W, hc]
        refine seq_n hK29 ?_
        refine w_kill ?_
        exact cut_n hK28 ⟨_, (Option.some.inj h).symm, rfl, hS⟩
      · try simp only [W, EE, hc]
        rw [b_bneq _ _ _ _ (h := rfl) rfl, resV_s]
        try simp only [W, reduceIte, Bool.false_eq_true]
        refine seq_n hK29 ?_
        refine w_kill ?_
        exact cut_n hK28 ⟨_, (Option.some.inj h).symm, rfl, hS⟩
    · obtain ⟨x25, rfl, rfl, hS⟩ := hq
      replace h := g27
      try dsimp only at h
      refine seq_n hK24 ?_
      refine w_if ?_
      simp only [W]
      refine w_cnd h (fun hc h => ?_) (fun hc h => ?_)
      · refine w_seq fun K30 hK30 => ?_
        refine w_reg gC ?_
        try simp only [W, Nat.reduceAdd]
        refine seq_n hK30 ?_
        refine w_ret ?_
        refine seq_r hK23 ?_
        refine fin_r1 hK0 rfl ?_
        try obtain rfl := Option.some.inj h
        exact hP _ hS
      · refine w_skip ?_
        refine seq_n hK23 ?_
        refine w_seq fun K31 hK31 => ?_
        refine w_seq fun K32 hK32 => ?_
        refine w_regF (fz := [(3, [([41], [.sl [.sc, .sc, .sl [.sc], .sc]])])]) gC ?_
        try simp only [W, Nat.reduceAdd, Nat.reduceBEq]
        refine w_call h fun b33 hb33 h => ?_
        refine laws_toOutS_w hb33 hS fun v34 qv34 H hS => ?_
        try simp only [W, Nat.reduceAdd]
        refine FZ_own 0 hS rfl qv34 rfl (fun _ _ => by simp [takeE, takeT, takeC, plainA, e_Out]) (fun _ => rfl) fun H hsame hS => ?_
        try simp only [W]
        refine w_call h fun b36 hb36 h => ?_
        refine laws_eqOutS_w hb36 hS fun H hS => ?_
        try simp only [W, Nat.reduceAdd, Nat.reduceBEq]
        refine seq_n hK32 ?_
        refine w_if ?_
        simp only [W]
        refine w_cnd h (fun hc h => ?_) (fun hc h => ?_)
        · refine w_seq fun K37 hK37 => ?_
          refine w_reg gC ?_
          try simp only [W, Nat.reduceAdd]
          refine seq_n hK37 ?_
          refine w_ret ?_
          refine seq_r hK31 ?_
          refine fin_r1 hK0 rfl ?_
          try obtain rfl := Option.some.inj h
          exact hP _ hS
        · refine w_skip ?_
          refine seq_n hK31 ?_
          refine w_seq fun K38 hK38 => ?_
          refine w_reg gC ?_
          try simp only [W, Nat.reduceAdd]
          refine seq_n hK38 ?_
          refine w_ret ?_
          refine fin_r1 hK0 rfl ?_
          try obtain rfl := Option.some.inj h
          exact hP _ hS
noncomputable def spec_l17First_l0 (a0 : Out) (x : (Int)) : Option (LR (Int) (LR Unit (Int))) :=
  match x with
  | (x6) => (bif (decide (x6 < (a0.Heard.length : Int))) then (idx a0.Heard x6).bind fun b20 => (bif (!b20) then some (LR.done (LR.done x6)) else some (LR.next ((IntKind.i64.wrap (x6 + 1))))) else some (LR.done (LR.next ())))
noncomputable def spec_l17First (a0 : Out) : Option (Int) :=
  (whl (spec_l17First_l0 a0) (0)).bind fun y => match y with | LR.next () => some (-1) | LR.done z => some z
theorem spec_l17First_w {a0 : Out} {r : (Int)} (h : spec_l17First a0 = some r) {F : List It} {H : Heap} (hS : Own H (F)) {P : AV → Heap → Prop} (hP : ∀ H', Own H' (F) → P (.int .i64 r) H') : ACall C 164 [.agg [.str a0.Text, .int .i64 a0.End, .fz (a0.Heard.map AV.bool), .int .i64 a0.Final]] H P := by
  refine acall_of gC (res := [.tmp 2]) (n := 17) rfl rfl rfl rfl fun K0 hK0 => ?_
  simp only [W, Nat.reduceSub, Nat.reduceAdd, List.replicate]
  unfold spec_l17First at h
  refine w_seq fun K1 hK1 => ?_
  refine w_reg gC ?_
  try simp only [W, Nat.reduceAdd]
  refine w_box hS rfl rfl rfl rfl fun ip2 wp2 H hS => ?_
  try simp only [W]
  refine seq_n hK1 ?_
  refine w_seq fun K4 hK4 => ?_
  refine w_seq fun K5 hK5 => ?_
  refine w_reg gC ?_
  try simp only [W, EE, Nat.reduceAdd, Nat.reduceBEq, hS.var 0 rfl]
  refine seq_n hK5 ?_
  obtain ⟨y7, hw8, g14⟩ := Option.bind_eq_some_iff.1 h
  refine w_join gC (fun s H => y7 = LR.next () ∧ s = [u, u, u, u, u, u, u, u, u, u, u, u, u, u, u, u, u] ∧ Own H (F)) (fun K9 hK9 => ?_) (fun s H hq => ?_)
  · refine w_blk fun K10 hK10 => ?_
    refine w_loop gC hw8 (fun x s H => s = [u, u, u, u, u, u, .fz (a0.Heard.map AV.bool), .int .i64 (a0.Heard.length : Int), .int .i64 x, u, u, u, u, u, u, u, u] ∧ Own H (F)) ⟨rfl, (hS.sel 1 [] (by decide))⟩ (fun x6 y13 s H h hd12 hi K11 hK11 => ?_)
    skip
    try dsimp only at hi
    obtain ⟨rfl, hS⟩ := hi
    simp only [spec_l17First_l0] at h
    refine w_seq fun K15 hK15 => ?_
    refine w_reg gC ?_
    try simp only [W, EE, Nat.reduceAdd]
    refine seq_n hK15 ?_
    refine w_seq fun K16 hK16 => ?_
    refine w_if ?_
    simp only [W]
    refine w_cnd h (fun hc h => ?_) (fun hc h => ?_)
    · refine w_skip ?_
      refine seq_n hK16 ?_
      refine w_seq fun K17 hK17 => ?_
      refine w_blk fun K18 hK18 => ?_
      refine w_seq fun K19 hK19 => ?_
      refine w_reg gC ?_
      try simp only [W, EE, Nat.reduceAdd]
      refine w_fz rfl rfl rfl (fun _ => rfl) h fun b20 hb20 h => ?_
      try simp only [W, EE]
      refine seq_n hK19 ?_
      refine w_seq fun K21 hK21 => ?_
      refine w_reg gC ?_
      try simp only [W, Nat.reduceAdd]
      refine seq_n hK21 ?_
      refine w_if ?_
      simp only [W]
      refine w_cnd h (fun hc h => ?_) (fun hc h => ?_)
      · refine w_seq fun K22 hK22 => ?_
        refine w_reg gC ?_
        try simp only [W, Nat.reduceAdd]
        refine seq_n hK22 ?_
        refine w_ret ?_
        refine blk_r hK18 ?_
        refine seq_r hK17 ?_
        try obtain rfl := Option.some.inj h
        obtain rfl := hd12 _ rfl
        have h : (some (LR.done x6) : Option (LR Unit (Int))) = some (LR.done x6) := rfl
        refine lp_r hK11 ?_
        refine blk_r hK10 ?_
        try obtain rfl := Option.some.inj h
        obtain rfl := Option.some.inj g14
        have h : (some x6 : Option (Int)) = some x6 := rfl
        refine cut_r hK9 ?_
        refine seq_r hK4 ?_
        refine fin_r1 hK0 rfl ?_
        try obtain rfl := Option.some.inj h
        exact hP _ hS
      · refine w_skip ?_
        refine blk_n0 hK18 ?_
        refine seq_n hK17 ?_
        refine w_reg gC ?_
        try simp only [W, EE, Nat.reduceAdd]
        exact lp_n hK11 h ⟨rfl, hS⟩
    · refine w_exit ?_
      refine seq_x hK16 ?_
      try obtain rfl := Option.some.inj h
      obtain rfl := hd12 _ rfl
      have h : (some (LR.next ()) : Option (LR Unit (Int))) = some (LR.next ()) := rfl
      refine lp_x hK11 ?_
      refine blk_e hK10 ?_
      exact cut_n hK9 ⟨(Option.some.inj h).symm, rfl, hS⟩
  · obtain ⟨rfl, rfl, hS⟩ := hq
    replace h := g14
    try dsimp only at h
    refine seq_n hK4 ?_
    refine w_seq fun K29 hK29 => ?_
    refine w_reg gC ?_
    try simp only [W, Nat.reduceAdd]
    refine seq_n hK29 ?_
    refine w_ret ?_
    refine fin_r1 hK0 rfl ?_
    try obtain rfl := Option.some.inj h
    exact hP _ hS
noncomputable def spec_l17Pick_l0 (a0 : List Out) (x : (Int × Int)) : Option (LR (Int × Int) (Int)) :=
  match x with
  | (x5, x6) => (bif (decide (x6 < (a0.length : Int))) then ((idx a0 x6).bind fun b25 => ((bif (b25.Final == 0) then (spec_l17First b25).bind fun b34 => (bif (decide (0 ≤ b34)) then (bif (decide (x5 < 0)) then some (true) else (idx a0 x5).bind fun b35 => some ((decide (b25.End < b35.End)))) else some (false)) else some (false))).bind fun x29 => ((bif x29 then some (x6) else some (x5))).bind fun x36 => some (x36)).bind fun x20 => some (LR.next (x20, (IntKind.i64.wrap (x6 + 1)))) else some (LR.done (x5)))
noncomputable def spec_l17Pick (a0 : List Out) : Option (Int × Int) :=
  (whl (spec_l17Pick_l0 a0) (-1, 0)).bind fun x7 => (bif (decide (x7 < 0)) then some (-1, -1) else (idx a0 x7).bind fun b47 => (spec_l17First b47).bind fun b48 => some (x7, b48))
theorem spec_l17Pick_w {a0 : List Out} {r : (Int × Int)} (h : spec_l17Pick a0 = some r) {F : List It} {H : Heap} (hS : Own H (F)) {P : AV → Heap → Prop} (hP : ∀ H', Own H' (F) → P (.tup [.int .i64 r.1, .int .i64 r.2]) H') : ACall C 96 [.fz (a0.map e_Out)] H P := by
  refine acall_of gC (res := [.tmp 2, .tmp 3]) (n := 46) rfl rfl rfl rfl fun K0 hK0 => ?_
  simp only [W, Nat.reduceSub, Nat.reduceAdd, List.replicate]
  unfold spec_l17Pick at h
  refine w_seq fun K1 hK1 => ?_
  refine w_reg gC ?_
  try simp only [W, Nat.reduceAdd]
  refine seq_n hK1 ?_
  refine w_seq fun K2 hK2 => ?_
  refine w_reg gC ?_
  try simp only [W, Nat.reduceAdd]
  refine seq_n hK2 ?_
  refine w_seq fun K3 hK3 => ?_
  refine w_seq fun K4 hK4 => ?_
  refine w_reg gC ?_
  try simp only [W, EE, Nat.reduceAdd]
  refine seq_n hK4 ?_
  obtain ⟨y8, hw9, g15⟩ := Option.bind_eq_some_iff.1 h
  refine w_join gC (fun s H => ∃ x7 : Int, y8 = (x7) ∧ s = [.fz (a0.map e_Out), u, u, u, .int .i64 x7, u, u, u, u, u, u, u, u, u, u, u, u, u, u, u, u, u, u, u, u, u, u, u, u, u, u, u, u, u, u, u, u, u, u, u, u, u, u, u, u, u] ∧ Own H (F)) (fun K10 hK10 => ?_) (fun s H hq => ?_)
  · refine w_blk fun K11 hK11 => ?_
    refine w_loop gC hw9 (fun x s H => match x with | (x5, x6) => s = [.fz (a0.map e_Out), u, u, u, .int .i64 x5, u, u, .fz (a0.map e_Out), .int .i64 (a0.length : Int), .int .i64 x6, u, u, u, u, u, u, u, u, u, u, u, u, u, u, u, u, u, u, u, u, u, u, u, u, u, u, u, u, u, u, u, u, u, u, u, u] ∧ Own H (F)) ⟨rfl, hS⟩ (fun x y14 s H h hd13 hi K12 hK12 => ?_)
    obtain ⟨x5, x6⟩ := x
    try dsimp only at hi
    obtain ⟨rfl, hS⟩ := hi
    simp only [spec_l17Pick_l0] at h
    refine w_seq fun K16 hK16 => ?_
    refine w_reg gC ?_
    try simp only [W, EE, Nat.reduceAdd]
    refine seq_n hK16 ?_
    refine w_seq fun K17 hK17 => ?_
    refine w_if ?_
    simp only [W]
    refine w_cnd h (fun hc h => ?_) (fun hc h => ?_)
    · refine w_skip ?_
      refine seq_n hK17 ?_
      refine w_seq fun K18 hK18 => ?_
      obtain ⟨y21, h, g22⟩ := Option.bind_eq_some_iff.1 h
      refine w_join gC (fun s H => ∃ x20 : Int, y21 = (x20) ∧ s = [.fz (a0.map e_Out), u, u, u, .int .i64 x20, u, u, .fz (a0.map e_Out), .int .i64 (a0.length : Int), .int .i64 x6, u, u, u, u, u, u, u, u, u, u, u, u, u, u, u, u, u, u, u, u, u, u, u, u, u, u, u, u, u, u, u, u, u, u, u, u] ∧ Own H (F)) (fun K23 hK23 => ?_) (fun s H hq => ?_)
      · refine w_blk fun K19 hK19 => ?_
        refine w_seq fun K24 hK24 => ?_
        refine w_reg gC ?_
        try simp only [W, EE, Nat.reduceAdd]
        refine w_fz rfl rfl rfl (fun _ => rfl) h fun b25 hb25 h => ?_
        try simp only [W, EE, EN, reduceIte, Nat.reduceAdd, Nat.reduceLeDiff]
        refine w_alloc hS rfl rfl fun ip26 wp26 H hS => ?_
        try simp only [W]
        refine w_stv (a := .agg [.str b25.Text, .int .i64 b25.End, .fz (b25.Heard.map AV.bool), .int .i64 b25.Final]) (y' := .agg [.str b25.Text, .int .i64 b25.End, .fz (b25.Heard.map AV.bool), .int .i64 b25.Final]) 0 hS rfl rfl rfl rfl rfl rfl rfl rfl fun H hS => ?_
        try simp only [W]
        refine seq_n hK24 ?_
        refine w_seq fun K28 hK28 => ?_
        obtain ⟨y30, h, g31⟩ := Option.bind_eq_some_iff.1 h
        refine w_join gC (fun s H => ∃ x29 : Bool, y30 = (x29) ∧ s = [.fz (a0.map e_Out), u, u, u, .int .i64 x5, .int .i64 x6, u, .fz (a0.map e_Out), .int .i64 (a0.length : Int), .int .i64 x6, u, u, u, u, u, u, u, u, u, u, u, u, u, u, u, u, u, u, u, u, u, u, u, u, u, .bool x29, u, u, u, u, u, u, u, u, u, u] ∧ Own H (F)) (fun K32 hK32 => ?_) (fun s H hq => ?_)
        · refine w_seq fun K33 hK33 => ?_
          refine w_draw0 gC (by kernel_rfl) ?_
          try simp only [W, EE, Nat.reduceAdd, Nat.reduceBEq, hS.var 0 rfl]
          refine w_grdT h (fun hc h => ?_) (fun hc h => ?_)
          · try simp only [W, EE, reduceIte, Nat.reduceAdd, Nat.reduceLeDiff, hS.var 0 rfl, hc]
            refine w_callQ (rsh := [[.sc]]) (ys := [.agg [.str b25.Text, .int .i64 b25.End, .fz (b25.Heard.map AV.bool), .int .i64 b25.Final]]) (lent := false) h rfl (by rfl) fun b34 hb34 h => ⟨_, spec_l17First_w hb34 (Own.nil _) fun H hS => ⟨[_], _, H, rfl, (by simp only [takeVals, takeE, takeT, plainA, if_true, List.headD_cons]; rfl), rfl⟩, .inl rfl, ?_⟩
            try simp only [W, EE, reduceIte, Bool.false_eq_true]
            refine w_grdT h (fun hc h => ?_) (fun hc h => ?_)
            · try simp only [W, EE, hc]
              refine w_grdT h (fun hc h => ?_) (fun hc h => ?_)
              · try simp only [W, reduceIte, hc]
                refine seq_n hK33 ?_
                refine w_kill ?_
                exact cut_n hK32 ⟨_, (Option.some.inj h).symm, rfl, (hS.sel 1 [] (by decide))⟩
              · try simp only [W, EE, Nat.reduceAdd, Nat.reduceBEq, hS.var 0 rfl, hc]
                refine w_fz rfl rfl rfl (fun _ => rfl) h fun b35 hb35 h => ?_
                try simp only [W, EE, EN, reduceIte, Nat.reduceAdd, Nat.reduceBEq, Bool.false_eq_true]
                refine seq_n hK33 ?_
                refine w_kill ?_
                exact cut_n hK32 ⟨_, (Option.some.inj h).symm, rfl, (hS.sel 1 [] (by decide))⟩
            · try simp only [W, hc]
              refine seq_n hK33 ?_
              refine w_kill ?_
              exact cut_n hK32 ⟨_, (Option.some.inj h).symm, rfl, (hS.sel 1 [] (by decide))⟩
          · try simp only [W, hc]
            refine seq_n hK33 ?_
            refine w_kill ?_
            exact cut_n hK32 ⟨_, (Option.some.inj h).symm, rfl, (hS.sel 1 [] (by decide))⟩
        · obtain ⟨x29, rfl, rfl, hS⟩ := hq
          replace h := g31
          try dsimp only at h
          refine seq_n hK28 ?_
          obtain ⟨y37, h, g38⟩ := Option.bind_eq_some_iff.1 h
          refine w_join gC (fun s H => ∃ x36 : Int, y37 = (x36) ∧ s = [.fz (a0.map e_Out), u, u, u, .int .i64 x36, u, u, .fz (a0.map e_Out), .int .i64 (a0.length : Int), .int .i64 x6, u, u, u, u, u, u, u, u, u, u, u, u, u, u, u, u, u, u, u, u, u, u, u, u, u, u, u, u, u, u, u, u, u, u, u, u] ∧ Own H (F)) (fun K39 hK39 => ?_) (fun s H hq => ?_)
          · refine w_seq fun K40 hK40 => ?_
            refine w_if ?_
            simp only [W]
            refine w_cnd h (fun hc h => ?_) (fun hc h => ?_)
            · refine w_reg gC ?_
              try simp only [W, Nat.reduceAdd]
              refine seq_n hK40 ?_
              refine w_kill ?_
              exact cut_n hK39 ⟨_, (Option.some.inj h).symm, rfl, hS⟩
            · refine w_skip ?_
              refine seq_n hK40 ?_
              refine w_kill ?_
              exact cut_n hK39 ⟨_, (Option.some.inj h).symm, rfl, hS⟩
          · obtain ⟨x36, rfl, rfl, hS⟩ := hq
            replace h := g38
            try dsimp only at h
            refine blk_n hK19 ?_
            exact cut_n hK23 ⟨_, (Option.some.inj h).symm, rfl, hS⟩
      · obtain ⟨x20, rfl, rfl, hS⟩ := hq
        replace h := g22
        try dsimp only at h
        refine seq_n hK18 ?_
        refine w_reg gC ?_
        try simp only [W, EE, Nat.reduceAdd]
        exact lp_n hK12 h ⟨rfl, hS⟩
    · refine w_exit ?_
      refine seq_x hK17 ?_
      try obtain rfl := Option.some.inj h
      obtain rfl := hd13 _ rfl
      have h : (some (x5) : Option (Int)) = some (x5) := rfl
      refine lp_x hK12 ?_
      refine blk_e hK11 ?_
      exact cut_n hK10 ⟨_, (Option.some.inj h).symm, rfl, hS⟩
  · obtain ⟨x7, rfl, rfl, hS⟩ := hq
    replace h := g15
    try dsimp only at h
    refine seq_n hK3 ?_
    refine w_seq fun K43 hK43 => ?_
    refine w_seq fun K44 hK44 => ?_
    refine w_reg gC ?_
    try simp only [W, EE, Nat.reduceAdd]
    refine seq_n hK44 ?_
    refine w_if ?_
    simp only [W]
    refine w_cnd h (fun hc h => ?_) (fun hc h => ?_)
    · refine w_seq fun K45 hK45 => ?_
      refine w_reg gC ?_
      try simp only [W, Nat.reduceAdd]
      refine seq_n hK45 ?_
      refine w_ret ?_
      refine seq_r hK43 ?_
      refine fin_r2 hK0 rfl rfl ?_
      try obtain rfl := Option.some.inj h
      exact hP _ hS
    · refine w_skip ?_
      refine seq_n hK43 ?_
      refine w_seq fun K46 hK46 => ?_
      refine w_reg gC ?_
      try simp only [W, EE, Nat.reduceAdd]
      refine w_fz rfl rfl rfl (fun _ => rfl) h fun b47 hb47 h => ?_
      try simp only [W, EE, EN, reduceIte, Nat.reduceAdd, Nat.reduceLeDiff]
      refine w_call h fun b48 hb48 h => ?_
      refine spec_l17First_w hb48 hS fun H hS => ?_
      try simp only [W]
      refine seq_n hK46 ?_
      refine w_ret ?_
      refine fin_r2 hK0 rfl rfl ?_
      try obtain rfl := Option.some.inj h
      exact hP _ hS
noncomputable def spec_PickPart (a0 : List Out) : Option (Int × Int × Bool × Bool) :=
  (spec_GoodOuts a0).bind fun b4 => (bif (!b4) then some (0, 0, false, false) else (spec_l17Pick a0).bind fun (b8, b9) => (bif (decide (b8 < 0)) then some (0, 0, false, true) else some (b8, b9, true, true)))
theorem spec_PickPart_w {a0 : List Out} {r : (Int × Int × Bool × Bool)} (h : spec_PickPart a0 = some r) {F : List It} {H : Heap} (hS : Own H (F)) {P : AV → Heap → Prop} (hP : ∀ H', Own H' (F) → P (.tup [.int .i64 r.1, .int .i64 r.2.1, .bool r.2.2.1, .bool r.2.2.2]) H') : ACall C 22 [.fz (a0.map e_Out)] H P := by
  refine acall_of gC (res := [.tmp 2, .tmp 3, .tmp 4, .tmp 5]) (n := 20) rfl rfl rfl rfl fun K0 hK0 => ?_
  simp only [W, Nat.reduceSub, Nat.reduceAdd, List.replicate]
  unfold spec_PickPart at h
  refine w_seq fun K1 hK1 => ?_
  refine w_reg gC ?_
  try simp only [W, Nat.reduceAdd]
  refine seq_n hK1 ?_
  refine w_seq fun K2 hK2 => ?_
  refine w_seq fun K3 hK3 => ?_
  refine w_reg gC ?_
  try simp only [W, Nat.reduceAdd]
  refine w_call h fun b4 hb4 h => ?_
  refine spec_GoodOuts_w hb4 hS fun H hS => ?_
  try simp only [W]
  refine seq_n hK3 ?_
  refine w_if ?_
  simp only [W]
  refine w_cnd h (fun hc h => ?_) (fun hc h => ?_)
  · refine w_seq fun K5 hK5 => ?_
    refine w_reg gC ?_
    try simp only [W, Nat.reduceAdd]
    refine seq_n hK5 ?_
    refine w_ret ?_
    refine seq_r hK2 ?_
    refine fin_r4 hK0 rfl rfl rfl rfl ?_
    try obtain rfl := Option.some.inj h
    exact hP _ hS
  · refine w_skip ?_
    refine seq_n hK2 ?_
    refine w_seq fun K6 hK6 => ?_
    refine w_reg gC ?_
    try simp only [W, Nat.reduceAdd]
    refine w_call h fun b7 hb7 h => ?_
    obtain ⟨b8, b9⟩ := b7
    try dsimp only at h
    refine spec_l17Pick_w hb7 hS fun H hS => ?_
    try simp only [W]
    refine seq_n hK6 ?_
    refine w_seq fun K10 hK10 => ?_
    refine w_seq fun K11 hK11 => ?_
    refine w_reg gC ?_
    try simp only [W, EE, Nat.reduceAdd]
    refine seq_n hK11 ?_
    refine w_if ?_
    simp only [W]
    refine w_cnd h (fun hc h => ?_) (fun hc h => ?_)
    · refine w_seq fun K12 hK12 => ?_
      refine w_reg gC ?_
      try simp only [W, Nat.reduceAdd]
      refine seq_n hK12 ?_
      refine w_ret ?_
      refine seq_r hK10 ?_
      refine fin_r4 hK0 rfl rfl rfl rfl ?_
      try obtain rfl := Option.some.inj h
      exact hP _ hS
    · refine w_skip ?_
      refine seq_n hK10 ?_
      refine w_seq fun K13 hK13 => ?_
      refine w_reg gC ?_
      try simp only [W, Nat.reduceAdd]
      refine seq_n hK13 ?_
      refine w_ret ?_
      refine fin_r4 hK0 rfl rfl rfl rfl ?_
      try obtain rfl := Option.some.inj h
      exact hP _ hS
noncomputable def slices_Index_bool_l0 (a0 : List Bool) (a1 : Bool) (x : (Int)) : Option (LR (Int) (LR Unit (Int))) :=
  match x with
  | (x4) => (bif (decide (x4 < (a0.length : Int))) then (idx a0 x4).bind fun b19 => (bif (a1 == b19) then some (LR.done (LR.done x4)) else some (LR.next ((IntKind.i64.wrap (x4 + 1))))) else some (LR.done (LR.next ())))
noncomputable def slices_Index_bool (a0 : List Bool) (a1 : Bool) : Option (Int) :=
  (whl (slices_Index_bool_l0 a0 a1) (0)).bind fun y => match y with | LR.next () => some (-1) | LR.done z => some z
theorem slices_Index_bool_w {a0 : List Bool} {a1 : Bool} {r : (Int)} (h : slices_Index_bool a0 a1 = some r) {F : List It} {H : Heap} (hS : Own H (F)) {P : AV → Heap → Prop} (hP : ∀ H', Own H' (F) → P (.int .i64 r) H') : ACall C 166 [.fz (a0.map AV.bool), .bool a1] H P := by
  refine acall_of gC (res := [.tmp 4]) (n := 19) rfl rfl rfl rfl fun K0 hK0 => ?_
  simp only [W, Nat.reduceSub, Nat.reduceAdd, List.replicate]
  unfold slices_Index_bool at h
  refine w_seq fun K1 hK1 => ?_
  refine w_reg gC ?_
  try simp only [W, Nat.reduceAdd]
  refine seq_n hK1 ?_
  refine w_seq fun K2 hK2 => ?_
  refine w_seq fun K3 hK3 => ?_
  refine w_reg gC ?_
  try simp only [W, EE, Nat.reduceAdd]
  refine seq_n hK3 ?_
  obtain ⟨y5, hw6, g12⟩ := Option.bind_eq_some_iff.1 h
  refine w_join gC (fun s H => y5 = LR.next () ∧ s = [u, u, u, u, u, u, u, u, u, u, u, u, u, u, u, u, u, u, u] ∧ Own H (F)) (fun K7 hK7 => ?_) (fun s H hq => ?_)
  · refine w_blk fun K8 hK8 => ?_
    refine w_loop gC hw6 (fun x s H => s = [.fz (a0.map AV.bool), .bool a1, u, u, u, u, u, .int .i64 (a0.length : Int), .int .i64 x, u, u, u, u, u, u, u, u, u, u] ∧ Own H (F)) ⟨rfl, hS⟩ (fun x4 y11 s H h hd10 hi K9 hK9 => ?_)
    skip
    try dsimp only at hi
    obtain ⟨rfl, hS⟩ := hi
    simp only [slices_Index_bool_l0] at h
    refine w_seq fun K13 hK13 => ?_
    refine w_reg gC ?_
    try simp only [W, EE, Nat.reduceAdd]
    refine seq_n hK13 ?_
    refine w_seq fun K14 hK14 => ?_
    refine w_if ?_
    simp only [W]
    refine w_cnd h (fun hc h => ?_) (fun hc h => ?_)
    · refine w_skip ?_
      refine seq_n hK14 ?_
      refine w_seq fun K15 hK15 => ?_
      refine w_blk fun K16 hK16 => ?_
      refine w_seq fun K17 hK17 => ?_
      refine w_reg gC ?_
      try simp only [W, Nat.reduceAdd]
      refine seq_n hK17 ?_
      refine w_seq fun K18 hK18 => ?_
      refine w_reg gC ?_
      try simp only [W, EE, Nat.reduceAdd]
      refine w_fz rfl rfl rfl (fun _ => rfl) h fun b19 hb19 h => ?_
      try simp only [W, EE]
      rw [b_beql _ _ _ _ (h := rfl) rfl, resV_s]
      try simp only [W]
      refine seq_n hK18 ?_
      refine w_if ?_
      simp only [W]
      refine w_cnd h (fun hc h => ?_) (fun hc h => ?_)
      · refine w_seq fun K20 hK20 => ?_
        refine w_reg gC ?_
        try simp only [W, Nat.reduceAdd]
        refine seq_n hK20 ?_
        refine w_ret ?_
        refine blk_r hK16 ?_
        refine seq_r hK15 ?_
        try obtain rfl := Option.some.inj h
        obtain rfl := hd10 _ rfl
        have h : (some (LR.done x4) : Option (LR Unit (Int))) = some (LR.done x4) := rfl
        refine lp_r hK9 ?_
        refine blk_r hK8 ?_
        try obtain rfl := Option.some.inj h
        obtain rfl := Option.some.inj g12
        have h : (some x4 : Option (Int)) = some x4 := rfl
        refine cut_r hK7 ?_
        refine seq_r hK2 ?_
        refine fin_r1 hK0 rfl ?_
        try obtain rfl := Option.some.inj h
        exact hP _ hS
      · refine w_skip ?_
        refine blk_n0 hK16 ?_
        refine seq_n hK15 ?_
        refine w_reg gC ?_
        try simp only [W, EE, Nat.reduceAdd]
        exact lp_n hK9 h ⟨rfl, hS⟩
    · refine w_exit ?_
      refine seq_x hK14 ?_
      try obtain rfl := Option.some.inj h
      obtain rfl := hd10 _ rfl
      have h : (some (LR.next ()) : Option (LR Unit (Int))) = some (LR.next ()) := rfl
      refine lp_x hK9 ?_
      refine blk_e hK8 ?_
      exact cut_n hK7 ⟨(Option.some.inj h).symm, rfl, hS⟩
  · obtain ⟨rfl, rfl, hS⟩ := hq
    replace h := g12
    try dsimp only at h
    refine seq_n hK2 ?_
    refine w_seq fun K27 hK27 => ?_
    refine w_reg gC ?_
    try simp only [W, Nat.reduceAdd]
    refine seq_n hK27 ?_
    refine w_ret ?_
    refine fin_r1 hK0 rfl ?_
    try obtain rfl := Option.some.inj h
    exact hP _ hS
noncomputable def slices_Contains_bool (a0 : List Bool) (a1 : Bool) : Option (Bool) :=
  (slices_Index_bool a0 a1).bind fun b3 => some (decide (0 ≤ b3))
theorem slices_Contains_bool_w {a0 : List Bool} {a1 : Bool} {r : (Bool)} (h : slices_Contains_bool a0 a1 = some r) {F : List It} {H : Heap} (hS : Own H (F)) {P : AV → Heap → Prop} (hP : ∀ H', Own H' (F) → P (.bool r) H') : ACall C 165 [.fz (a0.map AV.bool), .bool a1] H P := by
  refine acall_of gC (res := [.tmp 4]) (n := 9) rfl rfl rfl rfl fun K0 hK0 => ?_
  simp only [W, Nat.reduceSub, Nat.reduceAdd, List.replicate]
  unfold slices_Contains_bool at h
  refine w_seq fun K1 hK1 => ?_
  refine w_reg gC ?_
  try simp only [W, Nat.reduceAdd]
  refine seq_n hK1 ?_
  refine w_seq fun K2 hK2 => ?_
  refine w_reg gC ?_
  try simp only [W, Nat.reduceAdd]
  refine w_call h fun b3 hb3 h => ?_
  refine slices_Index_bool_w hb3 hS fun H hS => ?_
  try simp only [W, EE]
  refine seq_n hK2 ?_
  refine w_ret ?_
  refine fin_r1 hK0 rfl ?_
  try obtain rfl := Option.some.inj h
  exact hP _ hS
noncomputable def impl_pick_l0 (a0 : List Out) (x : (Int × Int)) : Option (LR (Int × Int) (Int)) :=
  match x with
  | (x5, x6) => (bif (decide (x6 < (a0.length : Int))) then ((idx a0 x6).bind fun b25 => ((bif (b25.Final == 0) then (slices_Contains_bool b25.Heard false).bind fun b34 => (bif b34 then (bif (decide (x5 < 0)) then some (true) else (idx a0 x5).bind fun b35 => some ((decide (b25.End < b35.End)))) else some (false)) else some (false))).bind fun x29 => ((bif x29 then some (x6) else some (x5))).bind fun x36 => some (x36)).bind fun x20 => some (LR.next (x20, (IntKind.i64.wrap (x6 + 1)))) else some (LR.done (x5)))
noncomputable def impl_pick (a0 : List Out) : Option (Int × Int × Bool) :=
  (whl (impl_pick_l0 a0) (-1, 0)).bind fun x7 => (bif (decide (x7 < 0)) then some (0, 0, false) else (idx a0 x7).bind fun b47 => (slices_Index_bool b47.Heard false).bind fun b48 => some (x7, b48, true))
theorem impl_pick_w {a0 : List Out} {r : (Int × Int × Bool)} (h : impl_pick a0 = some r) {F : List It} {H : Heap} (hS : Own H (F)) {P : AV → Heap → Prop} (hP : ∀ H', Own H' (F) → P (.tup [.int .i64 r.1, .int .i64 r.2.1, .bool r.2.2]) H') : ACall C 97 [.fz (a0.map e_Out)] H P := by
  refine acall_of gC (res := [.tmp 2, .tmp 3, .tmp 4]) (n := 48) rfl rfl rfl rfl fun K0 hK0 => ?_
  simp only [W, Nat.reduceSub, Nat.reduceAdd, List.replicate]
  unfold impl_pick at h
  refine w_seq fun K1 hK1 => ?_
  refine w_reg gC ?_
  try simp only [W, Nat.reduceAdd]
  refine seq_n hK1 ?_
  refine w_seq fun K2 hK2 => ?_
  refine w_reg gC ?_
  try simp only [W, Nat.reduceAdd]
  refine seq_n hK2 ?_
  refine w_seq fun K3 hK3 => ?_
  refine w_seq fun K4 hK4 => ?_
  refine w_reg gC ?_
  try simp only [W, EE, Nat.reduceAdd]
  refine seq_n hK4 ?_
  obtain ⟨y8, hw9, g15⟩ := Option.bind_eq_some_iff.1 h
  refine w_join gC (fun s H => ∃ x7 : Int, y8 = (x7) ∧ s = [.fz (a0.map e_Out), u, u, u, u, .int .i64 x7, u, u, u, u, u, u, u, u, u, u, u, u, u, u, u, u, u, u, u, u, u, u, u, u, u, u, u, u, u, u, u, u, u, u, u, u, u, u, u, u, u, u] ∧ Own H (F)) (fun K10 hK10 => ?_) (fun s H hq => ?_)
  · refine w_blk fun K11 hK11 => ?_
    refine w_loop gC hw9 (fun x s H => match x with | (x5, x6) => s = [.fz (a0.map e_Out), u, u, u, u, .int .i64 x5, u, u, .fz (a0.map e_Out), .int .i64 (a0.length : Int), .int .i64 x6, u, u, u, u, u, u, u, u, u, u, u, u, u, u, u, u, u, u, u, u, u, u, u, u, u, u, u, u, u, u, u, u, u, u, u, u, u] ∧ Own H (F)) ⟨rfl, hS⟩ (fun x y14 s H h hd13 hi K12 hK12 => ?_)
    obtain ⟨x5, x6⟩ := x
    try dsimp only at hi
    obtain ⟨rfl, hS⟩ := hi
    simp only [impl_pick_l0] at h
    refine w_seq fun K16 hK16 => ?_
    refine w_reg gC ?_
    try simp only [W, EE, Nat.reduceAdd]
    refine seq_n hK16 ?_
    refine w_seq fun K17 hK17 => ?_
    refine w_if ?_
    simp only [W]
    refine w_cnd h (fun hc h => ?_) (fun hc h => ?_)
    · refine w_skip ?_
      refine seq_n hK17 ?_
      refine w_seq fun K18 hK18 => ?_
      obtain ⟨y21, h, g22⟩ := Option.bind_eq_some_iff.1 h
      refine w_join gC (fun s H => ∃ x20 : Int, y21 = (x20) ∧ s = [.fz (a0.map e_Out), u, u, u, u, .int .i64 x20, u, u, .fz (a0.map e_Out), .int .i64 (a0.length : Int), .int .i64 x6, u, u, u, u, u, u, u, u, u, u, u, u, u, u, u, u, u, u, u, u, u, u, u, u, u, u, u, u, u, u, u, u, u, u, u, u, u] ∧ Own H (F)) (fun K23 hK23 => ?_) (fun s H hq => ?_)
      · refine w_blk fun K19 hK19 => ?_
        refine w_seq fun K24 hK24 => ?_
        refine w_reg gC ?_
        try simp only [W, EE, Nat.reduceAdd]
        refine w_fz rfl rfl rfl (fun _ => rfl) h fun b25 hb25 h => ?_
        try simp only [W, EE, EN, reduceIte, Nat.reduceAdd, Nat.reduceLeDiff]
        refine w_alloc hS rfl rfl fun ip26 wp26 H hS => ?_
        try simp only [W]
        refine w_stv (a := .agg [.str b25.Text, .int .i64 b25.End, .fz (b25.Heard.map AV.bool), .int .i64 b25.Final]) (y' := .agg [.str b25.Text, .int .i64 b25.End, .fz (b25.Heard.map AV.bool), .int .i64 b25.Final]) 0 hS rfl rfl rfl rfl rfl rfl rfl rfl fun H hS => ?_
        try simp only [W]
        refine seq_n hK24 ?_
        refine w_seq fun K28 hK28 => ?_
        obtain ⟨y30, h, g31⟩ := Option.bind_eq_some_iff.1 h
        refine w_join gC (fun s H => ∃ x29 : Bool, y30 = (x29) ∧ s = [.fz (a0.map e_Out), u, u, u, u, .int .i64 x5, .int .i64 x6, u, .fz (a0.map e_Out), .int .i64 (a0.length : Int), .int .i64 x6, u, u, u, u, u, u, u, u, u, u, u, u, u, u, u, u, u, u, u, u, u, u, u, u, u, .bool x29, u, u, u, u, u, u, u, u, u, u, u] ∧ Own H (F)) (fun K32 hK32 => ?_) (fun s H hq => ?_)
        · refine w_seq fun K33 hK33 => ?_
          refine w_draw0 gC (by kernel_rfl) ?_
          try simp only [W, EE, Nat.reduceAdd, Nat.reduceBEq, hS.var 0 rfl]
          refine w_grdT h (fun hc h => ?_) (fun hc h => ?_)
          · try simp only [W, EE, Nat.reduceAdd, Nat.reduceBEq, hS.var 0 rfl, hc]
            refine w_callQ (rsh := [[.sc]]) (ys := [.fz (b25.Heard.map AV.bool), .bool false]) (lent := false) h rfl (by rfl) fun b34 hb34 h => ⟨_, slices_Contains_bool_w hb34 (Own.nil _) fun H hS => ⟨[_], _, H, rfl, (by simp only [takeVals, takeE, takeT, plainA, if_true, List.headD_cons]; rfl), rfl⟩, .inl rfl, ?_⟩
            try simp only [W, reduceIte, Bool.false_eq_true]
            refine w_grdT h (fun hc h => ?_) (fun hc h => ?_)
            · try simp only [W, EE, hc]
              refine w_grdT h (fun hc h => ?_) (fun hc h => ?_)
              · try simp only [W, reduceIte, hc]
                refine seq_n hK33 ?_
                refine w_kill ?_
                exact cut_n hK32 ⟨_, (Option.some.inj h).symm, rfl, (hS.sel 1 [] (by decide))⟩
              · try simp only [W, EE, Nat.reduceAdd, Nat.reduceBEq, hS.var 0 rfl, hc]
                refine w_fz rfl rfl rfl (fun _ => rfl) h fun b35 hb35 h => ?_
                try simp only [W, EE, EN, reduceIte, Nat.reduceAdd, Nat.reduceBEq, Bool.false_eq_true]
                refine seq_n hK33 ?_
                refine w_kill ?_
                exact cut_n hK32 ⟨_, (Option.some.inj h).symm, rfl, (hS.sel 1 [] (by decide))⟩
            · try simp only [W, hc]
              refine seq_n hK33 ?_
              refine w_kill ?_
              exact cut_n hK32 ⟨_, (Option.some.inj h).symm, rfl, (hS.sel 1 [] (by decide))⟩
          · try simp only [W, hc]
            refine seq_n hK33 ?_
            refine w_kill ?_
            exact cut_n hK32 ⟨_, (Option.some.inj h).symm, rfl, (hS.sel 1 [] (by decide))⟩
        · obtain ⟨x29, rfl, rfl, hS⟩ := hq
          replace h := g31
          try dsimp only at h
          refine seq_n hK28 ?_
          obtain ⟨y37, h, g38⟩ := Option.bind_eq_some_iff.1 h
          refine w_join gC (fun s H => ∃ x36 : Int, y37 = (x36) ∧ s = [.fz (a0.map e_Out), u, u, u, u, .int .i64 x36, u, u, .fz (a0.map e_Out), .int .i64 (a0.length : Int), .int .i64 x6, u, u, u, u, u, u, u, u, u, u, u, u, u, u, u, u, u, u, u, u, u, u, u, u, u, u, u, u, u, u, u, u, u, u, u, u, u] ∧ Own H (F)) (fun K39 hK39 => ?_) (fun s H hq => ?_)
          · refine w_seq fun K40 hK40 => ?_
            refine w_if ?_
            simp only [W]
            refine w_cnd h (fun hc h => ?_) (fun hc h => ?_)
            · refine w_reg gC ?_
              try simp only [W, Nat.reduceAdd]
              refine seq_n hK40 ?_
              refine w_kill ?_
              exact cut_n hK39 ⟨_, (Option.some.inj h).symm, rfl, hS⟩
            · refine w_skip ?_
              refine seq_n hK40 ?_
              refine w_kill ?_
              exact cut_n hK39 ⟨_, (Option.some.inj h).symm, rfl, hS⟩
          · obtain ⟨x36, rfl, rfl, hS⟩ := hq
            replace h := g38
            try dsimp only at h
            refine blk_n hK19 ?_
            exact cut_n hK23 ⟨_, (Option.some.inj h).symm, rfl, hS⟩
      · obtain ⟨x20, rfl, rfl, hS⟩ := hq
        replace h := g22
        try dsimp only at h
        refine seq_n hK18 ?_
        refine w_reg gC ?_
        try simp only [W, EE, Nat.reduceAdd]
        exact lp_n hK12 h ⟨rfl, hS⟩
    · refine w_exit ?_
      refine seq_x hK17 ?_
      try obtain rfl := Option.some.inj h
      obtain rfl := hd13 _ rfl
      have h : (some (x5) : Option (Int)) = some (x5) := rfl
      refine lp_x hK12 ?_
      refine blk_e hK11 ?_
      exact cut_n hK10 ⟨_, (Option.some.inj h).symm, rfl, hS⟩
  · obtain ⟨x7, rfl, rfl, hS⟩ := hq
    replace h := g15
    try dsimp only at h
    refine seq_n hK3 ?_
    refine w_seq fun K43 hK43 => ?_
    refine w_seq fun K44 hK44 => ?_
    refine w_reg gC ?_
    try simp only [W, EE, Nat.reduceAdd]
    refine seq_n hK44 ?_
    refine w_if ?_
    simp only [W]
    refine w_cnd h (fun hc h => ?_) (fun hc h => ?_)
    · refine w_seq fun K45 hK45 => ?_
      refine w_reg gC ?_
      try simp only [W, Nat.reduceAdd]
      refine seq_n hK45 ?_
      refine w_ret ?_
      refine seq_r hK43 ?_
      refine fin_r3 hK0 rfl rfl rfl ?_
      try obtain rfl := Option.some.inj h
      exact hP _ hS
    · refine w_skip ?_
      refine seq_n hK43 ?_
      refine w_seq fun K46 hK46 => ?_
      refine w_reg gC ?_
      try simp only [W, EE, Nat.reduceAdd]
      refine w_fz rfl rfl rfl (fun _ => rfl) h fun b47 hb47 h => ?_
      try simp only [W, EE, EN, Nat.reduceAdd, Nat.reduceBEq]
      refine w_call h fun b48 hb48 h => ?_
      refine slices_Index_bool_w hb48 hS fun H hS => ?_
      try simp only [W]
      refine seq_n hK46 ?_
      refine w_ret ?_
      refine fin_r3 hK0 rfl rfl rfl ?_
      try obtain rfl := Option.some.inj h
      exact hP _ hS
noncomputable def impl_PickPart (a0 : List Out) : Option (Int × Int × Bool × Bool) :=
  (impl_GoodOuts a0).bind fun b4 => (bif (!b4) then some (0, 0, false, false) else (impl_pick a0).bind fun (b8, b9, b10) => some (b8, b9, b10, true))
theorem impl_PickPart_w {a0 : List Out} {r : (Int × Int × Bool × Bool)} (h : impl_PickPart a0 = some r) {F : List It} {H : Heap} (hS : Own H (F)) {P : AV → Heap → Prop} (hP : ∀ H', Own H' (F) → P (.tup [.int .i64 r.1, .int .i64 r.2.1, .bool r.2.2.1, .bool r.2.2.2]) H') : ACall C 23 [.fz (a0.map e_Out)] H P := by
  refine acall_of gC (res := [.tmp 2, .tmp 3, .tmp 4, .tmp 5]) (n := 21) rfl rfl rfl rfl fun K0 hK0 => ?_
  simp only [W, Nat.reduceSub, Nat.reduceAdd, List.replicate]
  unfold impl_PickPart at h
  refine w_seq fun K1 hK1 => ?_
  refine w_reg gC ?_
  try simp only [W, Nat.reduceAdd]
  refine seq_n hK1 ?_
  refine w_seq fun K2 hK2 => ?_
  refine w_seq fun K3 hK3 => ?_
  refine w_reg gC ?_
  try simp only [W, Nat.reduceAdd]
  refine w_call h fun b4 hb4 h => ?_
  refine impl_GoodOuts_w hb4 hS fun H hS => ?_
  try simp only [W]
  refine seq_n hK3 ?_
  refine w_if ?_
  simp only [W]
  refine w_cnd h (fun hc h => ?_) (fun hc h => ?_)
  · refine w_seq fun K5 hK5 => ?_
    refine w_reg gC ?_
    try simp only [W, Nat.reduceAdd]
    refine seq_n hK5 ?_
    refine w_ret ?_
    refine seq_r hK2 ?_
    refine fin_r4 hK0 rfl rfl rfl rfl ?_
    try obtain rfl := Option.some.inj h
    exact hP _ hS
  · refine w_skip ?_
    refine seq_n hK2 ?_
    refine w_seq fun K6 hK6 => ?_
    refine w_reg gC ?_
    try simp only [W, Nat.reduceAdd]
    refine w_call h fun b7 hb7 h => ?_
    obtain ⟨b8, b9, b10⟩ := b7
    try dsimp only at h
    refine impl_pick_w hb7 hS fun H hS => ?_
    try simp only [W]
    refine seq_n hK6 ?_
    refine w_seq fun K11 hK11 => ?_
    refine w_reg gC ?_
    try simp only [W, Nat.reduceAdd]
    refine seq_n hK11 ?_
    refine w_ret ?_
    refine fin_r4 hK0 rfl rfl rfl rfl ?_
    try obtain rfl := Option.some.inj h
    exact hP _ hS
noncomputable def laws_FnExactPickPart (a0 : List Out) : Option (Bool) :=
  (laws_szOutS a0 1048576).bind fun b4 => (bif (decide (b4 < 0)) then some true else (laws_toOutS a0).bind fun b9 => (spec_PickPart b9).bind fun (b13, b14, b15, b16) => (laws_toOutS a0).bind fun b18 => (impl_PickPart b18).bind fun (b23, b24, b25, b26) => ((bif (b23 != b13) then some (true) else (bif (b24 != b14) then some (true) else (bif (!(b25 == b15)) then some (true) else some ((!(b26 == b16))))))).bind fun x29 => (bif x29 then some false else (laws_toOutS a0).bind fun b37 => (laws_eqOutS b18 b37).bind fun b40 => (bif (!b40) then some false else some true)))
theorem laws_FnExactPickPart_w {a0 : List Out} {r : (Bool)} (h : laws_FnExactPickPart a0 = some r) {F : List It} {H : Heap} (hS : Own H (F)) {P : AV → Heap → Prop} (hP : ∀ H', Own H' (F) → P (.bool r) H') : ACall C 5 [.fz (a0.map e_Out)] H P := by
  refine acall_of gC (res := [.tmp 2]) (n := 58) rfl rfl rfl rfl fun K0 hK0 => ?_
  simp only [W, Nat.reduceSub, Nat.reduceAdd, List.replicate]
  unfold laws_FnExactPickPart at h
  refine w_seq fun K1 hK1 => ?_
  refine w_reg gC ?_
  try simp only [W, Nat.reduceAdd]
  refine seq_n hK1 ?_
  refine w_seq fun K2 hK2 => ?_
  refine w_reg gC ?_
  try simp only [W, Nat.reduceAdd]
  refine seq_n hK2 ?_
  refine w_seq fun K3 hK3 => ?_
  refine w_reg gC ?_
  try simp only [W, Nat.reduceAdd]
  refine w_call h fun b4 hb4 h => ?_
  refine laws_szOutS_w hb4 hS fun H hS => ?_
  try simp only [W]
  refine seq_n hK3 ?_
  refine w_seq fun K5 hK5 => ?_
  refine w_seq fun K6 hK6 => ?_
  refine w_reg gC ?_
  try simp only [W, EE, Nat.reduceAdd]
  refine seq_n hK6 ?_
  refine w_if ?_
  simp only [W]
  refine w_cnd h (fun hc h => ?_) (fun hc h => ?_)
  · refine w_seq fun K7 hK7 => ?_
    refine w_reg gC ?_
    try simp only [W, Nat.reduceAdd]
    refine seq_n hK7 ?_
    refine w_ret ?_
    refine seq_r hK5 ?_
    refine fin_r1 hK0 rfl ?_
    try obtain rfl := Option.some.inj h
    exact hP _ hS
  · refine w_skip ?_
    refine seq_n hK5 ?_
    refine w_seq fun K8 hK8 => ?_
    refine w_regF (fz := [(2, [([20], [.sl [.sc, .sc, .sl [.sc], .sc]])])]) gC ?_
    try simp only [W, Nat.reduceAdd, Nat.reduceBEq]
    refine w_call h fun b9 hb9 h => ?_
    refine laws_toOutS_w hb9 hS fun v10 qv10 H hS => ?_
    try simp only [W, Nat.reduceAdd]
    refine FZ_own 0 hS rfl qv10 rfl (fun _ _ => by simp [takeE, takeT, takeC, plainA, e_Out]) (fun _ => rfl) fun H hsame hS => ?_
    try simp only [W]
    refine w_call h fun b12 hb12 h => ?_
    obtain ⟨b13, b14, b15, b16⟩ := b12
    try dsimp only at h
    refine spec_PickPart_w hb12 hS fun H hS => ?_
    try simp only [W, Nat.reduceAdd, Nat.reduceBEq]
    refine seq_n hK8 ?_
    refine w_seq fun K17 hK17 => ?_
    refine w_reg gC ?_
    try simp only [W, Nat.reduceAdd]
    refine w_call h fun b18 hb18 h => ?_
    refine laws_toOutS_w hb18 hS fun v19 qv19 H hS => ?_
    try simp only [W]
    refine seq_n hK17 ?_
    refine w_seq fun K21 hK21 => ?_
    refine w_regF (fz := [(1, [([29, 8, 27], [.sl [.sc, .sc, .sl [.sc], .sc]])])]) gC ?_
    try simp only [W, Nat.reduceAdd, Nat.reduceBEq]
    refine FZ_own 0 hS rfl qv19 rfl (fun _ _ => by simp [takeE, takeT, takeC, plainA, e_Out]) (fun _ => rfl) fun H hsame hS => ?_
    simp only [W, hsame, if_true]
    try simp only [W, EE, EN, reduceIte, Nat.reduceAdd, Nat.reduceLeDiff, Nat.reduceBEq, Nat.reduceMul, Bool.false_eq_true]
    refine w_call h fun b22 hb22 h => ?_
    obtain ⟨b23, b24, b25, b26⟩ := b22
    try dsimp only at h
    refine impl_PickPart_w hb22 hS fun H hS => ?_
    try simp only [W, Nat.reduceAdd, Nat.reduceBEq]
    refine seq_n hK21 ?_
    refine w_seq fun K27 hK27 => ?_
    refine w_seq fun K28 hK28 => ?_
    obtain ⟨y30, h, g31⟩ := Option.bind_eq_some_iff.1 h
    refine w_join gC (fun s H => ∃ x29 : Bool, y30 = (x29) ∧ s = [.fz (a0.map e_Out), u, u, u, u, u, u, u, .fz (b18.map e_Out), u, u, u, u, u, u, u, u, u, u, u, u, u, u, u, u, u, u, u, u, u, u, u, u, u, u, u, u, u, u, u, u, u, u, u, u, u, u, u, u, u, u, u, .bool x29, u, u, u, u, u] ∧ Own H (F)) (fun K32 hK32 => ?_) (fun s H hq => ?_)
    · refine w_seq fun K33 hK33 => ?_
      refine w_reg gC ?_
      try simp only [W, EE, Nat.reduceAdd]
      refine w_grdT h (fun hc h => ?_) (fun hc h => ?_)
      · try simp only [W, hc]
        refine seq_n hK33 ?_
        refine w_kill ?_
        exact cut_n hK32 ⟨_, (Option.some.inj h).symm, rfl, hS⟩
      · try simp only [W, EE, reduceIte, Bool.false_eq_true, hc]
        refine w_grdT h (fun hc h => ?_) (fun hc h => ?_)
        · try simp only [W, hc]
          refine seq_n hK33 ?_
          refine w_kill ?_
          exact cut_n hK32 ⟨_, (Option.some.inj h).symm, rfl, hS⟩
        · try simp only [W, EE, hc]
          rw [b_bneq _ _ _ _ (h := rfl) rfl, resV_s]
          try simp only [W, reduceIte, Bool.false_eq_true]
          refine w_grdT h (fun hc h => ?_) (fun hc h => ?_)
          · try simp only [W, hc]
            refine seq_n hK33 ?_
            refine w_kill ?_
            exact cut_n hK32 ⟨_, (Option.some.inj h).symm, rfl, hS⟩
          · try simp only [W, EE, hc]
            rw [b_bneq _ _ _ _ (h := rfl) rfl, resV_s]
            try simp only [W, reduceIte, Bool.false_eq_true]
            refine seq_n hK33 ?_
            refine w_kill ?_
            exact cut_n hK32 ⟨_, (Option.some.inj h).symm, rfl, hS⟩
    · obtain ⟨x29, rfl, rfl, hS⟩ := hq
      replace h := g31
      try dsimp only at h
      refine seq_n hK28 ?_
      refine w_if ?_
      simp only [W]
      refine w_cnd h (fun hc h => ?_) (fun hc h => ?_)
      · refine w_seq fun K34 hK34 => ?_
        refine w_reg gC ?_
        try simp only [W, Nat.reduceAdd]
        refine seq_n hK34 ?_
        refine w_ret ?_
        refine seq_r hK27 ?_
        refine fin_r1 hK0 rfl ?_
        try obtain rfl := Option.some.inj h
        exact hP _ hS
      · refine w_skip ?_
        refine seq_n hK27 ?_
        refine w_seq fun K35 hK35 => ?_
        refine w_seq fun K36 hK36 => ?_
        refine w_regF (fz := [(3, [([55], [.sl [.sc, .sc, .sl [.sc], .sc]])])]) gC ?_
        try simp only [W, Nat.reduceAdd, Nat.reduceBEq]
        refine w_call h fun b37 hb37 h => ?_
        refine laws_toOutS_w hb37 hS fun v38 qv38 H hS => ?_
        try simp only [W, Nat.reduceAdd]
        refine FZ_own 0 hS rfl qv38 rfl (fun _ _ => by simp [takeE, takeT, takeC, plainA, e_Out]) (fun _ => rfl) fun H hsame hS => ?_
        try simp only [W]
        refine w_call h fun b40 hb40 h => ?_
        refine laws_eqOutS_w hb40 hS fun H hS => ?_
        try simp only [W, Nat.reduceAdd, Nat.reduceBEq]
        refine seq_n hK36 ?_
        refine w_if ?_
        simp only [W]
        refine w_cnd h (fun hc h => ?_) (fun hc h => ?_)
        · refine w_seq fun K41 hK41 => ?_
          refine w_reg gC ?_
          try simp only [W, Nat.reduceAdd]
          refine seq_n hK41 ?_
          refine w_ret ?_
          refine seq_r hK35 ?_
          refine fin_r1 hK0 rfl ?_
          try obtain rfl := Option.some.inj h
          exact hP _ hS
        · refine w_skip ?_
          refine seq_n hK35 ?_
          refine w_seq fun K42 hK42 => ?_
          refine w_reg gC ?_
          try simp only [W, Nat.reduceAdd]
          refine seq_n hK42 ?_
          refine w_ret ?_
          refine fin_r1 hK0 rfl ?_
          try obtain rfl := Option.some.inj h
          exact hP _ hS
end Go.VxW
