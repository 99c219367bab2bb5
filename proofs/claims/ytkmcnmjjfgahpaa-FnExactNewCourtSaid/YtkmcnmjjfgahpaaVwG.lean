import Derived.Test.YtkmcnmjjfgahpaaVyGF
import Derived.Test.YtkmcnmjjfgahpaaProg
import Derived.Test.YtkmcnmjjfgahpaaVaD
import Derived.KernelRfl
open Go Go.VS
set_option maxRecDepth 8000
set_option maxHeartbeats 4000000
namespace Go.VxW
def e_Case (x : Case) : AV := .agg [.int .i64 x.End, .bool x.Asks, .int .i64 x.Final, .int .i64 x.Said]
def e_Slip (x : Slip) : AV := .agg [.int .i64 x.Kind, .int .i64 x.Case, .int .i64 x.What]
def e_Court (x : Court) : AV := .agg [.int .i64 x.Now, .fz (x.Cases.map e_Case), .fz (x.Line.map e_Slip)]
def E : TEnv := fun t => match t with
  | 3 => some { sz := 1, agg := false, zero := [AV.int IntKind.i64 0], bytes := 8, und := UD.it IntKind.i64, eqok := true }
  | 4 => some { sz := 1, agg := false, zero := [AV.bool false], bytes := 1, und := UD.bl, eqok := true }
  | 41 => some { sz := 1, agg := false, zero := [AV.nil], bytes := 24, und := UD.sl 138, eqok := true }
  | 42 => some { sz := 1, agg := false, zero := [AV.nil], bytes := 24, und := UD.sl 184, eqok := true }
  | 44 => some { sz := 3, agg := true, zero := [AV.int IntKind.i64 0, AV.nil, AV.nil], bytes := 56, und := UD.st [(0, 3), (1, 41), (2, 42)], eqok := true }
  | 48 => some { sz := 1, agg := false, zero := [AV.nil], bytes := 24, und := UD.sl 3, eqok := true }
  | 138 => some { sz := 4, agg := true, zero := [AV.int IntKind.i64 0, AV.bool false, AV.int IntKind.i64 0, AV.int IntKind.i64 0], bytes := 32, und := UD.st [(0, 3), (1, 4), (2, 3), (3, 3)], eqok := true }
  | 184 => some { sz := 3, agg := true, zero := [AV.int IntKind.i64 0, AV.int IntKind.i64 0, AV.int IntKind.i64 0], bytes := 24, und := UD.st [(0, 3), (1, 3), (2, 3)], eqok := true }
  | 190 => some { sz := 1, agg := false, zero := [AV.undef], bytes := 8, und := UD.ot, eqok := true }
  | _ => none
def pol : FuncId → FPol := fun f => match f with
  | 7 => { rsh := [[.sc]], regs := [(3, [], [2]), (5, [], [1]), (22, [], [2])], frz := [(6, [], some [0, 3, 4, 5, 6, 7, 37]), (12, [], some [0, 3, 4, 6, 58]), (23, [], some [6, 9, 84])] }
  | 28 => { rsh := [[.sc]] }
  | 29 => { rsh := [[.sc, .sl [.sc, .sc, .sc, .sc], .sl [.sc, .sc, .sc]], [.sc]], loops := [(0, { keep := [2, 4, 16, 17, 18] })], blocks := [(0, [2, 4])], frz := [(1, [], some [0, 2, 14])] }
  | 30 => { rsh := [[.sl [.sc]]], loops := [(0, { keep := [0, 3, 4] })], blocks := [(0, [3])] }
  | 31 => { rsh := [[.sc, .sl [.sc, .sc, .sc, .sc], .sl [.sc, .sc, .sc]], [.sc]], loops := [(0, { keep := [2, 4, 8, 9, 10] })], blocks := [(0, [2, 4])] }
  | 32 => { rsh := [[.sc]], loops := [(0, { keep := [0, 1, 5] })], blocks := [(0, [])] }
  | 33 => { rsh := [[.sc]], loops := [(0, { keep := [0, 1, 5] })], blocks := [(0, [1])] }
  | 34 => { rsh := [[.sc]] }
  | 35 => { rsh := [[.sc]] }
  | 86 => { rsh := [[.sc]] }
  | 95 => { rsh := [[.sc]] }
  | 104 => { rsh := [[.sc]], loops := [(0, { keep := [1, 22, 23, 24] })], blocks := [(0, [1])], frz := [(1, [], some [1, 20]), (6, [], some [1, 22, 23, 24, 61])] }
  | 106 => { rsh := [[.sc]], loops := [(0, { keep := [0, 1, 5] })], blocks := [(0, [])] }
  | 107 => { rsh := [[.sc]], loops := [(0, { keep := [0, 1, 5] })], blocks := [(0, [])] }
  | 108 => { rsh := [[.sc]], loops := [(0, { keep := [1, 2, 9, 10, 11] })], blocks := [(0, [])] }
  | 109 => { rsh := [[.sc]], loops := [(0, { keep := [0, 1, 5] })], blocks := [(0, [1])] }
  | 110 => { rsh := [[.sc]], loops := [(0, { keep := [0, 1, 5] })], blocks := [(0, [1])] }
  | 111 => { rsh := [[.sc]], loops := [(0, { keep := [0, 1, 5] })], blocks := [(0, [1])] }
  | 112 => { rsh := [[.sc]], loops := [(0, { keep := [0, 1, 5] })], blocks := [(0, [1])] }
  | 169 => { rsh := [[.sc]] }
  | 170 => { rsh := [[.sc]] }
  | 171 => { rsh := [[.sc]] }
  | 174 => { rsh := [[.sc]] }
  | 175 => { rsh := [[.sc]] }
  | 187 => { rsh := [[.sc]], loops := [(0, { keep := [0, 1, 7, 8] })], blocks := [(0, [])] }
  | 188 => { rsh := [[.sc]] }
  | _ => {}
noncomputable def code : FuncId → Option Func := fun f => match f with
  | 7 => some Go.Proofs.Try.f7
  | 28 => some Go.Proofs.Try.f28
  | 29 => some Go.Proofs.Try.f29
  | 30 => some Go.Proofs.Try.f30
  | 31 => some Go.Proofs.Try.f31
  | 32 => some Go.Proofs.Try.f32
  | 33 => some Go.Proofs.Try.f33
  | 34 => some Go.Proofs.Try.f34
  | 35 => some Go.Proofs.Try.f35
  | 86 => some Go.Proofs.Try.f86
  | 95 => some Go.Proofs.Try.f95
  | 104 => some Go.Proofs.Try.f104
  | 106 => some Go.Proofs.Try.f106
  | 107 => some Go.Proofs.Try.f107
  | 108 => some Go.Proofs.Try.f108
  | 109 => some Go.Proofs.Try.f109
  | 110 => some Go.Proofs.Try.f110
  | 111 => some Go.Proofs.Try.f111
  | 112 => some Go.Proofs.Try.f112
  | 169 => some Go.Proofs.Try.f169
  | 170 => some Go.Proofs.Try.f170
  | 171 => some Go.Proofs.Try.f171
  | 174 => some Go.Proofs.Try.f174
  | 175 => some Go.Proofs.Try.f175
  | 187 => some Go.Proofs.Try.f187
  | 188 => some Go.Proofs.Try.f188
  | _ => none
noncomputable def C : Ctx := ⟨E, pol, code, fun _ _ _ _ => False⟩
theorem gC : Good C := ⟨fun _ _ _ _ _ _ h => h, fun _ _ _ _ h => h.elim⟩
theorem cE : C.E = E := rfl
theorem E3 : E 3 = some { sz := 1, agg := false, zero := [AV.int IntKind.i64 0], bytes := 8, und := UD.it IntKind.i64, eqok := true } := rfl
theorem E4 : E 4 = some { sz := 1, agg := false, zero := [AV.bool false], bytes := 1, und := UD.bl, eqok := true } := rfl
theorem E41 : E 41 = some { sz := 1, agg := false, zero := [AV.nil], bytes := 24, und := UD.sl 138, eqok := true } := rfl
theorem E42 : E 42 = some { sz := 1, agg := false, zero := [AV.nil], bytes := 24, und := UD.sl 184, eqok := true } := rfl
theorem E44 : E 44 = some { sz := 3, agg := true, zero := [AV.int IntKind.i64 0, AV.nil, AV.nil], bytes := 56, und := UD.st [(0, 3), (1, 41), (2, 42)], eqok := true } := rfl
theorem E48 : E 48 = some { sz := 1, agg := false, zero := [AV.nil], bytes := 24, und := UD.sl 3, eqok := true } := rfl
theorem E138 : E 138 = some { sz := 4, agg := true, zero := [AV.int IntKind.i64 0, AV.bool false, AV.int IntKind.i64 0, AV.int IntKind.i64 0], bytes := 32, und := UD.st [(0, 3), (1, 4), (2, 3), (3, 3)], eqok := true } := rfl
theorem E184 : E 184 = some { sz := 3, agg := true, zero := [AV.int IntKind.i64 0, AV.int IntKind.i64 0, AV.int IntKind.i64 0], bytes := 24, und := UD.st [(0, 3), (1, 3), (2, 3)], eqok := true } := rfl
theorem E190 : E 190 = some { sz := 1, agg := false, zero := [AV.undef], bytes := 8, und := UD.ot, eqok := true } := rfl
theorem EE : type_of% (And.intro @cE <| And.intro @E3 <| And.intro @E4 <| And.intro @E41 <| And.intro @E42 <| And.intro @E44 <| And.intro @E48 <| And.intro @E138 <| And.intro @E184 @E190) := And.intro @cE <| And.intro @E3 <| And.intro @E4 <| And.intro @E41 <| And.intro @E42 <| And.intro @E44 <| And.intro @E48 <| And.intro @E138 <| And.intro @E184 @E190
theorem e_Case_d (x : Case) : e_Case x = .agg [.int .i64 x.End, .bool x.Asks, .int .i64 x.Final, .int .i64 x.Said] := rfl
theorem e_Court_d (x : Court) : e_Court x = .agg [.int .i64 x.Now, .fz (x.Cases.map e_Case), .fz (x.Line.map e_Slip)] := rfl
theorem e_Slip_d (x : Slip) : e_Slip x = .agg [.int .i64 x.Kind, .int .i64 x.Case, .int .i64 x.What] := rfl
theorem EN : type_of% (And.intro @e_Case_d <| And.intro @e_Court_d <| And.intro @e_Slip_d @killB_n) := And.intro @e_Case_d <| And.intro @e_Court_d <| And.intro @e_Slip_d @killB_n
theorem laws_toIntS_w {a0 : List Int} {r : (List Int)} (h : laws_toIntS a0 = some r) {F : List It} {H : Heap} (hS : Own H (F)) {P : AV → Heap → Prop} (hP : ∀ v29 : AV, isSl v29 → ∀ H', Own H' (⟨v29, 1, r.map (AV.int .i64)⟩ :: F) → P (v29) H') : ACall C 30 [.fz (a0.map (AV.int .i64))] H P := by
  refine acall_of gC (res := [.tmp 2]) (n := 22) rfl rfl rfl rfl fun K0 hK0 => ?_
  simp only [W, Nat.reduceSub, Nat.reduceAdd, List.replicate]
  unfold laws_toIntS at h
  refine w_seq fun K1 hK1 => ?_
  refine w_reg gC ?_
  try simp only [W, Nat.reduceAdd]
  refine seq_n hK1 ?_
  refine w_seq fun K2 hK2 => ?_
  refine w_reg gC ?_
  try simp only [W, EE, Nat.reduceAdd]
  refine w_make (c := (AV.int .i64)) hS rfl rfl rfl rfl rfl rfl h fun v3 H x5 qv3 hm h hS => ?_
  try simp only [W]
  refine seq_n hK2 ?_
  refine w_seq fun K6 hK6 => ?_
  refine w_seq fun K7 hK7 => ?_
  refine w_reg gC ?_
  try simp only [W, Nat.reduceAdd]
  refine seq_n hK7 ?_
  obtain ⟨y11, hw12, g18⟩ := Option.bind_eq_some_iff.1 h
  refine w_join gC (fun s H => ∃ x10 : List Int, y11 = (x10) ∧ s = [u, u, u, v3, u, u, u, u, u, u, u, u, u, u, u, u, u, u, u, u, u, u] ∧ Own H (⟨v3, 1, x10.map (AV.int .i64)⟩ :: F)) (fun K13 hK13 => ?_) (fun s H hq => ?_)
  · refine w_blk fun K14 hK14 => ?_
    refine w_loop gC hw12 (fun x s H => match x with | (x8, x9) => s = [.fz (a0.map (AV.int .i64)), u, u, v3, .int .i64 x9, u, u, u, u, u, u, u, u, u, u, u, u, u, u, u, u, u] ∧ Own H (⟨v3, 1, x8.map (AV.int .i64)⟩ :: F)) ⟨rfl, hS⟩ (fun x y17 s H h hd16 hi K15 hK15 => ?_)
    obtain ⟨x8, x9⟩ := x
    try dsimp only at hi
    obtain ⟨rfl, hS⟩ := hi
    simp only [laws_toIntS_l0] at h
    refine w_seq fun K19 hK19 => ?_
    refine w_seq fun K20 hK20 => ?_
    refine w_reg gC ?_
    try simp only [W, EE, Nat.reduceAdd]
    refine seq_n hK20 ?_
    refine w_if ?_
    simp only [W]
    refine w_cnd h (fun hc h => ?_) (fun hc h => ?_)
    · refine w_skip ?_
      refine seq_n hK19 ?_
      refine w_seq fun K21 hK21 => ?_
      refine w_blk fun K22 hK22 => ?_
      refine w_reg gC ?_
      try simp only [W, EE, Nat.reduceAdd]
      refine w_fz rfl rfl rfl (fun _ => rfl) h fun b23 hb23 h => ?_
      try simp only [W, EE]
      refine w_ow 0 hS rfl rfl rfl rfl rfl h (fun b24 in25 wn25 on25 hb24 h en25 => ?_) qv3.ne
      obtain ⟨kn25, hbn25, hen25⟩ := hS.elem 0 rfl en25 hb24
      try simp only [W]
      refine w_ste (a := .int .i64 b23) (y' := b23) 0 hS rfl en25 hb24 rfl rfl rfl rfl rfl rfl rfl fun H hS => ?_
      try simp only [W]
      refine blk_n0 hK22 ?_
      refine seq_n hK21 ?_
      refine w_reg gC ?_
      try simp only [W, EE, Nat.reduceAdd]
      exact lp_n hK15 h ⟨rfl, hS⟩
    · refine w_exit ?_
      refine seq_x hK19 ?_
      try obtain rfl := Option.some.inj h
      obtain rfl := hd16 _ rfl
      have h : (some (x8) : Option ((List Int))) = some (x8) := rfl
      refine lp_x hK15 ?_
      refine blk_e hK14 ?_
      exact cut_n hK13 ⟨_, (Option.some.inj h).symm, rfl, hS⟩
  · obtain ⟨x10, ey, rfl, hS⟩ := hq; obtain rfl := ey.symm
    replace h := g18
    try dsimp only at h
    refine seq_n hK6 ?_
    refine w_seq fun K28 hK28 => ?_
    refine w_reg gC ?_
    try simp only [W, Nat.reduceAdd]
    refine seq_n hK28 ?_
    refine w_ret ?_
    refine fin_r1 hK0 rfl ?_
    try obtain rfl := Option.some.inj h
    exact hP _ qv3 _ hS
theorem spec_l1In_w {a0 : Int} {a1 : Int} {a2 : Int} {r : (Bool)} (h : spec_l1In a0 a1 a2 = some r) {F : List It} {H : Heap} (hS : Own H (F)) {P : AV → Heap → Prop} (hP : ∀ H', Own H' (F) → P (.bool r) H') : ACall C 86 [.int .i64 a0, .int .i64 a1, .int .i64 a2] H P := by
  refine acall_of gC (res := [.tmp 6]) (n := 15) rfl rfl rfl rfl fun K0 hK0 => ?_
  simp only [W, Nat.reduceSub, Nat.reduceAdd, List.replicate]
  unfold spec_l1In at h
  refine w_seq fun K1 hK1 => ?_
  refine w_reg gC ?_
  try simp only [W, Nat.reduceAdd]
  refine seq_n hK1 ?_
  refine w_seq fun K2 hK2 => ?_
  refine w_reg gC ?_
  try simp only [W, EE, Nat.reduceAdd]
  refine w_grdT h (fun hc h => ?_) (fun hc h => ?_)
  · try simp only [W, EE, reduceIte, hc]
    refine seq_n hK2 ?_
    refine w_ret ?_
    refine fin_r1 hK0 rfl ?_
    try obtain rfl := Option.some.inj h
    exact hP _ hS
  · try simp only [W, hc]
    refine seq_n hK2 ?_
    refine w_ret ?_
    refine fin_r1 hK0 rfl ?_
    try obtain rfl := Option.some.inj h
    exact hP _ hS
theorem spec_l1All_w {a0 : List Int} {a1 : Int} {a2 : Int} {r : (Bool)} (h : spec_l1All a0 a1 a2 = some r) {F : List It} {H : Heap} (hS : Own H (F)) {P : AV → Heap → Prop} (hP : ∀ H', Own H' (F) → P (.bool r) H') : ACall C 108 [.fz (a0.map (AV.int .i64)), .int .i64 a1, .int .i64 a2] H P := by
  refine acall_of gC (res := [.tmp 6]) (n := 21) rfl rfl rfl rfl fun K0 hK0 => ?_
  simp only [W, Nat.reduceSub, Nat.reduceAdd, List.replicate]
  unfold spec_l1All at h
  refine w_seq fun K1 hK1 => ?_
  refine w_reg gC ?_
  try simp only [W, Nat.reduceAdd]
  refine seq_n hK1 ?_
  refine w_seq fun K2 hK2 => ?_
  refine w_seq fun K3 hK3 => ?_
  refine w_reg gC ?_
  try simp only [W, EE, Nat.reduceAdd]
  refine seq_n hK3 ?_
  obtain ⟨y5, hw6, g12⟩ := Option.bind_eq_some_iff.1 h
  refine w_join gC (fun s H => y5 = LR.next () ∧ s = [u, u, u, u, u, u, u, u, u, u, u, u, u, u, u, u, u, u, u, u, u] ∧ Own H (F)) (fun K7 hK7 => ?_) (fun s H hq => ?_)
  · refine w_blk fun K8 hK8 => ?_
    refine w_loop gC hw6 (fun x s H => s = [u, .int .i64 a1, .int .i64 a2, u, u, u, u, u, u, .fz (a0.map (AV.int .i64)), .int .i64 (a0.length : Int), .int .i64 x, u, u, u, u, u, u, u, u, u] ∧ Own H (F)) ⟨rfl, hS⟩ (fun x4 y11 s H h hd10 hi K9 hK9 => ?_)
    skip
    try dsimp only at hi
    obtain ⟨rfl, hS⟩ := hi
    simp only [spec_l1All_l0] at h
    refine w_seq fun K13 hK13 => ?_
    refine w_reg gC ?_
    try simp only [W, EE, Nat.reduceAdd]
    refine seq_n hK13 ?_
    refine w_seq fun K14 hK14 => ?_
    refine w_if ?_
    simp only [W]
    refine w_cnd h (fun hc h => ?_) (fun hc h => ?_)
    · refine w_skip ?_
      refine seq_n hK14 ?_
      refine w_seq fun K15 hK15 => ?_
      refine w_blk fun K16 hK16 => ?_
      refine w_seq fun K17 hK17 => ?_
      refine w_reg gC ?_
      try simp only [W, EE, Nat.reduceAdd]
      refine w_fz rfl rfl rfl (fun _ => rfl) h fun b18 hb18 h => ?_
      try simp only [W, EE]
      refine seq_n hK17 ?_
      refine w_seq fun K19 hK19 => ?_
      refine w_reg gC ?_
      try simp only [W, Nat.reduceAdd]
      refine w_call h fun b20 hb20 h => ?_
      refine spec_l1In_w hb20 hS fun H hS => ?_
      try simp only [W]
      refine seq_n hK19 ?_
      refine w_if ?_
      simp only [W]
      refine w_cnd h (fun hc h => ?_) (fun hc h => ?_)
      · refine w_seq fun K21 hK21 => ?_
        refine w_reg gC ?_
        try simp only [W, Nat.reduceAdd]
        refine seq_n hK21 ?_
        refine w_ret ?_
        refine blk_r hK16 ?_
        refine seq_r hK15 ?_
        try obtain rfl := Option.some.inj h
        obtain rfl := hd10 _ rfl
        have h : (some (LR.done false) : Option (LR Unit (Bool))) = some (LR.done false) := rfl
        refine lp_r hK9 ?_
        refine blk_r hK8 ?_
        try obtain rfl := Option.some.inj h
        obtain rfl := Option.some.inj g12
        have h : (some false : Option (Bool)) = some false := rfl
        refine cut_r hK7 ?_
        refine seq_r hK2 ?_
        refine fin_r1 hK0 rfl ?_
        try obtain rfl := Option.some.inj h
        exact hP _ hS
      · refine w_skip ?_
        refine blk_n0 hK16 ?_
        refine seq_n hK15 ?_
        refine w_reg gC ?_
        try simp only [W, EE, Nat.reduceAdd]
        exact lp_n hK9 h ⟨rfl, hS⟩
    · refine w_exit ?_
      refine seq_x hK14 ?_
      try obtain rfl := Option.some.inj h
      obtain rfl := hd10 _ rfl
      have h : (some (LR.next ()) : Option (LR Unit (Bool))) = some (LR.next ()) := rfl
      refine lp_x hK9 ?_
      refine blk_e hK8 ?_
      exact cut_n hK7 ⟨(Option.some.inj h).symm, rfl, hS⟩
  · obtain ⟨rfl, rfl, hS⟩ := hq
    replace h := g12
    try dsimp only at h
    refine seq_n hK2 ?_
    refine w_seq fun K28 hK28 => ?_
    refine w_reg gC ?_
    try simp only [W, Nat.reduceAdd]
    refine seq_n hK28 ?_
    refine w_ret ?_
    refine fin_r1 hK0 rfl ?_
    try obtain rfl := Option.some.inj h
    exact hP _ hS
theorem spec_NewCourt_w {a0 : List Int} {r : (Court × Bool)} (h : spec_NewCourt a0 = some r) {F : List It} {H : Heap} (hS : Own H (F)) {P : AV → Heap → Prop} (hP : ∀ v46 : AV, isSl v46 → ∀ v48 : AV, isSl v48 → ∀ H', Own H' (⟨v46, 4, r.1.Cases.map e_Case⟩ :: ⟨v48, 3, r.1.Line.map e_Slip⟩ :: F) → P (.tup [.agg [.int .i64 r.1.Now, v46, v48], .bool r.2]) H') : ACall C 29 [.fz (a0.map (AV.int .i64))] H P := by
  refine acall_of gC (res := [.cell 2 44, .tmp 3]) (n := 31) rfl rfl rfl rfl fun K0 hK0 => ?_
  simp only [W, Nat.reduceSub, Nat.reduceAdd, List.replicate]
  unfold spec_NewCourt at h
  refine w_seq fun K1 hK1 => ?_
  refine w_reg gC ?_
  try simp only [W, Nat.reduceAdd]
  refine w_alloc hS rfl rfl fun ip2 wp2 H hS => ?_
  try simp only [W]
  refine seq_n hK1 ?_
  refine w_seq fun K4 hK4 => ?_
  refine w_seq fun K5 hK5 => ?_
  obtain ⟨y7, h, g8⟩ := Option.bind_eq_some_iff.1 h
  refine w_join gC (fun s H => ∃ x6 : Bool, y7 = (x6) ∧ s = [.fz (a0.map (AV.int .i64)), u, .ptr ip2 wp2 0 0, u, u, u, u, u, u, u, u, u, u, u, .bool x6, u, u, u, u, u, u, u, u, u, u, u, u, u, u, u, u] ∧ Own H (⟨.ptr ip2 wp2 0 0, 3, [.agg [.int .i64 0, .nil, .nil]]⟩ :: F)) (fun K9 hK9 => ?_) (fun s H hq => ?_)
  · refine w_seq fun K10 hK10 => ?_
    refine w_reg gC ?_
    try simp only [W, EE, Nat.reduceAdd]
    refine w_grdT h (fun hc h => ?_) (fun hc h => ?_)
    · try simp only [W, hc]
      refine seq_n hK10 ?_
      refine w_kill ?_
      exact cut_n hK9 ⟨_, (Option.some.inj h).symm, rfl, hS⟩
    · try simp only [W, hc]
      refine w_call h fun b11 hb11 h => ?_
      refine spec_l1All_w hb11 hS fun H hS => ?_
      try simp only [W, reduceIte, Bool.false_eq_true]
      refine seq_n hK10 ?_
      refine w_kill ?_
      exact cut_n hK9 ⟨_, (Option.some.inj h).symm, rfl, hS⟩
  · obtain ⟨x6, ey, rfl, hS⟩ := hq; obtain rfl := ey.symm
    replace h := g8
    try dsimp only at h
    refine seq_n hK5 ?_
    refine w_if ?_
    simp only [W]
    refine w_cnd h (fun hc h => ?_) (fun hc h => ?_)
    · refine w_seq fun K12 hK12 => ?_
      refine w_reg gC ?_
      try simp only [W, EE, Nat.reduceAdd]
      refine w_bld rfl rfl rfl rfl rfl ?_
      try simp only [W]
      refine w_stv (a := .agg [.int .i64 0, .nil, .nil]) (y' := .agg [.int .i64 0, .nil, .nil]) 0 hS rfl rfl rfl rfl rfl rfl rfl rfl fun H hS => ?_
      try simp only [W]
      refine seq_n hK12 ?_
      refine w_ret ?_
      refine seq_r hK4 ?_
      refine fin_r hK0 (res_c rfl rfl (hS.var 0 rfl) rfl (res_tc rfl rfl)) ?_
      try obtain rfl := Option.some.inj h
      exact hP _ isSl_nil _ isSl_nil _ (((hS.nil_ 3).nil_ 4).sel 3 [0, 1] (by decide))
    · refine w_skip ?_
      refine seq_n hK4 ?_
      refine w_seq fun K13 hK13 => ?_
      refine w_reg gC ?_
      try simp only [W, Nat.reduceAdd]
      refine w_alloc hS rfl rfl fun ip14 wp14 H hS => ?_
      try simp only [W]
      refine seq_n hK13 ?_
      refine w_seq fun K16 hK16 => ?_
      refine w_seq fun K17 hK17 => ?_
      refine w_reg gC ?_
      try simp only [W, EE, Nat.reduceAdd]
      refine seq_n hK17 ?_
      obtain ⟨y24, hw25, g31⟩ := Option.bind_eq_some_iff.1 h
      refine w_join gC (fun s H => ∃ x22 : List Case, y24 = (x22) ∧ ∃ v23 : AV, isSl v23 ∧ s = [u, u, .ptr ip2 wp2 0 0, u, .ptr ip14 wp14 0 0, u, u, u, u, u, u, u, u, u, u, u, u, u, u, u, u, u, u, u, u, u, u, u, u, u, u] ∧ Own H (⟨v23, 4, x22.map e_Case⟩ :: ⟨.ptr ip2 wp2 0 0, 3, [.agg [.int .i64 0, .nil, .nil]]⟩ :: ⟨.ptr ip14 wp14 0 0, 3, [.agg [.int .i64 0, v23, .nil]]⟩ :: F)) (fun K26 hK26 => ?_) (fun s H hq => ?_)
      · refine w_blk fun K27 hK27 => ?_
        refine w_loop gC hw25 (fun x s H => match x with | (x18, x19) => ∃ v20 : AV, isSl v20 ∧ s = [u, u, .ptr ip2 wp2 0 0, u, .ptr ip14 wp14 0 0, u, u, u, u, u, u, u, u, u, u, u, .fz (a0.map (AV.int .i64)), .int .i64 (a0.length : Int), .int .i64 x18, u, u, u, u, u, u, u, u, u, u, u, u] ∧ Own H (⟨v20, 4, x19.map e_Case⟩ :: ⟨.ptr ip2 wp2 0 0, 3, [.agg [.int .i64 0, .nil, .nil]]⟩ :: ⟨.ptr ip14 wp14 0 0, 3, [.agg [.int .i64 0, v20, .nil]]⟩ :: F)) ⟨_, isSl_nil, rfl, ((hS.nil_ 4).sel 3 [0, 2, 1] (by decide))⟩ (fun x y30 s H h hd29 hi K28 hK28 => ?_)
        obtain ⟨x18, x19⟩ := x
        try dsimp only at hi
        obtain ⟨v20, qv20, rfl, hS⟩ := hi
        simp only [spec_NewCourt_l0] at h
        refine w_seq fun K32 hK32 => ?_
        refine w_reg gC ?_
        try simp only [W, EE, Nat.reduceAdd]
        refine seq_n hK32 ?_
        refine w_seq fun K33 hK33 => ?_
        refine w_if ?_
        simp only [W]
        refine w_cnd h (fun hc h => ?_) (fun hc h => ?_)
        · refine w_skip ?_
          refine seq_n hK33 ?_
          refine w_seq fun K34 hK34 => ?_
          refine w_blk fun K35 hK35 => ?_
          refine w_seq fun K36 hK36 => ?_
          refine w_reg gC ?_
          try simp only [W, EE, Nat.reduceAdd]
          refine w_fz rfl rfl rfl (fun _ => rfl) h fun b37 hb37 h => ?_
          try simp only [W, EE]
          refine seq_n hK36 ?_
          refine w_reg gC ?_
          try simp only [W, EE, Nat.reduceAdd, Nat.reduceBEq, hS.var 2 rfl]
          refine w_bld rfl rfl rfl rfl rfl ?_
          try simp only [W]
          refine w_lit (el := ([(⟨b37, false, 0, 0⟩ : Case)] : List Case).map e_Case) hS rfl rfl rfl rfl rfl rfl rfl fun v38 H qv38 hS => ?_
          try simp only [W, EE]
          refine w_appV (l := x19) (c := e_Case) 1 hS rfl qv20 rfl rfl rfl (hS.elems 0 rfl qv38) (fun _ => rfl) rfl h fun v41 H x40 qv41 hm h hS => ?_
          try simp only [W, EE, Nat.reduceAdd, Nat.reduceBEq, hS.var 3 rfl]
          refine w_stv (a := v41) (y' := .agg [.int .i64 0, v41, .nil]) 3 hS rfl rfl rfl rfl (by rw [qv41.cells]; rfl) qv41.stora (qv41.wr _ _ (by simp)) rfl fun H hS => ?_
          try simp only [W]
          refine blk_n0 hK35 ?_
          refine seq_n hK34 ?_
          refine w_reg gC ?_
          try simp only [W, EE, Nat.reduceAdd]
          exact lp_n hK28 h ⟨_, qv41, rfl, (hS.sel 4 [1, 2, 3] (by decide))⟩
        · refine w_exit ?_
          refine seq_x hK33 ?_
          try obtain rfl := Option.some.inj h
          obtain rfl := hd29 _ rfl
          have h : (some (x19) : Option ((List Case))) = some (x19) := rfl
          refine lp_x hK28 ?_
          refine blk_e hK27 ?_
          exact cut_n hK26 ⟨_, (Option.some.inj h).symm, _, qv20, rfl, hS⟩
      · obtain ⟨x22, ey, v23, qv23, rfl, hS⟩ := hq; obtain rfl := ey.symm
        replace h := g31
        try dsimp only at h
        refine seq_n hK16 ?_
        refine w_seq fun K45 hK45 => ?_
        refine w_reg gC ?_
        try simp only [W, EE, reduceIte, Nat.reduceAdd, Nat.reduceLeDiff, hS.var 2 rfl]
        refine w_stv (a := .agg [.int .i64 0, v23, .nil]) (y' := .agg [.int .i64 0, v23, .nil]) 1 hS rfl rfl rfl rfl rfl (by simp only [storA, List.all_cons, List.all_nil, qv23.stor]; rfl) rfl rfl fun H hS => ?_
        try simp only [W]
        refine seq_n hK45 ?_
        refine w_ret ?_
        refine fin_r hK0 (res_c rfl rfl (hS.var 1 rfl) rfl (res_tc rfl rfl)) ?_
        try obtain rfl := Option.some.inj h
        exact hP _ qv23 _ isSl_nil _ ((hS.nil_ 3).sel 4 [1, 0] (by decide))
theorem impl_in_w {a0 : Int} {a1 : Int} {a2 : Int} {r : (Bool)} (h : impl_in a0 a1 a2 = some r) {F : List It} {H : Heap} (hS : Own H (F)) {P : AV → Heap → Prop} (hP : ∀ H', Own H' (F) → P (.bool r) H') : ACall C 95 [.int .i64 a0, .int .i64 a1, .int .i64 a2] H P := by
  refine acall_of gC (res := [.tmp 6]) (n := 15) rfl rfl rfl rfl fun K0 hK0 => ?_
  simp only [W, Nat.reduceSub, Nat.reduceAdd, List.replicate]
  unfold impl_in at h
  refine w_seq fun K1 hK1 => ?_
  refine w_reg gC ?_
  try simp only [W, Nat.reduceAdd]
  refine seq_n hK1 ?_
  refine w_seq fun K2 hK2 => ?_
  refine w_reg gC ?_
  try simp only [W, EE, Nat.reduceAdd]
  refine w_grdT h (fun hc h => ?_) (fun hc h => ?_)
  · try simp only [W, EE, reduceIte, hc]
    refine seq_n hK2 ?_
    refine w_ret ?_
    refine fin_r1 hK0 rfl ?_
    try obtain rfl := Option.some.inj h
    exact hP _ hS
  · try simp only [W, hc]
    refine seq_n hK2 ?_
    refine w_ret ?_
    refine fin_r1 hK0 rfl ?_
    try obtain rfl := Option.some.inj h
    exact hP _ hS
theorem slices_IndexFunc_impl_Slip_w {a0 : List Slip} {g1 : Slip → Option Bool} {f1 : FuncId} {c1 : List AV} {r : (Int)} (h : slices_IndexFunc_impl_Slip a0 g1 = some r) {F : List It} {H : Heap} (hg1 : ∀ {x0 : Slip} {r : Bool}, g1 x0 = some r → ∀ (L : List It) (n : Nat), L.drop n = F → ∀ (H : Heap), Own H L → ∀ (P : AV → Heap → Prop), (∀ H', Own H' L → P (.bool r) H') → ACall C f1 ([.agg [.int .i64 x0.Kind, .int .i64 x0.Case, .int .i64 x0.What]] ++ c1) H P) (hS : Own H (F)) {P : AV → Heap → Prop} (hP : ∀ H', Own H' (F) → P (.int .i64 r) H') : ACall C 187 [.fz (a0.map e_Slip), .fn f1 c1] H P := by
  refine acall_of gC (res := [.tmp 4]) (n := 19) rfl rfl rfl rfl fun K0 hK0 => ?_
  simp only [W, Nat.reduceSub, Nat.reduceAdd, List.replicate]
  unfold slices_IndexFunc_impl_Slip at h
  refine w_seq fun K1 hK1 => ?_
  refine w_reg gC ?_
  try simp only [W, Nat.reduceAdd]
  refine seq_n hK1 ?_
  refine w_seq fun K2 hK2 => ?_
  refine w_seq fun K3 hK3 => ?_
  refine w_reg gC ?_
  try simp only [W, EE, Nat.reduceAdd]
  refine seq_n hK3 ?_
  obtain ⟨y5, hw6, g12⟩ := Option.bind_eq_some_iff.1 h
  refine w_join gC (fun s H => y5 = LR.next () ∧ s = [u, u, u, u, u, u, u, u, u, u, u, u, u, u, u, u, u, u, u] ∧ Own H (F)) (fun K7 hK7 => ?_) (fun s H hq => ?_)
  · refine w_blk fun K8 hK8 => ?_
    refine w_loop gC hw6 (fun x s H => s = [.fz (a0.map e_Slip), .fn f1 c1, u, u, u, u, u, .int .i64 (a0.length : Int), .int .i64 x, u, u, u, u, u, u, u, u, u, u] ∧ Own H (F)) ⟨rfl, hS⟩ (fun x4 y11 s H h hd10 hi K9 hK9 => ?_)
    skip
    try dsimp only at hi
    obtain ⟨rfl, hS⟩ := hi
    simp only [slices_IndexFunc_impl_Slip_l0] at h
    refine w_seq fun K13 hK13 => ?_
    refine w_reg gC ?_
    try simp only [W, EE, Nat.reduceAdd]
    refine seq_n hK13 ?_
    refine w_seq fun K14 hK14 => ?_
    refine w_if ?_
    simp only [W]
    refine w_cnd h (fun hc h => ?_) (fun hc h => ?_)
    · refine w_skip ?_
      refine seq_n hK14 ?_
      refine w_seq fun K15 hK15 => ?_
      refine w_blk fun K16 hK16 => ?_
      refine w_seq fun K17 hK17 => ?_
      refine w_reg gC ?_
      try simp only [W, Nat.reduceAdd]
      refine seq_n hK17 ?_
      refine w_seq fun K18 hK18 => ?_
      refine w_reg gC ?_
      try simp only [W, EE, Nat.reduceAdd]
      refine w_fz rfl rfl rfl (fun _ => rfl) h fun b19 hb19 h => ?_
      try simp only [W, EE, EN, reduceIte, Nat.reduceAdd, Nat.reduceLeDiff]
      refine w_call h fun b20 hb20 h => ?_
      refine hg1 hb20 _ 0 rfl _ hS _ fun H hS => ?_
      try simp only [W]
      refine seq_n hK18 ?_
      refine w_if ?_
      simp only [W]
      refine w_cnd h (fun hc h => ?_) (fun hc h => ?_)
      · refine w_seq fun K21 hK21 => ?_
        refine w_reg gC ?_
        try simp only [W, Nat.reduceAdd]
        refine seq_n hK21 ?_
        refine w_ret ?_
        refine blk_r hK16 ?_
        refine seq_r hK15 ?_
        try obtain rfl := Option.some.inj h
        obtain rfl := hd10 _ rfl
        have h : (some (LR.done x4) : Option (LR Unit (Int))) = some (LR.done x4) := rfl
        refine lp_r hK9 ?_
        refine blk_r hK8 ?_
        try obtain rfl := Option.some.inj h
        obtain rfl := Option.some.inj g12
        have h : (some x4 : Option (Int)) = some x4 := rfl
        refine cut_r hK7 ?_
        refine seq_r hK2 ?_
        refine fin_r1 hK0 rfl ?_
        try obtain rfl := Option.some.inj h
        exact hP _ hS
      · refine w_skip ?_
        refine blk_n0 hK16 ?_
        refine seq_n hK15 ?_
        refine w_reg gC ?_
        try simp only [W, EE, Nat.reduceAdd]
        exact lp_n hK9 h ⟨rfl, hS⟩
    · refine w_exit ?_
      refine seq_x hK14 ?_
      try obtain rfl := Option.some.inj h
      obtain rfl := hd10 _ rfl
      have h : (some (LR.next ()) : Option (LR Unit (Int))) = some (LR.next ()) := rfl
      refine lp_x hK9 ?_
      refine blk_e hK8 ?_
      exact cut_n hK7 ⟨(Option.some.inj h).symm, rfl, hS⟩
  · obtain ⟨rfl, rfl, hS⟩ := hq
    replace h := g12
    try dsimp only at h
    refine seq_n hK2 ?_
    refine w_seq fun K28 hK28 => ?_
    refine w_reg gC ?_
    try simp only [W, Nat.reduceAdd]
    refine seq_n hK28 ?_
    refine w_ret ?_
    refine fin_r1 hK0 rfl ?_
    try obtain rfl := Option.some.inj h
    exact hP _ hS
theorem slices_ContainsFunc_impl_Slip_w {a0 : List Slip} {g1 : Slip → Option Bool} {f1 : FuncId} {c1 : List AV} {r : (Bool)} (h : slices_ContainsFunc_impl_Slip a0 g1 = some r) {F : List It} {H : Heap} (hg1 : ∀ {x0 : Slip} {r : Bool}, g1 x0 = some r → ∀ (L : List It) (n : Nat), L.drop n = F → ∀ (H : Heap), Own H L → ∀ (P : AV → Heap → Prop), (∀ H', Own H' L → P (.bool r) H') → ACall C f1 ([.agg [.int .i64 x0.Kind, .int .i64 x0.Case, .int .i64 x0.What]] ++ c1) H P) (hS : Own H (F)) {P : AV → Heap → Prop} (hP : ∀ H', Own H' (F) → P (.bool r) H') : ACall C 169 [.fz (a0.map e_Slip), .fn f1 c1] H P := by
  refine acall_of gC (res := [.tmp 4]) (n := 9) rfl rfl rfl rfl fun K0 hK0 => ?_
  simp only [W, Nat.reduceSub, Nat.reduceAdd, List.replicate]
  unfold slices_ContainsFunc_impl_Slip at h
  refine w_seq fun K1 hK1 => ?_
  refine w_reg gC ?_
  try simp only [W, Nat.reduceAdd]
  refine seq_n hK1 ?_
  refine w_seq fun K2 hK2 => ?_
  refine w_reg gC ?_
  try simp only [W, Nat.reduceAdd]
  refine w_call h fun b3 hb3 h => ?_
  refine slices_IndexFunc_impl_Slip_w hb3 hg1 hS fun H hS => ?_
  try simp only [W, EE]
  refine seq_n hK2 ?_
  refine w_ret ?_
  refine fin_r1 hK0 rfl ?_
  try obtain rfl := Option.some.inj h
  exact hP _ hS
theorem impl_isVerdict_w {a0 : Int} {r : (Bool)} (h : impl_isVerdict a0 = some r) {F : List It} {H : Heap} (hS : Own H (F)) {P : AV → Heap → Prop} (hP : ∀ H', Own H' (F) → P (.bool r) H') : ACall C 188 [.int .i64 a0] H P := by
  refine acall_of gC (res := [.tmp 2]) (n := 9) rfl rfl rfl rfl fun K0 hK0 => ?_
  simp only [W, Nat.reduceSub, Nat.reduceAdd, List.replicate]
  unfold impl_isVerdict at h
  refine w_seq fun K1 hK1 => ?_
  refine w_reg gC ?_
  try simp only [W, Nat.reduceAdd]
  refine seq_n hK1 ?_
  refine w_seq fun K2 hK2 => ?_
  refine w_reg gC ?_
  try simp only [W, EE, Nat.reduceAdd]
  refine w_grdT h (fun hc h => ?_) (fun hc h => ?_)
  · try simp only [W, hc]
    refine seq_n hK2 ?_
    refine w_ret ?_
    refine fin_r1 hK0 rfl ?_
    try obtain rfl := Option.some.inj h
    exact hP _ hS
  · try simp only [W, EE, reduceIte, Bool.false_eq_true, hc]
    refine seq_n hK2 ?_
    refine w_ret ?_
    refine fin_r1 hK0 rfl ?_
    try obtain rfl := Option.some.inj h
    exact hP _ hS
theorem impl_Court_isSlip_w {a0 : Court} {a1 : Slip} {i0 : Nat} {w0 : Nat} {r : (Bool)} (h : impl_Court_isSlip a0 a1 = some r) {F : List It} {H : Heap} (hm0 : ⟨.ptr i0 w0 0 0, 3, [.agg [.int .i64 a0.Now, .fz (a0.Cases.map e_Case), .fz (a0.Line.map e_Slip)]]⟩ ∈ F) (hS : Own H (F)) {P : AV → Heap → Prop} (hP : ∀ H', Own H' (F) → P (.bool r) H') : ACall C 171 [.ptr i0 w0 0 0, .agg [.int .i64 a1.Kind, .int .i64 a1.Case, .int .i64 a1.What]] H P := by
  refine acall_of gC (res := [.tmp 4]) (n := 48) rfl rfl rfl rfl fun K0 hK0 => ?_
  simp only [W, Nat.reduceSub, Nat.reduceAdd, List.replicate]
  unfold impl_Court_isSlip at h
  refine w_seq fun K1 hK1 => ?_
  refine w_reg gC ?_
  try simp only [W, Nat.reduceAdd]
  refine w_box hS rfl rfl rfl rfl fun ip2 wp2 H hS => ?_
  try simp only [W]
  refine seq_n hK1 ?_
  refine w_seq fun K4 hK4 => ?_
  refine w_seq fun K5 hK5 => ?_
  refine w_draw0 gC (by kernel_rfl) ?_
  try simp only [W, EE, Nat.reduceAdd, Nat.reduceBEq, hS.varm (List.mem_cons_of_mem _ (hm0)), hS.var 0 rfl]
  refine w_callS (rsh := [[.sc]]) (ys := [.int .i64 a1.Case, .int .i64 0, .int .i64 (IntKind.i64.wrap ((a0.Cases.length : Int) - 1))]) h rfl (by rfl) fun b6 hb6 h => ⟨.bool b6, impl_in_w hb6 (Own.nil _) fun H hS => TV_ok rfl (TV_p rfl (TV_n rfl)), ⟨rfl, rfl, fun _ => rfl⟩, ?_⟩
  try simp only [W]
  refine seq_n hK5 ?_
  refine w_if ?_
  simp only [W]
  refine w_cnd h (fun hc h => ?_) (fun hc h => ?_)
  · refine w_seq fun K7 hK7 => ?_
    refine w_reg gC ?_
    try simp only [W, Nat.reduceAdd]
    refine seq_n hK7 ?_
    refine w_ret ?_
    refine seq_r hK4 ?_
    refine fin_r1 hK0 rfl ?_
    try obtain rfl := Option.some.inj h
    exact hP _ (hS.sel 1 [] (by decide))
  · refine w_skip ?_
    refine seq_n hK4 ?_
    refine w_seq fun K8 hK8 => ?_
    refine w_seq fun K9 hK9 => ?_
    refine w_reg gC ?_
    try simp only [W, EE, Nat.reduceAdd, Nat.reduceBEq, hS.var 0 rfl]
    refine seq_n hK9 ?_
    refine w_if ?_
    simp only [W]
    refine w_cnd h (fun hc h => ?_) (fun hc h => ?_)
    · refine w_seq fun K10 hK10 => ?_
      refine w_draw0 gC (by kernel_rfl) ?_
      try simp only [W, EE, Nat.reduceAdd, Nat.reduceBEq, hS.var 0 rfl]
      refine w_callS (rsh := [[.sc]]) (ys := [.int .i64 a1.What]) h rfl (by rfl) fun b11 hb11 h => ⟨.bool b11, impl_isVerdict_w hb11 (Own.nil _) fun H hS => TV_ok rfl (TV_p rfl (TV_n rfl)), ⟨rfl, rfl, fun _ => rfl⟩, ?_⟩
      try simp only [W]
      refine w_grdT h (fun hc h => ?_) (fun hc h => ?_)
      · try simp only [W, EE, Nat.reduceAdd, Nat.reduceBEq, hS.varm (List.mem_cons_of_mem _ (hm0)), hS.var 0 rfl, hc]
        refine w_fz rfl rfl rfl (fun _ => rfl) h fun b12 hb12 h => ?_
        try simp only [W, EE, EN, reduceIte, Nat.reduceAdd, Nat.reduceBEq]
        refine seq_n hK10 ?_
        refine w_ret ?_
        refine seq_r hK8 ?_
        refine fin_r1 hK0 rfl ?_
        try obtain rfl := Option.some.inj h
        exact hP _ (hS.sel 1 [] (by decide))
      · try simp only [W, hc]
        refine seq_n hK10 ?_
        refine w_ret ?_
        refine seq_r hK8 ?_
        refine fin_r1 hK0 rfl ?_
        try obtain rfl := Option.some.inj h
        exact hP _ (hS.sel 1 [] (by decide))
    · refine w_skip ?_
      refine seq_n hK8 ?_
      refine w_seq fun K13 hK13 => ?_
      refine w_reg gC ?_
      try simp only [W, EE, Nat.reduceAdd, Nat.reduceBEq, hS.var 0 rfl]
      refine w_grdT h (fun hc h => ?_) (fun hc h => ?_)
      · try simp only [W, EE, reduceIte, Nat.reduceAdd, Nat.reduceBEq, hS.var 0 rfl, hc]
        refine seq_n hK13 ?_
        refine w_ret ?_
        refine fin_r1 hK0 rfl ?_
        try obtain rfl := Option.some.inj h
        exact hP _ (hS.sel 1 [] (by decide))
      · try simp only [W, EE, reduceIte, Nat.reduceAdd, Nat.reduceBEq, Bool.false_eq_true, hS.var 0 rfl, hc]
        refine w_grdT h (fun hc h => ?_) (fun hc h => ?_)
        · try simp only [W, EE, reduceIte, Nat.reduceAdd, Nat.reduceBEq, hS.var 0 rfl, hc]
          refine seq_n hK13 ?_
          refine w_ret ?_
          refine fin_r1 hK0 rfl ?_
          try obtain rfl := Option.some.inj h
          exact hP _ (hS.sel 1 [] (by decide))
        · try simp only [W, hc]
          refine seq_n hK13 ?_
          refine w_ret ?_
          refine fin_r1 hK0 rfl ?_
          try obtain rfl := Option.some.inj h
          exact hP _ (hS.sel 1 [] (by decide))
theorem impl_GoodCourt_1_w {a0 : Slip} {a1 : Court} {i1 : Nat} {w1 : Nat} {r : (Bool)} (h : impl_GoodCourt_1 a0 a1 = some r) {F : List It} {H : Heap} (hm1 : ⟨.ptr i1 w1 0 0, 3, [.agg [.int .i64 a1.Now, .fz (a1.Cases.map e_Case), .fz (a1.Line.map e_Slip)]]⟩ ∈ F) (hS : Own H (F)) {P : AV → Heap → Prop} (hP : ∀ H', Own H' (F) → P (.bool r) H') : ACall C 170 [.agg [.int .i64 a0.Kind, .int .i64 a0.Case, .int .i64 a0.What], .ptr i1 w1 0 0] H P := by
  refine acall_of gC (res := [.tmp 3]) (n := 7) rfl rfl rfl rfl fun K0 hK0 => ?_
  simp only [W, Nat.reduceSub, Nat.reduceAdd, List.replicate]
  unfold impl_GoodCourt_1 at h
  refine w_seq fun K1 hK1 => ?_
  refine w_reg gC ?_
  try simp only [W, Nat.reduceAdd]
  refine w_box hS rfl rfl rfl rfl fun ip2 wp2 H hS => ?_
  try simp only [W]
  refine seq_n hK1 ?_
  refine w_seq fun K4 hK4 => ?_
  refine w_reg gC ?_
  try simp only [W, EE, reduceIte, Nat.reduceAdd, Nat.reduceLeDiff, hS.var 0 rfl]
  refine w_call h fun b5 hb5 h => ?_
  refine impl_Court_isSlip_w hb5 (List.mem_cons_of_mem _ (hm1)) hS fun H hS => ?_
  try simp only [W]
  refine seq_n hK4 ?_
  refine w_ret ?_
  refine fin_r1 hK0 rfl ?_
  try obtain rfl := Option.some.inj h
  exact hP _ (hS.sel 1 [] (by decide))
theorem impl_GoodCourt_w {a0 : Court} {r : (Bool)} (h : impl_GoodCourt a0 = some r) {F : List It} {H : Heap} (hS : Own H (F)) {P : AV → Heap → Prop} (hP : ∀ H', Own H' (F) → P (.bool r) H') : ACall C 104 [.agg [.int .i64 a0.Now, .fz (a0.Cases.map e_Case), .fz (a0.Line.map e_Slip)]] H P := by
  refine acall_of gC (res := [.tmp 2]) (n := 68) rfl rfl rfl rfl fun K0 hK0 => ?_
  simp only [W, Nat.reduceSub, Nat.reduceAdd, List.replicate]
  unfold impl_GoodCourt at h
  refine w_seq fun K1 hK1 => ?_
  refine w_reg gC ?_
  try simp only [W, Nat.reduceAdd]
  refine w_box hS rfl rfl rfl rfl fun ip2 wp2 H hS => ?_
  try simp only [W]
  refine seq_n hK1 ?_
  refine w_seq fun K4 hK4 => ?_
  refine w_seq fun K5 hK5 => ?_
  obtain ⟨y7, h, g8⟩ := Option.bind_eq_some_iff.1 h
  refine w_join gC (fun s H => ∃ x6 : Bool, y7 = (x6) ∧ s = [u, .ptr ip2 wp2 0 0, u, u, u, u, u, u, u, u, u, u, u, u, u, u, u, u, u, u, .bool x6, u, u, u, u, u, u, u, u, u, u, u, u, u, u, u, u, u, u, u, u, u, u, u, u, u, u, u, u, u, u, u, u, u, u, u, u, u, u, u, u, u, u, u, u, u, u, u] ∧ Own H (⟨.ptr ip2 wp2 0 0, 3, [.agg [.int .i64 a0.Now, .fz (a0.Cases.map e_Case), .fz (a0.Line.map e_Slip)]]⟩ :: F)) (fun K9 hK9 => ?_) (fun s H hq => ?_)
  · refine w_seq fun K10 hK10 => ?_
    refine w_reg gC ?_
    try simp only [W, EE, Nat.reduceAdd, Nat.reduceBEq, hS.var 0 rfl]
    refine w_call h fun b11 hb11 h => ?_
    refine impl_in_w hb11 hS fun H hS => ?_
    try simp only [W]
    refine w_grdT h (fun hc h => ?_) (fun hc h => ?_)
    · try simp only [W, hc]
      refine seq_n hK10 ?_
      refine w_kill ?_
      exact cut_n hK9 ⟨_, (Option.some.inj h).symm, rfl, hS⟩
    · try simp only [W, EE, reduceIte, Nat.reduceAdd, Nat.reduceBEq, Bool.false_eq_true, hS.var 0 rfl, hc]
      refine w_grdT h (fun hc h => ?_) (fun hc h => ?_)
      · try simp only [W, hc]
        refine seq_n hK10 ?_
        refine w_kill ?_
        exact cut_n hK9 ⟨_, (Option.some.inj h).symm, rfl, hS⟩
      · try simp only [W, EE, reduceIte, Nat.reduceAdd, Nat.reduceBEq, Bool.false_eq_true, hS.var 0 rfl, hc]
        refine seq_n hK10 ?_
        refine w_kill ?_
        exact cut_n hK9 ⟨_, (Option.some.inj h).symm, rfl, hS⟩
  · obtain ⟨x6, ey, rfl, hS⟩ := hq; obtain rfl := ey.symm
    replace h := g8
    try dsimp only at h
    refine seq_n hK5 ?_
    refine w_if ?_
    simp only [W]
    refine w_cnd h (fun hc h => ?_) (fun hc h => ?_)
    · refine w_seq fun K12 hK12 => ?_
      refine w_reg gC ?_
      try simp only [W, Nat.reduceAdd]
      refine seq_n hK12 ?_
      refine w_ret ?_
      refine seq_r hK4 ?_
      refine fin_r1 hK0 rfl ?_
      try obtain rfl := Option.some.inj h
      exact hP _ (hS.sel 1 [] (by decide))
    · refine w_skip ?_
      refine seq_n hK4 ?_
      refine w_seq fun K13 hK13 => ?_
      refine w_seq fun K14 hK14 => ?_
      refine w_reg gC ?_
      try simp only [W, EE, Nat.reduceAdd, Nat.reduceBEq, hS.var 0 rfl]
      refine seq_n hK14 ?_
      obtain ⟨y16, hw17, g23⟩ := Option.bind_eq_some_iff.1 h
      refine w_join gC (fun s H => y16 = LR.next () ∧ s = [u, .ptr ip2 wp2 0 0, u, u, u, u, u, u, u, u, u, u, u, u, u, u, u, u, u, u, u, u, u, u, u, u, u, u, u, u, u, u, u, u, u, u, u, u, u, u, u, u, u, u, u, u, u, u, u, u, u, u, u, u, u, u, u, u, u, u, u, u, u, u, u, u, u, u] ∧ Own H (⟨.ptr ip2 wp2 0 0, 3, [.agg [.int .i64 a0.Now, .fz (a0.Cases.map e_Case), .fz (a0.Line.map e_Slip)]]⟩ :: F)) (fun K18 hK18 => ?_) (fun s H hq => ?_)
      · refine w_blk fun K19 hK19 => ?_
        refine w_loop gC hw17 (fun x s H => s = [u, .ptr ip2 wp2 0 0, u, u, u, u, u, u, u, u, u, u, u, u, u, u, u, u, u, u, u, u, .fz (a0.Cases.map e_Case), .int .i64 (a0.Cases.length : Int), .int .i64 x, u, u, u, u, u, u, u, u, u, u, u, u, u, u, u, u, u, u, u, u, u, u, u, u, u, u, u, u, u, u, u, u, u, u, u, u, u, u, u, u, u, u, u] ∧ Own H (⟨.ptr ip2 wp2 0 0, 3, [.agg [.int .i64 a0.Now, .fz (a0.Cases.map e_Case), .fz (a0.Line.map e_Slip)]]⟩ :: F)) ⟨rfl, hS⟩ (fun x15 y22 s H h hd21 hi K20 hK20 => ?_)
        skip
        try dsimp only at hi
        obtain ⟨rfl, hS⟩ := hi
        simp only [impl_GoodCourt_l0] at h
        refine w_seq fun K24 hK24 => ?_
        refine w_reg gC ?_
        try simp only [W, EE, Nat.reduceAdd]
        refine seq_n hK24 ?_
        refine w_seq fun K25 hK25 => ?_
        refine w_if ?_
        simp only [W]
        refine w_cnd h (fun hc h => ?_) (fun hc h => ?_)
        · refine w_skip ?_
          refine seq_n hK25 ?_
          refine w_seq fun K26 hK26 => ?_
          refine w_blk fun K27 hK27 => ?_
          refine w_seq fun K28 hK28 => ?_
          refine w_reg gC ?_
          try simp only [W, EE, Nat.reduceAdd]
          refine w_fz rfl rfl rfl (fun _ => rfl) h fun b29 hb29 h => ?_
          try simp only [W, EE, EN, reduceIte, Nat.reduceAdd, Nat.reduceLeDiff]
          refine w_alloc hS rfl rfl fun ip30 wp30 H hS => ?_
          try simp only [W]
          refine w_stv (a := .agg [.int .i64 b29.End, .bool b29.Asks, .int .i64 b29.Final, .int .i64 b29.Said]) (y' := .agg [.int .i64 b29.End, .bool b29.Asks, .int .i64 b29.Final, .int .i64 b29.Said]) 0 hS rfl rfl rfl rfl rfl rfl rfl rfl fun H hS => ?_
          try simp only [W]
          refine seq_n hK28 ?_
          refine w_seq fun K32 hK32 => ?_
          obtain ⟨y34, h, g35⟩ := Option.bind_eq_some_iff.1 h
          refine w_join gC (fun s H => ∃ x33 : Bool, y34 = (x33) ∧ s = [u, .ptr ip2 wp2 0 0, u, u, u, u, u, u, u, u, u, u, u, u, u, u, u, u, u, u, u, u, .fz (a0.Cases.map e_Case), .int .i64 (a0.Cases.length : Int), .int .i64 x15, u, u, u, u, u, u, u, u, u, u, u, u, u, u, u, u, u, u, u, u, u, u, u, u, u, u, u, u, u, u, u, u, u, u, u, u, .bool x33, u, u, u, u, u, u] ∧ Own H (⟨.ptr ip2 wp2 0 0, 3, [.agg [.int .i64 a0.Now, .fz (a0.Cases.map e_Case), .fz (a0.Line.map e_Slip)]]⟩ :: F)) (fun K36 hK36 => ?_) (fun s H hq => ?_)
          · refine w_seq fun K37 hK37 => ?_
            refine w_reg gC ?_
            try simp only [W, EE, Nat.reduceAdd, Nat.reduceBEq, hS.var 0 rfl]
            refine w_call h fun b38 hb38 h => ?_
            refine impl_in_w hb38 hS fun H hS => ?_
            try simp only [W]
            refine w_grdT h (fun hc h => ?_) (fun hc h => ?_)
            · try simp only [W, hc]
              refine seq_n hK37 ?_
              refine w_kill ?_
              exact cut_n hK36 ⟨_, (Option.some.inj h).symm, rfl, (hS.sel 2 [1] (by decide))⟩
            · try simp only [W, EE, Nat.reduceAdd, Nat.reduceBEq, hS.var 0 rfl, hc]
              refine w_call h fun b39 hb39 h => ?_
              refine impl_in_w hb39 hS fun H hS => ?_
              try simp only [W, reduceIte, Bool.false_eq_true]
              refine w_grdT h (fun hc h => ?_) (fun hc h => ?_)
              · try simp only [W, hc]
                refine seq_n hK37 ?_
                refine w_kill ?_
                exact cut_n hK36 ⟨_, (Option.some.inj h).symm, rfl, (hS.sel 2 [1] (by decide))⟩
              · try simp only [W, EE, Nat.reduceAdd, Nat.reduceBEq, hS.var 0 rfl, hc]
                refine w_grdT h (fun hc h => ?_) (fun hc h => ?_)
                · try simp only [W, EE, reduceIte, Nat.reduceAdd, Nat.reduceBEq, Bool.false_eq_true, hS.var 0 rfl, hc]
                  refine w_grdT h (fun hc h => ?_) (fun hc h => ?_)
                  · try simp only [W, hc]
                    refine seq_n hK37 ?_
                    refine w_kill ?_
                    exact cut_n hK36 ⟨_, (Option.some.inj h).symm, rfl, (hS.sel 2 [1] (by decide))⟩
                  · try simp only [W, EE, Nat.reduceAdd, Nat.reduceBEq, hS.var 0 rfl, hc]
                    refine w_grdT h (fun hc h => ?_) (fun hc h => ?_)
                    · try simp only [W, EE, reduceIte, Nat.reduceAdd, Nat.reduceBEq, Bool.false_eq_true, hS.var 1 rfl, hS.var 0 rfl, hc]
                      refine seq_n hK37 ?_
                      refine w_kill ?_
                      exact cut_n hK36 ⟨_, (Option.some.inj h).symm, rfl, (hS.sel 2 [1] (by decide))⟩
                    · try simp only [W, reduceIte, Bool.false_eq_true, hc]
                      refine seq_n hK37 ?_
                      refine w_kill ?_
                      exact cut_n hK36 ⟨_, (Option.some.inj h).symm, rfl, (hS.sel 2 [1] (by decide))⟩
                · try simp only [W, EE, reduceIte, Nat.reduceAdd, Nat.reduceBEq, Bool.false_eq_true, hS.var 0 rfl, hc]
                  refine w_grdT h (fun hc h => ?_) (fun hc h => ?_)
                  · try simp only [W, EE, reduceIte, Nat.reduceAdd, Nat.reduceBEq, Bool.false_eq_true, hS.var 1 rfl, hS.var 0 rfl, hc]
                    refine seq_n hK37 ?_
                    refine w_kill ?_
                    exact cut_n hK36 ⟨_, (Option.some.inj h).symm, rfl, (hS.sel 2 [1] (by decide))⟩
                  · try simp only [W, reduceIte, Bool.false_eq_true, hc]
                    refine seq_n hK37 ?_
                    refine w_kill ?_
                    exact cut_n hK36 ⟨_, (Option.some.inj h).symm, rfl, (hS.sel 2 [1] (by decide))⟩
          · obtain ⟨x33, ey, rfl, hS⟩ := hq; obtain rfl := ey.symm
            replace h := g35
            try dsimp only at h
            refine seq_n hK32 ?_
            refine w_if ?_
            simp only [W]
            refine w_cnd h (fun hc h => ?_) (fun hc h => ?_)
            · refine w_seq fun K40 hK40 => ?_
              refine w_reg gC ?_
              try simp only [W, Nat.reduceAdd]
              refine seq_n hK40 ?_
              refine w_ret ?_
              refine blk_r hK27 ?_
              refine seq_r hK26 ?_
              try obtain rfl := Option.some.inj h
              obtain rfl := hd21 _ rfl
              have h : (some (LR.done false) : Option (LR Unit (Bool))) = some (LR.done false) := rfl
              refine lp_r hK20 ?_
              refine blk_r hK19 ?_
              try obtain rfl := Option.some.inj h
              obtain rfl := Option.some.inj g23
              have h : (some false : Option (Bool)) = some false := rfl
              refine cut_r hK18 ?_
              refine seq_r hK13 ?_
              refine fin_r1 hK0 rfl ?_
              try obtain rfl := Option.some.inj h
              exact hP _ (hS.sel 1 [] (by decide))
            · refine w_skip ?_
              refine blk_n0 hK27 ?_
              refine seq_n hK26 ?_
              refine w_reg gC ?_
              try simp only [W, EE, Nat.reduceAdd]
              exact lp_n hK20 h ⟨rfl, hS⟩
        · refine w_exit ?_
          refine seq_x hK25 ?_
          try obtain rfl := Option.some.inj h
          obtain rfl := hd21 _ rfl
          have h : (some (LR.next ()) : Option (LR Unit (Bool))) = some (LR.next ()) := rfl
          refine lp_x hK20 ?_
          refine blk_e hK19 ?_
          exact cut_n hK18 ⟨(Option.some.inj h).symm, rfl, hS⟩
      · obtain ⟨rfl, rfl, hS⟩ := hq
        replace h := g23
        try dsimp only at h
        refine seq_n hK13 ?_
        refine w_seq fun K47 hK47 => ?_
        refine w_reg gC ?_
        try simp only [W, EE, Nat.reduceAdd, Nat.reduceBEq, hS.var 0 rfl]
        refine w_call h fun b48 hb48 h => ?_
        refine slices_ContainsFunc_impl_Slip_w hb48 (fun h _ n hL _ hS _ hP => impl_GoodCourt_1_w h (memd hL (List.mem_of_getElem? (i := 0) rfl)) hS hP) hS fun H hS => ?_
        try simp only [W]
        refine seq_n hK47 ?_
        refine w_ret ?_
        refine fin_r1 hK0 rfl ?_
        try obtain rfl := Option.some.inj h
        exact hP _ (hS.sel 1 [] (by decide))
theorem impl_NewCourt_w {a0 : List Int} {r : (Court × Bool)} (h : impl_NewCourt a0 = some r) {F : List It} {H : Heap} (hS : Own H (F)) {P : AV → Heap → Prop} (hP : ∀ v41 : AV, isSl v41 → ∀ v43 : AV, isSl v43 → ∀ H', Own H' (⟨v41, 4, r.1.Cases.map e_Case⟩ :: ⟨v43, 3, r.1.Line.map e_Slip⟩ :: F) → P (.tup [.agg [.int .i64 r.1.Now, v41, v43], .bool r.2]) H') : ACall C 31 [.fz (a0.map (AV.int .i64))] H P := by
  refine acall_of gC (res := [.cell 2 44, .tmp 3]) (n := 27) rfl rfl rfl rfl fun K0 hK0 => ?_
  simp only [W, Nat.reduceSub, Nat.reduceAdd, List.replicate]
  unfold impl_NewCourt at h
  refine w_seq fun K1 hK1 => ?_
  refine w_reg gC ?_
  try simp only [W, Nat.reduceAdd]
  refine w_alloc hS rfl rfl fun ip2 wp2 H hS => ?_
  try simp only [W]
  refine seq_n hK1 ?_
  refine w_seq fun K4 hK4 => ?_
  refine w_reg gC ?_
  try simp only [W, EE, Nat.reduceAdd]
  refine w_bld rfl rfl rfl rfl rfl ?_
  try simp only [W]
  refine w_alloc hS rfl rfl fun ip5 wp5 H hS => ?_
  try simp only [W]
  refine w_stv (a := .agg [.int .i64 0, .nil, .nil]) (y' := .agg [.int .i64 0, .nil, .nil]) 0 hS rfl rfl rfl rfl rfl rfl rfl rfl fun H hS => ?_
  try simp only [W]
  refine seq_n hK4 ?_
  refine w_seq fun K7 hK7 => ?_
  refine w_seq fun K8 hK8 => ?_
  refine w_reg gC ?_
  try simp only [W, EE, Nat.reduceAdd]
  refine seq_n hK8 ?_
  obtain ⟨y15, hw16, g22⟩ := Option.bind_eq_some_iff.1 h
  refine w_join gC (fun s H => ∃ x13 : List Case, y15 = (x13) ∧ ∃ v14 : AV, isSl v14 ∧ s = [u, u, .ptr ip2 wp2 0 0, u, .ptr ip5 wp5 0 0, u, u, u, u, u, u, u, u, u, u, u, u, u, u, u, u, u, u, u, u, u, u] ∧ Own H (⟨v14, 4, x13.map e_Case⟩ :: ⟨.ptr ip2 wp2 0 0, 3, [.agg [.int .i64 0, .nil, .nil]]⟩ :: ⟨.ptr ip5 wp5 0 0, 3, [.agg [.int .i64 0, v14, .nil]]⟩ :: F)) (fun K17 hK17 => ?_) (fun s H hq => ?_)
  · refine w_blk fun K18 hK18 => ?_
    refine w_loop gC hw16 (fun x s H => match x with | (x9, x10) => ∃ v11 : AV, isSl v11 ∧ s = [u, u, .ptr ip2 wp2 0 0, u, .ptr ip5 wp5 0 0, u, u, u, .fz (a0.map (AV.int .i64)), .int .i64 (a0.length : Int), .int .i64 x9, u, u, u, u, u, u, u, u, u, u, u, u, u, u, u, u] ∧ Own H (⟨v11, 4, x10.map e_Case⟩ :: ⟨.ptr ip2 wp2 0 0, 3, [.agg [.int .i64 0, .nil, .nil]]⟩ :: ⟨.ptr ip5 wp5 0 0, 3, [.agg [.int .i64 0, v11, .nil]]⟩ :: F)) ⟨_, isSl_nil, rfl, ((hS.nil_ 4).sel 3 [0, 2, 1] (by decide))⟩ (fun x y21 s H h hd20 hi K19 hK19 => ?_)
    obtain ⟨x9, x10⟩ := x
    try dsimp only at hi
    obtain ⟨v11, qv11, rfl, hS⟩ := hi
    simp only [impl_NewCourt_l0] at h
    refine w_seq fun K23 hK23 => ?_
    refine w_reg gC ?_
    try simp only [W, EE, Nat.reduceAdd]
    refine seq_n hK23 ?_
    refine w_seq fun K24 hK24 => ?_
    refine w_if ?_
    simp only [W]
    refine w_cnd h (fun hc h => ?_) (fun hc h => ?_)
    · refine w_skip ?_
      refine seq_n hK24 ?_
      refine w_seq fun K25 hK25 => ?_
      refine w_blk fun K26 hK26 => ?_
      refine w_seq fun K27 hK27 => ?_
      refine w_reg gC ?_
      try simp only [W, EE, Nat.reduceAdd]
      refine w_fz rfl rfl rfl (fun _ => rfl) h fun b28 hb28 h => ?_
      try simp only [W, EE]
      refine seq_n hK27 ?_
      refine w_reg gC ?_
      try simp only [W, EE, Nat.reduceAdd, Nat.reduceBEq, hS.var 2 rfl]
      refine w_bld rfl rfl rfl rfl rfl ?_
      try simp only [W]
      refine w_lit (el := ([(⟨b28, false, 0, 0⟩ : Case)] : List Case).map e_Case) hS rfl rfl rfl rfl rfl rfl rfl fun v29 H qv29 hS => ?_
      try simp only [W, EE]
      refine w_appV (l := x10) (c := e_Case) 1 hS rfl qv11 rfl rfl rfl (hS.elems 0 rfl qv29) (fun _ => rfl) rfl h fun v32 H x31 qv32 hm h hS => ?_
      try simp only [W, EE, Nat.reduceAdd, Nat.reduceBEq, hS.var 3 rfl]
      refine w_stv (a := v32) (y' := .agg [.int .i64 0, v32, .nil]) 3 hS rfl rfl rfl rfl (by rw [qv32.cells]; rfl) qv32.stora (qv32.wr _ _ (by simp)) rfl fun H hS => ?_
      try simp only [W]
      refine blk_n0 hK26 ?_
      refine seq_n hK25 ?_
      refine w_reg gC ?_
      try simp only [W, EE, Nat.reduceAdd]
      exact lp_n hK19 h ⟨_, qv32, rfl, (hS.sel 4 [1, 2, 3] (by decide))⟩
    · refine w_exit ?_
      refine seq_x hK24 ?_
      try obtain rfl := Option.some.inj h
      obtain rfl := hd20 _ rfl
      have h : (some (x10) : Option ((List Case))) = some (x10) := rfl
      refine lp_x hK19 ?_
      refine blk_e hK18 ?_
      exact cut_n hK17 ⟨_, (Option.some.inj h).symm, _, qv11, rfl, hS⟩
  · obtain ⟨x13, ey, v14, qv14, rfl, hS⟩ := hq; obtain rfl := ey.symm
    replace h := g22
    try dsimp only at h
    refine seq_n hK7 ?_
    refine w_seq fun K36 hK36 => ?_
    refine w_seq fun K37 hK37 => ?_
    refine w_reg gC ?_
    try simp only [W, EE, reduceIte, Nat.reduceAdd, Nat.reduceLeDiff, hS.var 2 rfl]
    refine w_callS (rsh := [[.sc]]) (ys := [.agg [.int .i64 0, .fz (x13.map e_Case), .fz []]]) h rfl (pv_c (sn_agg (sm_c rfl (sm_c (sn_ow hS 0 rfl qv14 (fun _ => rfl)) (sm_c rfl (sm_n _))))) pv_n) fun b38 hb38 h => ⟨.bool b38, impl_GoodCourt_w hb38 (Own.nil _) fun H hS => TV_ok rfl (TV_p rfl (TV_n rfl)), ⟨rfl, rfl, fun _ => rfl⟩, ?_⟩
    try simp only [W]
    refine seq_n hK37 ?_
    refine w_if ?_
    simp only [W]
    refine w_cnd h (fun hc h => ?_) (fun hc h => ?_)
    · refine w_seq fun K39 hK39 => ?_
      refine w_reg gC ?_
      try simp only [W, EE, Nat.reduceAdd]
      refine w_bld rfl rfl rfl rfl rfl ?_
      try simp only [W]
      refine w_stv (a := .agg [.int .i64 0, .nil, .nil]) (y' := .agg [.int .i64 0, .nil, .nil]) 1 hS rfl rfl rfl rfl rfl rfl rfl rfl fun H hS => ?_
      try simp only [W]
      refine seq_n hK39 ?_
      refine w_ret ?_
      refine seq_r hK36 ?_
      refine fin_r hK0 (res_c rfl rfl (hS.var 1 rfl) rfl (res_tc rfl rfl)) ?_
      try obtain rfl := Option.some.inj h
      exact hP _ isSl_nil _ isSl_nil _ (((hS.nil_ 3).nil_ 4).sel 5 [0, 1] (by decide))
    · refine w_skip ?_
      refine seq_n hK36 ?_
      refine w_seq fun K40 hK40 => ?_
      refine w_reg gC ?_
      try simp only [W, EE, reduceIte, Nat.reduceAdd, Nat.reduceLeDiff, hS.var 2 rfl]
      refine w_stv (a := .agg [.int .i64 0, v14, .nil]) (y' := .agg [.int .i64 0, v14, .nil]) 1 hS rfl rfl rfl rfl rfl (by simp only [storA, List.all_cons, List.all_nil, qv14.stor]; rfl) rfl rfl fun H hS => ?_
      try simp only [W]
      refine seq_n hK40 ?_
      refine w_ret ?_
      refine fin_r hK0 (res_c rfl rfl (hS.var 1 rfl) rfl (res_tc rfl rfl)) ?_
      try obtain rfl := Option.some.inj h
      exact hP _ qv14 _ isSl_nil _ ((hS.nil_ 3).sel 4 [1, 0] (by decide))
theorem laws_eqCase_w {a0 : Case} {a1 : Case} {r : (Bool)} (h : laws_eqCase a0 a1 = some r) {F : List It} {H : Heap} (hS : Own H (F)) {P : AV → Heap → Prop} (hP : ∀ H', Own H' (F) → P (.bool r) H') : ACall C 174 [.agg [.int .i64 a0.End, .bool a0.Asks, .int .i64 a0.Final, .int .i64 a0.Said], .agg [.int .i64 a1.End, .bool a1.Asks, .int .i64 a1.Final, .int .i64 a1.Said]] H P := by
  refine acall_of gC (res := [.tmp 4]) (n := 25) rfl rfl rfl rfl fun K0 hK0 => ?_
  simp only [W, Nat.reduceSub, Nat.reduceAdd, List.replicate]
  unfold laws_eqCase at h
  refine w_seq fun K1 hK1 => ?_
  refine w_reg gC ?_
  try simp only [W, Nat.reduceAdd]
  refine w_box hS rfl rfl rfl rfl fun ip2 wp2 H hS => ?_
  try simp only [W]
  refine w_box hS rfl rfl rfl rfl fun ip4 wp4 H hS => ?_
  try simp only [W]
  refine seq_n hK1 ?_
  refine w_seq fun K6 hK6 => ?_
  refine w_seq fun K7 hK7 => ?_
  refine w_reg gC ?_
  try simp only [W, EE, Nat.reduceAdd, Nat.reduceBEq, hS.var 1 rfl, hS.var 0 rfl]
  refine seq_n hK7 ?_
  refine w_if ?_
  simp only [W]
  refine w_cnd h (fun hc h => ?_) (fun hc h => ?_)
  · refine w_seq fun K8 hK8 => ?_
    refine w_reg gC ?_
    try simp only [W, Nat.reduceAdd]
    refine seq_n hK8 ?_
    refine w_ret ?_
    refine seq_r hK6 ?_
    refine fin_r1 hK0 rfl ?_
    try obtain rfl := Option.some.inj h
    exact hP _ (hS.sel 2 [] (by decide))
  · refine w_skip ?_
    refine seq_n hK6 ?_
    refine w_seq fun K9 hK9 => ?_
    refine w_seq fun K10 hK10 => ?_
    refine w_reg gC ?_
    try simp only [W, EE, Nat.reduceAdd, Nat.reduceBEq, hS.var 1 rfl, hS.var 0 rfl]
    rw [b_bneq _ _ _ _ (h := rfl) rfl, resV_s]
    try simp only [W]
    refine seq_n hK10 ?_
    refine w_if ?_
    simp only [W]
    refine w_cnd h (fun hc h => ?_) (fun hc h => ?_)
    · refine w_seq fun K11 hK11 => ?_
      refine w_reg gC ?_
      try simp only [W, Nat.reduceAdd]
      refine seq_n hK11 ?_
      refine w_ret ?_
      refine seq_r hK9 ?_
      refine fin_r1 hK0 rfl ?_
      try obtain rfl := Option.some.inj h
      exact hP _ (hS.sel 2 [] (by decide))
    · refine w_skip ?_
      refine seq_n hK9 ?_
      refine w_seq fun K12 hK12 => ?_
      refine w_seq fun K13 hK13 => ?_
      refine w_reg gC ?_
      try simp only [W, EE, Nat.reduceAdd, Nat.reduceBEq, hS.var 1 rfl, hS.var 0 rfl]
      refine seq_n hK13 ?_
      refine w_if ?_
      simp only [W]
      refine w_cnd h (fun hc h => ?_) (fun hc h => ?_)
      · refine w_seq fun K14 hK14 => ?_
        refine w_reg gC ?_
        try simp only [W, Nat.reduceAdd]
        refine seq_n hK14 ?_
        refine w_ret ?_
        refine seq_r hK12 ?_
        refine fin_r1 hK0 rfl ?_
        try obtain rfl := Option.some.inj h
        exact hP _ (hS.sel 2 [] (by decide))
      · refine w_skip ?_
        refine seq_n hK12 ?_
        refine w_seq fun K15 hK15 => ?_
        refine w_seq fun K16 hK16 => ?_
        refine w_reg gC ?_
        try simp only [W, EE, Nat.reduceAdd, Nat.reduceBEq, hS.var 1 rfl, hS.var 0 rfl]
        refine seq_n hK16 ?_
        refine w_if ?_
        simp only [W]
        refine w_cnd h (fun hc h => ?_) (fun hc h => ?_)
        · refine w_seq fun K17 hK17 => ?_
          refine w_reg gC ?_
          try simp only [W, Nat.reduceAdd]
          refine seq_n hK17 ?_
          refine w_ret ?_
          refine seq_r hK15 ?_
          refine fin_r1 hK0 rfl ?_
          try obtain rfl := Option.some.inj h
          exact hP _ (hS.sel 2 [] (by decide))
        · refine w_skip ?_
          refine seq_n hK15 ?_
          refine w_seq fun K18 hK18 => ?_
          refine w_reg gC ?_
          try simp only [W, Nat.reduceAdd]
          refine seq_n hK18 ?_
          refine w_ret ?_
          refine fin_r1 hK0 rfl ?_
          try obtain rfl := Option.some.inj h
          exact hP _ (hS.sel 2 [] (by decide))
theorem laws_eqCaseS_w {a0 : List Case} {a1 : List Case} {r : (Bool)} (h : laws_eqCaseS a0 a1 = some r) {F : List It} {H : Heap} (hS : Own H (F)) {P : AV → Heap → Prop} (hP : ∀ H', Own H' (F) → P (.bool r) H') : ACall C 106 [.fz (a0.map e_Case), .fz (a1.map e_Case)] H P := by
  refine acall_of gC (res := [.tmp 4]) (n := 27) rfl rfl rfl rfl fun K0 hK0 => ?_
  simp only [W, Nat.reduceSub, Nat.reduceAdd, List.replicate]
  unfold laws_eqCaseS at h
  refine w_seq fun K1 hK1 => ?_
  refine w_reg gC ?_
  try simp only [W, Nat.reduceAdd]
  refine seq_n hK1 ?_
  refine w_seq fun K2 hK2 => ?_
  refine w_seq fun K3 hK3 => ?_
  refine w_reg gC ?_
  try simp only [W, EE, Nat.reduceAdd]
  refine seq_n hK3 ?_
  refine w_if ?_
  simp only [W]
  refine w_cnd h (fun hc h => ?_) (fun hc h => ?_)
  · refine w_seq fun K4 hK4 => ?_
    refine w_reg gC ?_
    try simp only [W, Nat.reduceAdd]
    refine seq_n hK4 ?_
    refine w_ret ?_
    refine seq_r hK2 ?_
    refine fin_r1 hK0 rfl ?_
    try obtain rfl := Option.some.inj h
    exact hP _ hS
  · refine w_skip ?_
    refine seq_n hK2 ?_
    refine w_seq fun K5 hK5 => ?_
    refine w_seq fun K6 hK6 => ?_
    refine w_reg gC ?_
    try simp only [W, Nat.reduceAdd]
    refine seq_n hK6 ?_
    obtain ⟨y8, hw9, g15⟩ := Option.bind_eq_some_iff.1 h
    refine w_join gC (fun s H => y8 = LR.next () ∧ s = [u, u, u, u, u, u, u, u, u, u, u, u, u, u, u, u, u, u, u, u, u, u, u, u, u, u, u] ∧ Own H (F)) (fun K10 hK10 => ?_) (fun s H hq => ?_)
    · refine w_blk fun K11 hK11 => ?_
      refine w_loop gC hw9 (fun x s H => s = [.fz (a0.map e_Case), .fz (a1.map e_Case), u, u, u, .int .i64 x, u, u, u, u, u, u, u, u, u, u, u, u, u, u, u, u, u, u, u, u, u] ∧ Own H (F)) ⟨rfl, hS⟩ (fun x7 y14 s H h hd13 hi K12 hK12 => ?_)
      skip
      try dsimp only at hi
      obtain ⟨rfl, hS⟩ := hi
      simp only [laws_eqCaseS_l0] at h
      refine w_seq fun K16 hK16 => ?_
      refine w_seq fun K17 hK17 => ?_
      refine w_reg gC ?_
      try simp only [W, EE, Nat.reduceAdd]
      refine seq_n hK17 ?_
      refine w_if ?_
      simp only [W]
      refine w_cnd h (fun hc h => ?_) (fun hc h => ?_)
      · refine w_skip ?_
        refine seq_n hK16 ?_
        refine w_seq fun K18 hK18 => ?_
        refine w_blk fun K19 hK19 => ?_
        refine w_seq fun K20 hK20 => ?_
        refine w_draw0 gC (by kernel_rfl) ?_
        try simp only [W, EE, Nat.reduceAdd]
        refine w_fz rfl rfl rfl (fun _ => rfl) h fun b21 hb21 h => ?_
        try simp only [W, EE, EN, reduceIte, Nat.reduceAdd, Nat.reduceLeDiff]
        refine w_fz rfl rfl rfl (fun _ => rfl) h fun b22 hb22 h => ?_
        try simp only [W, EE, EN, reduceIte, Nat.reduceAdd, Nat.reduceLeDiff]
        refine w_callS (rsh := [[.sc]]) (ys := [.agg [.int .i64 b21.End, .bool b21.Asks, .int .i64 b21.Final, .int .i64 b21.Said], .agg [.int .i64 b22.End, .bool b22.Asks, .int .i64 b22.Final, .int .i64 b22.Said]]) h rfl (by rfl) fun b23 hb23 h => ⟨.bool b23, laws_eqCase_w hb23 (Own.nil _) fun H hS => TV_ok rfl (TV_p rfl (TV_n rfl)), ⟨rfl, rfl, fun _ => rfl⟩, ?_⟩
        try simp only [W]
        refine seq_n hK20 ?_
        refine w_if ?_
        simp only [W]
        refine w_cnd h (fun hc h => ?_) (fun hc h => ?_)
        · refine w_seq fun K24 hK24 => ?_
          refine w_reg gC ?_
          try simp only [W, Nat.reduceAdd]
          refine seq_n hK24 ?_
          refine w_ret ?_
          refine blk_r hK19 ?_
          refine seq_r hK18 ?_
          try obtain rfl := Option.some.inj h
          obtain rfl := hd13 _ rfl
          have h : (some (LR.done false) : Option (LR Unit (Bool))) = some (LR.done false) := rfl
          refine lp_r hK12 ?_
          refine blk_r hK11 ?_
          try obtain rfl := Option.some.inj h
          obtain rfl := Option.some.inj g15
          have h : (some false : Option (Bool)) = some false := rfl
          refine cut_r hK10 ?_
          refine seq_r hK5 ?_
          refine fin_r1 hK0 rfl ?_
          try obtain rfl := Option.some.inj h
          exact hP _ hS
        · refine w_skip ?_
          refine blk_n0 hK19 ?_
          refine seq_n hK18 ?_
          refine w_reg gC ?_
          try simp only [W, EE, Nat.reduceAdd]
          exact lp_n hK12 h ⟨rfl, hS⟩
      · refine w_exit ?_
        refine seq_x hK16 ?_
        try obtain rfl := Option.some.inj h
        obtain rfl := hd13 _ rfl
        have h : (some (LR.next ()) : Option (LR Unit (Bool))) = some (LR.next ()) := rfl
        refine lp_x hK12 ?_
        refine blk_e hK11 ?_
        exact cut_n hK10 ⟨(Option.some.inj h).symm, rfl, hS⟩
    · obtain ⟨rfl, rfl, hS⟩ := hq
      replace h := g15
      try dsimp only at h
      refine seq_n hK5 ?_
      refine w_seq fun K31 hK31 => ?_
      refine w_reg gC ?_
      try simp only [W, Nat.reduceAdd]
      refine seq_n hK31 ?_
      refine w_ret ?_
      refine fin_r1 hK0 rfl ?_
      try obtain rfl := Option.some.inj h
      exact hP _ hS
theorem laws_eqSlip_w {a0 : Slip} {a1 : Slip} {r : (Bool)} (h : laws_eqSlip a0 a1 = some r) {F : List It} {H : Heap} (hS : Own H (F)) {P : AV → Heap → Prop} (hP : ∀ H', Own H' (F) → P (.bool r) H') : ACall C 175 [.agg [.int .i64 a0.Kind, .int .i64 a0.Case, .int .i64 a0.What], .agg [.int .i64 a1.Kind, .int .i64 a1.Case, .int .i64 a1.What]] H P := by
  refine acall_of gC (res := [.tmp 4]) (n := 20) rfl rfl rfl rfl fun K0 hK0 => ?_
  simp only [W, Nat.reduceSub, Nat.reduceAdd, List.replicate]
  unfold laws_eqSlip at h
  refine w_seq fun K1 hK1 => ?_
  refine w_reg gC ?_
  try simp only [W, Nat.reduceAdd]
  refine w_box hS rfl rfl rfl rfl fun ip2 wp2 H hS => ?_
  try simp only [W]
  refine w_box hS rfl rfl rfl rfl fun ip4 wp4 H hS => ?_
  try simp only [W]
  refine seq_n hK1 ?_
  refine w_seq fun K6 hK6 => ?_
  refine w_seq fun K7 hK7 => ?_
  refine w_reg gC ?_
  try simp only [W, EE, Nat.reduceAdd, Nat.reduceBEq, hS.var 1 rfl, hS.var 0 rfl]
  refine seq_n hK7 ?_
  refine w_if ?_
  simp only [W]
  refine w_cnd h (fun hc h => ?_) (fun hc h => ?_)
  · refine w_seq fun K8 hK8 => ?_
    refine w_reg gC ?_
    try simp only [W, Nat.reduceAdd]
    refine seq_n hK8 ?_
    refine w_ret ?_
    refine seq_r hK6 ?_
    refine fin_r1 hK0 rfl ?_
    try obtain rfl := Option.some.inj h
    exact hP _ (hS.sel 2 [] (by decide))
  · refine w_skip ?_
    refine seq_n hK6 ?_
    refine w_seq fun K9 hK9 => ?_
    refine w_seq fun K10 hK10 => ?_
    refine w_reg gC ?_
    try simp only [W, EE, Nat.reduceAdd, Nat.reduceBEq, hS.var 1 rfl, hS.var 0 rfl]
    refine seq_n hK10 ?_
    refine w_if ?_
    simp only [W]
    refine w_cnd h (fun hc h => ?_) (fun hc h => ?_)
    · refine w_seq fun K11 hK11 => ?_
      refine w_reg gC ?_
      try simp only [W, Nat.reduceAdd]
      refine seq_n hK11 ?_
      refine w_ret ?_
      refine seq_r hK9 ?_
      refine fin_r1 hK0 rfl ?_
      try obtain rfl := Option.some.inj h
      exact hP _ (hS.sel 2 [] (by decide))
    · refine w_skip ?_
      refine seq_n hK9 ?_
      refine w_seq fun K12 hK12 => ?_
      refine w_seq fun K13 hK13 => ?_
      refine w_reg gC ?_
      try simp only [W, EE, Nat.reduceAdd, Nat.reduceBEq, hS.var 1 rfl, hS.var 0 rfl]
      refine seq_n hK13 ?_
      refine w_if ?_
      simp only [W]
      refine w_cnd h (fun hc h => ?_) (fun hc h => ?_)
      · refine w_seq fun K14 hK14 => ?_
        refine w_reg gC ?_
        try simp only [W, Nat.reduceAdd]
        refine seq_n hK14 ?_
        refine w_ret ?_
        refine seq_r hK12 ?_
        refine fin_r1 hK0 rfl ?_
        try obtain rfl := Option.some.inj h
        exact hP _ (hS.sel 2 [] (by decide))
      · refine w_skip ?_
        refine seq_n hK12 ?_
        refine w_seq fun K15 hK15 => ?_
        refine w_reg gC ?_
        try simp only [W, Nat.reduceAdd]
        refine seq_n hK15 ?_
        refine w_ret ?_
        refine fin_r1 hK0 rfl ?_
        try obtain rfl := Option.some.inj h
        exact hP _ (hS.sel 2 [] (by decide))
theorem laws_eqSlipS_w {a0 : List Slip} {a1 : List Slip} {r : (Bool)} (h : laws_eqSlipS a0 a1 = some r) {F : List It} {H : Heap} (hS : Own H (F)) {P : AV → Heap → Prop} (hP : ∀ H', Own H' (F) → P (.bool r) H') : ACall C 107 [.fz (a0.map e_Slip), .fz (a1.map e_Slip)] H P := by
  refine acall_of gC (res := [.tmp 4]) (n := 27) rfl rfl rfl rfl fun K0 hK0 => ?_
  simp only [W, Nat.reduceSub, Nat.reduceAdd, List.replicate]
  unfold laws_eqSlipS at h
  refine w_seq fun K1 hK1 => ?_
  refine w_reg gC ?_
  try simp only [W, Nat.reduceAdd]
  refine seq_n hK1 ?_
  refine w_seq fun K2 hK2 => ?_
  refine w_seq fun K3 hK3 => ?_
  refine w_reg gC ?_
  try simp only [W, EE, Nat.reduceAdd]
  refine seq_n hK3 ?_
  refine w_if ?_
  simp only [W]
  refine w_cnd h (fun hc h => ?_) (fun hc h => ?_)
  · refine w_seq fun K4 hK4 => ?_
    refine w_reg gC ?_
    try simp only [W, Nat.reduceAdd]
    refine seq_n hK4 ?_
    refine w_ret ?_
    refine seq_r hK2 ?_
    refine fin_r1 hK0 rfl ?_
    try obtain rfl := Option.some.inj h
    exact hP _ hS
  · refine w_skip ?_
    refine seq_n hK2 ?_
    refine w_seq fun K5 hK5 => ?_
    refine w_seq fun K6 hK6 => ?_
    refine w_reg gC ?_
    try simp only [W, Nat.reduceAdd]
    refine seq_n hK6 ?_
    obtain ⟨y8, hw9, g15⟩ := Option.bind_eq_some_iff.1 h
    refine w_join gC (fun s H => y8 = LR.next () ∧ s = [u, u, u, u, u, u, u, u, u, u, u, u, u, u, u, u, u, u, u, u, u, u, u, u, u, u, u] ∧ Own H (F)) (fun K10 hK10 => ?_) (fun s H hq => ?_)
    · refine w_blk fun K11 hK11 => ?_
      refine w_loop gC hw9 (fun x s H => s = [.fz (a0.map e_Slip), .fz (a1.map e_Slip), u, u, u, .int .i64 x, u, u, u, u, u, u, u, u, u, u, u, u, u, u, u, u, u, u, u, u, u] ∧ Own H (F)) ⟨rfl, hS⟩ (fun x7 y14 s H h hd13 hi K12 hK12 => ?_)
      skip
      try dsimp only at hi
      obtain ⟨rfl, hS⟩ := hi
      simp only [laws_eqSlipS_l0] at h
      refine w_seq fun K16 hK16 => ?_
      refine w_seq fun K17 hK17 => ?_
      refine w_reg gC ?_
      try simp only [W, EE, Nat.reduceAdd]
      refine seq_n hK17 ?_
      refine w_if ?_
      simp only [W]
      refine w_cnd h (fun hc h => ?_) (fun hc h => ?_)
      · refine w_skip ?_
        refine seq_n hK16 ?_
        refine w_seq fun K18 hK18 => ?_
        refine w_blk fun K19 hK19 => ?_
        refine w_seq fun K20 hK20 => ?_
        refine w_draw0 gC (by kernel_rfl) ?_
        try simp only [W, EE, Nat.reduceAdd]
        refine w_fz rfl rfl rfl (fun _ => rfl) h fun b21 hb21 h => ?_
        try simp only [W, EE, EN, reduceIte, Nat.reduceAdd, Nat.reduceLeDiff]
        refine w_fz rfl rfl rfl (fun _ => rfl) h fun b22 hb22 h => ?_
        try simp only [W, EE, EN, reduceIte, Nat.reduceAdd, Nat.reduceLeDiff]
        refine w_callS (rsh := [[.sc]]) (ys := [.agg [.int .i64 b21.Kind, .int .i64 b21.Case, .int .i64 b21.What], .agg [.int .i64 b22.Kind, .int .i64 b22.Case, .int .i64 b22.What]]) h rfl (by rfl) fun b23 hb23 h => ⟨.bool b23, laws_eqSlip_w hb23 (Own.nil _) fun H hS => TV_ok rfl (TV_p rfl (TV_n rfl)), ⟨rfl, rfl, fun _ => rfl⟩, ?_⟩
        try simp only [W]
        refine seq_n hK20 ?_
        refine w_if ?_
        simp only [W]
        refine w_cnd h (fun hc h => ?_) (fun hc h => ?_)
        · refine w_seq fun K24 hK24 => ?_
          refine w_reg gC ?_
          try simp only [W, Nat.reduceAdd]
          refine seq_n hK24 ?_
          refine w_ret ?_
          refine blk_r hK19 ?_
          refine seq_r hK18 ?_
          try obtain rfl := Option.some.inj h
          obtain rfl := hd13 _ rfl
          have h : (some (LR.done false) : Option (LR Unit (Bool))) = some (LR.done false) := rfl
          refine lp_r hK12 ?_
          refine blk_r hK11 ?_
          try obtain rfl := Option.some.inj h
          obtain rfl := Option.some.inj g15
          have h : (some false : Option (Bool)) = some false := rfl
          refine cut_r hK10 ?_
          refine seq_r hK5 ?_
          refine fin_r1 hK0 rfl ?_
          try obtain rfl := Option.some.inj h
          exact hP _ hS
        · refine w_skip ?_
          refine blk_n0 hK19 ?_
          refine seq_n hK18 ?_
          refine w_reg gC ?_
          try simp only [W, EE, Nat.reduceAdd]
          exact lp_n hK12 h ⟨rfl, hS⟩
      · refine w_exit ?_
        refine seq_x hK16 ?_
        try obtain rfl := Option.some.inj h
        obtain rfl := hd13 _ rfl
        have h : (some (LR.next ()) : Option (LR Unit (Bool))) = some (LR.next ()) := rfl
        refine lp_x hK12 ?_
        refine blk_e hK11 ?_
        exact cut_n hK10 ⟨(Option.some.inj h).symm, rfl, hS⟩
    · obtain ⟨rfl, rfl, hS⟩ := hq
      replace h := g15
      try dsimp only at h
      refine seq_n hK5 ?_
      refine w_seq fun K31 hK31 => ?_
      refine w_reg gC ?_
      try simp only [W, Nat.reduceAdd]
      refine seq_n hK31 ?_
      refine w_ret ?_
      refine fin_r1 hK0 rfl ?_
      try obtain rfl := Option.some.inj h
      exact hP _ hS
theorem laws_eqCourt_w {a0 : Court} {a1 : Court} {r : (Bool)} (h : laws_eqCourt a0 a1 = some r) {F : List It} {H : Heap} (hS : Own H (F)) {P : AV → Heap → Prop} (hP : ∀ H', Own H' (F) → P (.bool r) H') : ACall C 28 [.agg [.int .i64 a0.Now, .fz (a0.Cases.map e_Case), .fz (a0.Line.map e_Slip)], .agg [.int .i64 a1.Now, .fz (a1.Cases.map e_Case), .fz (a1.Line.map e_Slip)]] H P := by
  refine acall_of gC (res := [.tmp 4]) (n := 22) rfl rfl rfl rfl fun K0 hK0 => ?_
  simp only [W, Nat.reduceSub, Nat.reduceAdd, List.replicate]
  unfold laws_eqCourt at h
  refine w_seq fun K1 hK1 => ?_
  refine w_reg gC ?_
  try simp only [W, Nat.reduceAdd]
  refine w_box hS rfl rfl rfl rfl fun ip2 wp2 H hS => ?_
  try simp only [W]
  refine w_box hS rfl rfl rfl rfl fun ip4 wp4 H hS => ?_
  try simp only [W]
  refine seq_n hK1 ?_
  refine w_seq fun K6 hK6 => ?_
  refine w_seq fun K7 hK7 => ?_
  refine w_reg gC ?_
  try simp only [W, EE, Nat.reduceAdd, Nat.reduceBEq, hS.var 1 rfl, hS.var 0 rfl]
  refine seq_n hK7 ?_
  refine w_if ?_
  simp only [W]
  refine w_cnd h (fun hc h => ?_) (fun hc h => ?_)
  · refine w_seq fun K8 hK8 => ?_
    refine w_reg gC ?_
    try simp only [W, Nat.reduceAdd]
    refine seq_n hK8 ?_
    refine w_ret ?_
    refine seq_r hK6 ?_
    refine fin_r1 hK0 rfl ?_
    try obtain rfl := Option.some.inj h
    exact hP _ (hS.sel 2 [] (by decide))
  · refine w_skip ?_
    refine seq_n hK6 ?_
    refine w_seq fun K9 hK9 => ?_
    refine w_seq fun K10 hK10 => ?_
    refine w_reg gC ?_
    try simp only [W, EE, Nat.reduceAdd, Nat.reduceBEq, hS.var 1 rfl, hS.var 0 rfl]
    refine w_call h fun b11 hb11 h => ?_
    refine laws_eqCaseS_w hb11 hS fun H hS => ?_
    try simp only [W]
    refine seq_n hK10 ?_
    refine w_if ?_
    simp only [W]
    refine w_cnd h (fun hc h => ?_) (fun hc h => ?_)
    · refine w_seq fun K12 hK12 => ?_
      refine w_reg gC ?_
      try simp only [W, Nat.reduceAdd]
      refine seq_n hK12 ?_
      refine w_ret ?_
      refine seq_r hK9 ?_
      refine fin_r1 hK0 rfl ?_
      try obtain rfl := Option.some.inj h
      exact hP _ (hS.sel 2 [] (by decide))
    · refine w_skip ?_
      refine seq_n hK9 ?_
      refine w_seq fun K13 hK13 => ?_
      refine w_seq fun K14 hK14 => ?_
      refine w_reg gC ?_
      try simp only [W, EE, Nat.reduceAdd, Nat.reduceBEq, hS.var 1 rfl, hS.var 0 rfl]
      refine w_call h fun b15 hb15 h => ?_
      refine laws_eqSlipS_w hb15 hS fun H hS => ?_
      try simp only [W]
      refine seq_n hK14 ?_
      refine w_if ?_
      simp only [W]
      refine w_cnd h (fun hc h => ?_) (fun hc h => ?_)
      · refine w_seq fun K16 hK16 => ?_
        refine w_reg gC ?_
        try simp only [W, Nat.reduceAdd]
        refine seq_n hK16 ?_
        refine w_ret ?_
        refine seq_r hK13 ?_
        refine fin_r1 hK0 rfl ?_
        try obtain rfl := Option.some.inj h
        exact hP _ (hS.sel 2 [] (by decide))
      · refine w_skip ?_
        refine seq_n hK13 ?_
        refine w_seq fun K17 hK17 => ?_
        refine w_reg gC ?_
        try simp only [W, Nat.reduceAdd]
        refine seq_n hK17 ?_
        refine w_ret ?_
        refine fin_r1 hK0 rfl ?_
        try obtain rfl := Option.some.inj h
        exact hP _ (hS.sel 2 [] (by decide))
theorem laws_eqIntS_w {a0 : List Int} {a1 : List Int} {r : (Bool)} (h : laws_eqIntS a0 a1 = some r) {F : List It} {H : Heap} (hS : Own H (F)) {P : AV → Heap → Prop} (hP : ∀ H', Own H' (F) → P (.bool r) H') : ACall C 32 [.fz (a0.map (AV.int .i64)), .fz (a1.map (AV.int .i64))] H P := by
  refine acall_of gC (res := [.tmp 4]) (n := 26) rfl rfl rfl rfl fun K0 hK0 => ?_
  simp only [W, Nat.reduceSub, Nat.reduceAdd, List.replicate]
  unfold laws_eqIntS at h
  refine w_seq fun K1 hK1 => ?_
  refine w_reg gC ?_
  try simp only [W, Nat.reduceAdd]
  refine seq_n hK1 ?_
  refine w_seq fun K2 hK2 => ?_
  refine w_seq fun K3 hK3 => ?_
  refine w_reg gC ?_
  try simp only [W, EE, Nat.reduceAdd]
  refine seq_n hK3 ?_
  refine w_if ?_
  simp only [W]
  refine w_cnd h (fun hc h => ?_) (fun hc h => ?_)
  · refine w_seq fun K4 hK4 => ?_
    refine w_reg gC ?_
    try simp only [W, Nat.reduceAdd]
    refine seq_n hK4 ?_
    refine w_ret ?_
    refine seq_r hK2 ?_
    refine fin_r1 hK0 rfl ?_
    try obtain rfl := Option.some.inj h
    exact hP _ hS
  · refine w_skip ?_
    refine seq_n hK2 ?_
    refine w_seq fun K5 hK5 => ?_
    refine w_seq fun K6 hK6 => ?_
    refine w_reg gC ?_
    try simp only [W, Nat.reduceAdd]
    refine seq_n hK6 ?_
    obtain ⟨y8, hw9, g15⟩ := Option.bind_eq_some_iff.1 h
    refine w_join gC (fun s H => y8 = LR.next () ∧ s = [u, u, u, u, u, u, u, u, u, u, u, u, u, u, u, u, u, u, u, u, u, u, u, u, u, u] ∧ Own H (F)) (fun K10 hK10 => ?_) (fun s H hq => ?_)
    · refine w_blk fun K11 hK11 => ?_
      refine w_loop gC hw9 (fun x s H => s = [.fz (a0.map (AV.int .i64)), .fz (a1.map (AV.int .i64)), u, u, u, .int .i64 x, u, u, u, u, u, u, u, u, u, u, u, u, u, u, u, u, u, u, u, u] ∧ Own H (F)) ⟨rfl, hS⟩ (fun x7 y14 s H h hd13 hi K12 hK12 => ?_)
      skip
      try dsimp only at hi
      obtain ⟨rfl, hS⟩ := hi
      simp only [laws_eqIntS_l0] at h
      refine w_seq fun K16 hK16 => ?_
      refine w_seq fun K17 hK17 => ?_
      refine w_reg gC ?_
      try simp only [W, EE, Nat.reduceAdd]
      refine seq_n hK17 ?_
      refine w_if ?_
      simp only [W]
      refine w_cnd h (fun hc h => ?_) (fun hc h => ?_)
      · refine w_skip ?_
        refine seq_n hK16 ?_
        refine w_seq fun K18 hK18 => ?_
        refine w_blk fun K19 hK19 => ?_
        refine w_seq fun K20 hK20 => ?_
        refine w_draw0 gC (by kernel_rfl) ?_
        try simp only [W, EE, Nat.reduceAdd]
        refine w_fz rfl rfl rfl (fun _ => rfl) h fun b21 hb21 h => ?_
        try simp only [W, EE]
        refine w_fz rfl rfl rfl (fun _ => rfl) h fun b22 hb22 h => ?_
        try simp only [W, EE]
        refine seq_n hK20 ?_
        refine w_if ?_
        simp only [W]
        refine w_cnd h (fun hc h => ?_) (fun hc h => ?_)
        · refine w_seq fun K23 hK23 => ?_
          refine w_reg gC ?_
          try simp only [W, Nat.reduceAdd]
          refine seq_n hK23 ?_
          refine w_ret ?_
          refine blk_r hK19 ?_
          refine seq_r hK18 ?_
          try obtain rfl := Option.some.inj h
          obtain rfl := hd13 _ rfl
          have h : (some (LR.done false) : Option (LR Unit (Bool))) = some (LR.done false) := rfl
          refine lp_r hK12 ?_
          refine blk_r hK11 ?_
          try obtain rfl := Option.some.inj h
          obtain rfl := Option.some.inj g15
          have h : (some false : Option (Bool)) = some false := rfl
          refine cut_r hK10 ?_
          refine seq_r hK5 ?_
          refine fin_r1 hK0 rfl ?_
          try obtain rfl := Option.some.inj h
          exact hP _ hS
        · refine w_skip ?_
          refine blk_n0 hK19 ?_
          refine seq_n hK18 ?_
          refine w_reg gC ?_
          try simp only [W, EE, Nat.reduceAdd]
          exact lp_n hK12 h ⟨rfl, hS⟩
      · refine w_exit ?_
        refine seq_x hK16 ?_
        try obtain rfl := Option.some.inj h
        obtain rfl := hd13 _ rfl
        have h : (some (LR.next ()) : Option (LR Unit (Bool))) = some (LR.next ()) := rfl
        refine lp_x hK12 ?_
        refine blk_e hK11 ?_
        exact cut_n hK10 ⟨(Option.some.inj h).symm, rfl, hS⟩
    · obtain ⟨rfl, rfl, hS⟩ := hq
      replace h := g15
      try dsimp only at h
      refine seq_n hK5 ?_
      refine w_seq fun K30 hK30 => ?_
      refine w_reg gC ?_
      try simp only [W, Nat.reduceAdd]
      refine seq_n hK30 ?_
      refine w_ret ?_
      refine fin_r1 hK0 rfl ?_
      try obtain rfl := Option.some.inj h
      exact hP _ hS
theorem laws_markIntS_w {a0 : List Int} {a1 : Int} {m0 : AV} {r : (Int × List Int)} (h : laws_markIntS a0 a1 = some r) {F : List It} {H : Heap} (hS : Own H (⟨m0, 1, a0.map (AV.int .i64)⟩ :: F)) (qm0 : isSl m0) {P : AV → Heap → Prop} (hP : ∀ H', Own H' (⟨m0, 1, r.2.map (AV.int .i64)⟩ :: F) → P (.int .i64 r.1) H') : ACall C 33 [m0, .int .i64 a1] H P := by
  refine acall_of gC (res := [.tmp 4]) (n := 19) rfl rfl rfl rfl fun K0 hK0 => ?_
  simp only [W, Nat.reduceSub, Nat.reduceAdd, List.replicate]
  unfold laws_markIntS at h
  refine w_seq fun K1 hK1 => ?_
  refine w_reg gC ?_
  try simp only [W, Nat.reduceAdd]
  refine seq_n hK1 ?_
  refine w_seq fun K2 hK2 => ?_
  refine w_seq fun K3 hK3 => ?_
  refine w_reg gC ?_
  try simp only [W, Nat.reduceAdd]
  refine seq_n hK3 ?_
  obtain ⟨y9, hw10, g16⟩ := Option.bind_eq_some_iff.1 h
  refine w_join gC (fun s H => ∃ x7 : Int, ∃ x8 : List Int, y9 = (x7, x8) ∧ s = [u, .int .i64 x7, u, u, u, u, u, u, u, u, u, u, u, u, u, u, u, u, u] ∧ Own H (⟨m0, 1, x8.map (AV.int .i64)⟩ :: F)) (fun K11 hK11 => ?_) (fun s H hq => ?_)
  · refine w_blk fun K12 hK12 => ?_
    refine w_loop gC hw10 (fun x s H => match x with | (x4, x5, x6) => s = [m0, .int .i64 x5, u, u, u, .int .i64 x6, u, u, u, u, u, u, u, u, u, u, u, u, u] ∧ Own H (⟨m0, 1, x4.map (AV.int .i64)⟩ :: F)) ⟨rfl, hS⟩ (fun x y15 s H h hd14 hi K13 hK13 => ?_)
    obtain ⟨x4, x5, x6⟩ := x
    try dsimp only at hi
    obtain ⟨rfl, hS⟩ := hi
    simp only [laws_markIntS_l0] at h
    refine w_seq fun K17 hK17 => ?_
    refine w_seq fun K18 hK18 => ?_
    refine w_reg gC ?_
    try simp only [W, EE, Nat.reduceAdd]
    refine w_len 0 hS rfl qm0 rfl ?_
    try simp only [W, EE]
    refine seq_n hK18 ?_
    refine w_if ?_
    simp only [W]
    refine w_cnd h (fun hc h => ?_) (fun hc h => ?_)
    · refine w_skip ?_
      refine seq_n hK17 ?_
      refine w_seq fun K19 hK19 => ?_
      refine w_blk fun K20 hK20 => ?_
      refine w_seq fun K21 hK21 => ?_
      refine w_reg gC ?_
      try simp only [W, EE, Nat.reduceAdd]
      refine w_ow 0 hS rfl rfl rfl rfl rfl h (fun b22 in23 wn23 on23 hb22 h en23 => ?_) qm0.ne
      obtain ⟨kn23, hbn23, hen23⟩ := hS.elem 0 rfl en23 hb22
      try simp only [W]
      refine w_ste (a := .int .i64 x5) (y' := x5) 0 hS rfl en23 hb22 rfl rfl rfl rfl rfl rfl rfl fun H hS => ?_
      try simp only [W]
      refine seq_n hK21 ?_
      refine w_reg gC ?_
      try simp only [W, EE, Nat.reduceAdd]
      refine blk_n0 hK20 ?_
      refine seq_n hK19 ?_
      refine w_reg gC ?_
      try simp only [W, EE, Nat.reduceAdd]
      exact lp_n hK13 h ⟨rfl, hS⟩
    · refine w_exit ?_
      refine seq_x hK17 ?_
      try obtain rfl := Option.some.inj h
      obtain rfl := hd14 _ rfl
      have h : (some (x5, x4) : Option (Int × (List Int))) = some (x5, x4) := rfl
      refine lp_x hK13 ?_
      refine blk_e hK12 ?_
      exact cut_n hK11 ⟨_, _, (Option.some.inj h).symm, rfl, hS⟩
  · obtain ⟨x7, x8, rfl, rfl, hS⟩ := hq
    replace h := g16
    try dsimp only at h
    refine seq_n hK2 ?_
    refine w_seq fun K26 hK26 => ?_
    refine w_reg gC ?_
    try simp only [W, Nat.reduceAdd]
    refine seq_n hK26 ?_
    refine w_ret ?_
    refine fin_r1 hK0 rfl ?_
    try obtain rfl := Option.some.inj h
    exact hP _ hS
theorem laws_markCaseS_w {a0 : List Case} {a1 : Int} {m0 : AV} {r : (Int × List Case)} (h : laws_markCaseS a0 a1 = some r) {F : List It} {H : Heap} (hS : Own H (⟨m0, 4, a0.map e_Case⟩ :: F)) (qm0 : isSl m0) {P : AV → Heap → Prop} (hP : ∀ H', Own H' (⟨m0, 4, r.2.map e_Case⟩ :: F) → P (.int .i64 r.1) H') : ACall C 109 [m0, .int .i64 a1] H P := by
  refine acall_of gC (res := [.tmp 4]) (n := 43) rfl rfl rfl rfl fun K0 hK0 => ?_
  simp only [W, Nat.reduceSub, Nat.reduceAdd, List.replicate]
  unfold laws_markCaseS at h
  refine w_seq fun K1 hK1 => ?_
  refine w_reg gC ?_
  try simp only [W, Nat.reduceAdd]
  refine seq_n hK1 ?_
  refine w_seq fun K2 hK2 => ?_
  refine w_seq fun K3 hK3 => ?_
  refine w_reg gC ?_
  try simp only [W, Nat.reduceAdd]
  refine seq_n hK3 ?_
  obtain ⟨y9, hw10, g16⟩ := Option.bind_eq_some_iff.1 h
  refine w_join gC (fun s H => ∃ x7 : Int, ∃ x8 : List Case, y9 = (x7, x8) ∧ s = [u, .int .i64 x7, u, u, u, u, u, u, u, u, u, u, u, u, u, u, u, u, u, u, u, u, u, u, u, u, u, u, u, u, u, u, u, u, u, u, u, u, u, u, u, u, u] ∧ Own H (⟨m0, 4, x8.map e_Case⟩ :: F)) (fun K11 hK11 => ?_) (fun s H hq => ?_)
  · refine w_blk fun K12 hK12 => ?_
    refine w_loop gC hw10 (fun x s H => match x with | (x4, x5, x6) => s = [m0, .int .i64 x5, u, u, u, .int .i64 x6, u, u, u, u, u, u, u, u, u, u, u, u, u, u, u, u, u, u, u, u, u, u, u, u, u, u, u, u, u, u, u, u, u, u, u, u, u] ∧ Own H (⟨m0, 4, x4.map e_Case⟩ :: F)) ⟨rfl, hS⟩ (fun x y15 s H h hd14 hi K13 hK13 => ?_)
    obtain ⟨x4, x5, x6⟩ := x
    try dsimp only at hi
    obtain ⟨rfl, hS⟩ := hi
    simp only [laws_markCaseS_l0] at h
    refine w_seq fun K17 hK17 => ?_
    refine w_seq fun K18 hK18 => ?_
    refine w_reg gC ?_
    try simp only [W, EE, Nat.reduceAdd]
    refine w_len 0 hS rfl qm0 rfl ?_
    try simp only [W, EE]
    refine seq_n hK18 ?_
    refine w_if ?_
    simp only [W]
    refine w_cnd h (fun hc h => ?_) (fun hc h => ?_)
    · refine w_skip ?_
      refine seq_n hK17 ?_
      refine w_seq fun K19 hK19 => ?_
      refine w_blk fun K20 hK20 => ?_
      refine w_seq fun K21 hK21 => ?_
      refine w_reg gC ?_
      try simp only [W, EE, Nat.reduceAdd]
      refine w_ow 0 hS rfl rfl rfl rfl rfl h (fun b22 in23 wn23 on23 hb22 h en23 => ?_) qm0.ne
      obtain ⟨kn23, hbn23, hen23⟩ := hS.elem 0 rfl en23 hb22
      try simp only [W, EE, Nat.reduceAdd, Nat.reduceBEq, hbn23]
      refine w_ste (a := .int .i64 x5) (y' := (⟨x5, b22.Asks, b22.Final, b22.Said⟩ : Case)) 0 hS rfl en23 hb22 rfl rfl rfl rfl rfl rfl rfl fun H hS => ?_
      try simp only [W]
      refine seq_n hK21 ?_
      refine w_seq fun K24 hK24 => ?_
      refine w_reg gC ?_
      try simp only [W, EE, Nat.reduceAdd]
      refine seq_n hK24 ?_
      refine w_seq fun K25 hK25 => ?_
      refine w_reg gC ?_
      try simp only [W, EE, Nat.reduceAdd]
      rw [md_lit _ _ rfl, Option.map_some, resV_s]
      try simp only [W, EE]
      refine w_ow 0 hS rfl rfl rfl rfl rfl h (fun b26 in27 wn27 on27 hb26 h en27 => ?_) qm0.ne
      obtain ⟨kn27, hbn27, hen27⟩ := hS.elem 0 rfl en27 hb26
      try simp only [W, EE, Nat.reduceAdd, Nat.reduceBEq, hbn27]
      refine w_ste (a := .bool ((Int.tmod (IntKind.i64.wrap (x5 + 1)) 3) == 0)) (y' := (⟨b26.End, ((Int.tmod (IntKind.i64.wrap (x5 + 1)) 3) == 0), b26.Final, b26.Said⟩ : Case)) 0 hS rfl en27 hb26 rfl rfl rfl rfl rfl rfl rfl fun H hS => ?_
      try simp only [W]
      refine seq_n hK25 ?_
      refine w_seq fun K28 hK28 => ?_
      refine w_reg gC ?_
      try simp only [W, EE, Nat.reduceAdd]
      refine seq_n hK28 ?_
      refine w_seq fun K29 hK29 => ?_
      refine w_reg gC ?_
      try simp only [W, EE, Nat.reduceAdd]
      refine w_ow 0 hS rfl rfl rfl rfl rfl h (fun b30 in31 wn31 on31 hb30 h en31 => ?_) qm0.ne
      obtain ⟨kn31, hbn31, hen31⟩ := hS.elem 0 rfl en31 hb30
      try simp only [W, EE, Nat.reduceAdd, Nat.reduceBEq, hbn31]
      refine w_ste (a := .int .i64 (IntKind.i64.wrap ((IntKind.i64.wrap (x5 + 1)) + 1))) (y' := (⟨b30.End, b30.Asks, (IntKind.i64.wrap ((IntKind.i64.wrap (x5 + 1)) + 1)), b30.Said⟩ : Case)) 0 hS rfl en31 hb30 rfl rfl rfl rfl rfl rfl rfl fun H hS => ?_
      try simp only [W]
      refine seq_n hK29 ?_
      refine w_seq fun K32 hK32 => ?_
      refine w_reg gC ?_
      try simp only [W, EE, Nat.reduceAdd]
      refine seq_n hK32 ?_
      refine w_seq fun K33 hK33 => ?_
      refine w_reg gC ?_
      try simp only [W, EE, Nat.reduceAdd]
      refine w_ow 0 hS rfl rfl rfl rfl rfl h (fun b34 in35 wn35 on35 hb34 h en35 => ?_) qm0.ne
      obtain ⟨kn35, hbn35, hen35⟩ := hS.elem 0 rfl en35 hb34
      try simp only [W, EE, Nat.reduceAdd, Nat.reduceBEq, hbn35]
      refine w_ste (a := .int .i64 (IntKind.i64.wrap ((IntKind.i64.wrap ((IntKind.i64.wrap (x5 + 1)) + 1)) + 1))) (y' := (⟨b34.End, b34.Asks, b34.Final, (IntKind.i64.wrap ((IntKind.i64.wrap ((IntKind.i64.wrap (x5 + 1)) + 1)) + 1))⟩ : Case)) 0 hS rfl en35 hb34 rfl rfl rfl rfl rfl rfl rfl fun H hS => ?_
      try simp only [W]
      refine seq_n hK33 ?_
      refine w_reg gC ?_
      try simp only [W, EE, Nat.reduceAdd]
      refine blk_n0 hK20 ?_
      refine seq_n hK19 ?_
      refine w_reg gC ?_
      try simp only [W, EE, Nat.reduceAdd]
      exact lp_n hK13 h ⟨rfl, hS⟩
    · refine w_exit ?_
      refine seq_x hK17 ?_
      try obtain rfl := Option.some.inj h
      obtain rfl := hd14 _ rfl
      have h : (some (x5, x4) : Option (Int × (List Case))) = some (x5, x4) := rfl
      refine lp_x hK13 ?_
      refine blk_e hK12 ?_
      exact cut_n hK11 ⟨_, _, (Option.some.inj h).symm, rfl, hS⟩
  · obtain ⟨x7, x8, rfl, rfl, hS⟩ := hq
    replace h := g16
    try dsimp only at h
    refine seq_n hK2 ?_
    refine w_seq fun K38 hK38 => ?_
    refine w_reg gC ?_
    try simp only [W, Nat.reduceAdd]
    refine seq_n hK38 ?_
    refine w_ret ?_
    refine fin_r1 hK0 rfl ?_
    try obtain rfl := Option.some.inj h
    exact hP _ hS
theorem laws_markSlipS_w {a0 : List Slip} {a1 : Int} {m0 : AV} {r : (Int × List Slip)} (h : laws_markSlipS a0 a1 = some r) {F : List It} {H : Heap} (hS : Own H (⟨m0, 3, a0.map e_Slip⟩ :: F)) (qm0 : isSl m0) {P : AV → Heap → Prop} (hP : ∀ H', Own H' (⟨m0, 3, r.2.map e_Slip⟩ :: F) → P (.int .i64 r.1) H') : ACall C 110 [m0, .int .i64 a1] H P := by
  refine acall_of gC (res := [.tmp 4]) (n := 34) rfl rfl rfl rfl fun K0 hK0 => ?_
  simp only [W, Nat.reduceSub, Nat.reduceAdd, List.replicate]
  unfold laws_markSlipS at h
  refine w_seq fun K1 hK1 => ?_
  refine w_reg gC ?_
  try simp only [W, Nat.reduceAdd]
  refine seq_n hK1 ?_
  refine w_seq fun K2 hK2 => ?_
  refine w_seq fun K3 hK3 => ?_
  refine w_reg gC ?_
  try simp only [W, Nat.reduceAdd]
  refine seq_n hK3 ?_
  obtain ⟨y9, hw10, g16⟩ := Option.bind_eq_some_iff.1 h
  refine w_join gC (fun s H => ∃ x7 : Int, ∃ x8 : List Slip, y9 = (x7, x8) ∧ s = [u, .int .i64 x7, u, u, u, u, u, u, u, u, u, u, u, u, u, u, u, u, u, u, u, u, u, u, u, u, u, u, u, u, u, u, u, u] ∧ Own H (⟨m0, 3, x8.map e_Slip⟩ :: F)) (fun K11 hK11 => ?_) (fun s H hq => ?_)
  · refine w_blk fun K12 hK12 => ?_
    refine w_loop gC hw10 (fun x s H => match x with | (x4, x5, x6) => s = [m0, .int .i64 x5, u, u, u, .int .i64 x6, u, u, u, u, u, u, u, u, u, u, u, u, u, u, u, u, u, u, u, u, u, u, u, u, u, u, u, u] ∧ Own H (⟨m0, 3, x4.map e_Slip⟩ :: F)) ⟨rfl, hS⟩ (fun x y15 s H h hd14 hi K13 hK13 => ?_)
    obtain ⟨x4, x5, x6⟩ := x
    try dsimp only at hi
    obtain ⟨rfl, hS⟩ := hi
    simp only [laws_markSlipS_l0] at h
    refine w_seq fun K17 hK17 => ?_
    refine w_seq fun K18 hK18 => ?_
    refine w_reg gC ?_
    try simp only [W, EE, Nat.reduceAdd]
    refine w_len 0 hS rfl qm0 rfl ?_
    try simp only [W, EE]
    refine seq_n hK18 ?_
    refine w_if ?_
    simp only [W]
    refine w_cnd h (fun hc h => ?_) (fun hc h => ?_)
    · refine w_skip ?_
      refine seq_n hK17 ?_
      refine w_seq fun K19 hK19 => ?_
      refine w_blk fun K20 hK20 => ?_
      refine w_seq fun K21 hK21 => ?_
      refine w_reg gC ?_
      try simp only [W, EE, Nat.reduceAdd]
      refine w_ow 0 hS rfl rfl rfl rfl rfl h (fun b22 in23 wn23 on23 hb22 h en23 => ?_) qm0.ne
      obtain ⟨kn23, hbn23, hen23⟩ := hS.elem 0 rfl en23 hb22
      try simp only [W, EE, Nat.reduceAdd, Nat.reduceBEq, hbn23]
      refine w_ste (a := .int .i64 x5) (y' := (⟨x5, b22.Case, b22.What⟩ : Slip)) 0 hS rfl en23 hb22 rfl rfl rfl rfl rfl rfl rfl fun H hS => ?_
      try simp only [W]
      refine seq_n hK21 ?_
      refine w_seq fun K24 hK24 => ?_
      refine w_reg gC ?_
      try simp only [W, EE, Nat.reduceAdd]
      refine seq_n hK24 ?_
      refine w_seq fun K25 hK25 => ?_
      refine w_reg gC ?_
      try simp only [W, EE, Nat.reduceAdd]
      refine w_ow 0 hS rfl rfl rfl rfl rfl h (fun b26 in27 wn27 on27 hb26 h en27 => ?_) qm0.ne
      obtain ⟨kn27, hbn27, hen27⟩ := hS.elem 0 rfl en27 hb26
      try simp only [W, EE, Nat.reduceAdd, Nat.reduceBEq, hbn27]
      refine w_ste (a := .int .i64 (IntKind.i64.wrap (x5 + 1))) (y' := (⟨b26.Kind, (IntKind.i64.wrap (x5 + 1)), b26.What⟩ : Slip)) 0 hS rfl en27 hb26 rfl rfl rfl rfl rfl rfl rfl fun H hS => ?_
      try simp only [W]
      refine seq_n hK25 ?_
      refine w_seq fun K28 hK28 => ?_
      refine w_reg gC ?_
      try simp only [W, EE, Nat.reduceAdd]
      refine seq_n hK28 ?_
      refine w_seq fun K29 hK29 => ?_
      refine w_reg gC ?_
      try simp only [W, EE, Nat.reduceAdd]
      refine w_ow 0 hS rfl rfl rfl rfl rfl h (fun b30 in31 wn31 on31 hb30 h en31 => ?_) qm0.ne
      obtain ⟨kn31, hbn31, hen31⟩ := hS.elem 0 rfl en31 hb30
      try simp only [W, EE, Nat.reduceAdd, Nat.reduceBEq, hbn31]
      refine w_ste (a := .int .i64 (IntKind.i64.wrap ((IntKind.i64.wrap (x5 + 1)) + 1))) (y' := (⟨b30.Kind, b30.Case, (IntKind.i64.wrap ((IntKind.i64.wrap (x5 + 1)) + 1))⟩ : Slip)) 0 hS rfl en31 hb30 rfl rfl rfl rfl rfl rfl rfl fun H hS => ?_
      try simp only [W]
      refine seq_n hK29 ?_
      refine w_reg gC ?_
      try simp only [W, EE, Nat.reduceAdd]
      refine blk_n0 hK20 ?_
      refine seq_n hK19 ?_
      refine w_reg gC ?_
      try simp only [W, EE, Nat.reduceAdd]
      exact lp_n hK13 h ⟨rfl, hS⟩
    · refine w_exit ?_
      refine seq_x hK17 ?_
      try obtain rfl := Option.some.inj h
      obtain rfl := hd14 _ rfl
      have h : (some (x5, x4) : Option (Int × (List Slip))) = some (x5, x4) := rfl
      refine lp_x hK13 ?_
      refine blk_e hK12 ?_
      exact cut_n hK11 ⟨_, _, (Option.some.inj h).symm, rfl, hS⟩
  · obtain ⟨x7, x8, rfl, rfl, hS⟩ := hq
    replace h := g16
    try dsimp only at h
    refine seq_n hK2 ?_
    refine w_seq fun K34 hK34 => ?_
    refine w_reg gC ?_
    try simp only [W, Nat.reduceAdd]
    refine seq_n hK34 ?_
    refine w_ret ?_
    refine fin_r1 hK0 rfl ?_
    try obtain rfl := Option.some.inj h
    exact hP _ hS
theorem laws_markCourt_w {a0 : Court} {a1 : Int} {m1 : AV} {m2 : AV} {r : (Int × List Case × List Slip)} (h : laws_markCourt a0 a1 = some r) {F : List It} {H : Heap} (hS : Own H (⟨m1, 4, a0.Cases.map e_Case⟩ :: ⟨m2, 3, a0.Line.map e_Slip⟩ :: F)) (qm1 : isSl m1) (qm2 : isSl m2) {P : AV → Heap → Prop} (hP : ∀ H', Own H' (⟨m1, 4, r.2.1.map e_Case⟩ :: ⟨m2, 3, r.2.2.map e_Slip⟩ :: F) → P (.int .i64 r.1) H') : ACall C 34 [.agg [.int .i64 a0.Now, m1, m2], .int .i64 a1] H P := by
  refine acall_of gC (res := [.tmp 4]) (n := 14) rfl rfl rfl rfl fun K0 hK0 => ?_
  simp only [W, Nat.reduceSub, Nat.reduceAdd, List.replicate]
  unfold laws_markCourt at h
  refine w_seq fun K1 hK1 => ?_
  refine w_reg gC ?_
  try simp only [W, Nat.reduceAdd]
  refine w_box hS rfl rfl rfl (by simp only [W, storA, List.all_cons, List.all_nil, qm1.stor, qm2.stor]; rfl) fun ip2 wp2 H hS => ?_
  try simp only [W]
  refine seq_n hK1 ?_
  refine w_seq fun K4 hK4 => ?_
  refine w_reg gC ?_
  try simp only [W, EE, Nat.reduceAdd, Nat.reduceBEq, hS.var 0 rfl]
  refine w_call h fun b5 hb5 h => ?_
  obtain ⟨b6, b7⟩ := b5
  try dsimp only at h
  refine laws_markCaseS_w hb5 (hS.sel 3 [1, 0, 2] (by decide)) qm1 fun H hS => ?_
  try simp only [W]
  refine seq_n hK4 ?_
  refine w_seq fun K8 hK8 => ?_
  refine w_reg gC ?_
  try simp only [W, EE, Nat.reduceAdd, Nat.reduceBEq, hS.var 1 rfl]
  refine w_call h fun b9 hb9 h => ?_
  obtain ⟨b10, b11⟩ := b9
  try dsimp only at h
  refine laws_markSlipS_w hb9 (hS.sel 3 [2, 0, 1] (by decide)) qm2 fun H hS => ?_
  try simp only [W]
  refine seq_n hK8 ?_
  refine w_seq fun K12 hK12 => ?_
  refine w_reg gC ?_
  try simp only [W, Nat.reduceAdd]
  refine seq_n hK12 ?_
  refine w_ret ?_
  refine fin_r1 hK0 rfl ?_
  try obtain rfl := Option.some.inj h
  exact hP _ (hS.sel 3 [1, 0] (by decide))
theorem laws_heldCaseS_w {a0 : List Case} {a1 : Int} {r : (Int)} (h : laws_heldCaseS a0 a1 = some r) {F : List It} {H : Heap} (hS : Own H (F)) {P : AV → Heap → Prop} (hP : ∀ H', Own H' (F) → P (.int .i64 r) H') : ACall C 111 [.fz (a0.map e_Case), .int .i64 a1] H P := by
  refine acall_of gC (res := [.tmp 4]) (n := 51) rfl rfl rfl rfl fun K0 hK0 => ?_
  simp only [W, Nat.reduceSub, Nat.reduceAdd, List.replicate]
  unfold laws_heldCaseS at h
  refine w_seq fun K1 hK1 => ?_
  refine w_reg gC ?_
  try simp only [W, Nat.reduceAdd]
  refine seq_n hK1 ?_
  refine w_seq fun K2 hK2 => ?_
  refine w_seq fun K3 hK3 => ?_
  refine w_reg gC ?_
  try simp only [W, Nat.reduceAdd]
  refine seq_n hK3 ?_
  obtain ⟨y7, hw8, g14⟩ := Option.bind_eq_some_iff.1 h
  refine w_join gC (fun s H => ∃ x6 : Int, y7 = LR.next (x6) ∧ s = [u, .int .i64 x6, u, u, u, u, u, u, u, u, u, u, u, u, u, u, u, u, u, u, u, u, u, u, u, u, u, u, u, u, u, u, u, u, u, u, u, u, u, u, u, u, u, u, u, u, u, u, u, u, u] ∧ Own H (F)) (fun K9 hK9 => ?_) (fun s H hq => ?_)
  · refine w_blk fun K10 hK10 => ?_
    refine w_loop gC hw8 (fun x s H => match x with | (x4, x5) => s = [.fz (a0.map e_Case), .int .i64 x4, u, u, u, .int .i64 x5, u, u, u, u, u, u, u, u, u, u, u, u, u, u, u, u, u, u, u, u, u, u, u, u, u, u, u, u, u, u, u, u, u, u, u, u, u, u, u, u, u, u, u, u, u] ∧ Own H (F)) ⟨rfl, hS⟩ (fun x y13 s H h hd12 hi K11 hK11 => ?_)
    obtain ⟨x4, x5⟩ := x
    try dsimp only at hi
    obtain ⟨rfl, hS⟩ := hi
    simp only [laws_heldCaseS_l0] at h
    refine w_seq fun K15 hK15 => ?_
    refine w_seq fun K16 hK16 => ?_
    refine w_reg gC ?_
    try simp only [W, EE, Nat.reduceAdd]
    refine seq_n hK16 ?_
    refine w_if ?_
    simp only [W]
    refine w_cnd h (fun hc h => ?_) (fun hc h => ?_)
    · refine w_skip ?_
      refine seq_n hK15 ?_
      refine w_seq fun K17 hK17 => ?_
      refine w_blk fun K18 hK18 => ?_
      refine w_seq fun K19 hK19 => ?_
      refine w_seq fun K20 hK20 => ?_
      refine w_reg gC ?_
      try simp only [W, EE, Nat.reduceAdd]
      refine w_fz rfl rfl rfl (fun _ => rfl) h fun b21 hb21 h => ?_
      try simp only [W, EE, EN, Nat.reduceAdd, Nat.reduceBEq]
      refine seq_n hK20 ?_
      refine w_if ?_
      simp only [W]
      refine w_cnd h (fun hc h => ?_) (fun hc h => ?_)
      · refine w_seq fun K22 hK22 => ?_
        refine w_reg gC ?_
        try simp only [W, Nat.reduceAdd]
        refine seq_n hK22 ?_
        refine w_ret ?_
        refine seq_r hK19 ?_
        refine blk_r hK18 ?_
        refine seq_r hK17 ?_
        try obtain rfl := Option.some.inj h
        obtain rfl := hd12 _ rfl
        have h : (some (LR.done (-1)) : Option (LR (Int) (Int))) = some (LR.done (-1)) := rfl
        refine lp_r hK11 ?_
        refine blk_r hK10 ?_
        try obtain rfl := Option.some.inj h
        obtain rfl := Option.some.inj g14
        have h : (some (-1) : Option (Int)) = some (-1) := rfl
        refine cut_r hK9 ?_
        refine seq_r hK2 ?_
        refine fin_r1 hK0 rfl ?_
        try obtain rfl := Option.some.inj h
        exact hP _ hS
      · refine w_skip ?_
        refine seq_n hK19 ?_
        refine w_seq fun K27 hK27 => ?_
        refine w_reg gC ?_
        try simp only [W, EE, Nat.reduceAdd]
        refine seq_n hK27 ?_
        refine w_seq fun K28 hK28 => ?_
        refine w_seq fun K29 hK29 => ?_
        refine w_reg gC ?_
        try simp only [W, EE, Nat.reduceAdd]
        refine w_fz rfl rfl rfl (fun _ => rfl) h fun b30 hb30 h => ?_
        try simp only [W, EE, EN, Nat.reduceAdd, Nat.reduceBEq]
        rw [md_lit _ _ rfl, Option.map_some, resV_s]
        try simp only [W, EE]
        rw [b_bneq _ _ _ _ (h := rfl) rfl, resV_s]
        try simp only [W]
        refine seq_n hK29 ?_
        refine w_if ?_
        simp only [W]
        refine w_cnd h (fun hc h => ?_) (fun hc h => ?_)
        · refine w_seq fun K31 hK31 => ?_
          refine w_reg gC ?_
          try simp only [W, Nat.reduceAdd]
          refine seq_n hK31 ?_
          refine w_ret ?_
          refine seq_r hK28 ?_
          refine blk_r hK18 ?_
          refine seq_r hK17 ?_
          try obtain rfl := Option.some.inj h
          obtain rfl := hd12 _ rfl
          have h : (some (LR.done (-1)) : Option (LR (Int) (Int))) = some (LR.done (-1)) := rfl
          refine lp_r hK11 ?_
          refine blk_r hK10 ?_
          try obtain rfl := Option.some.inj h
          obtain rfl := Option.some.inj g14
          have h : (some (-1) : Option (Int)) = some (-1) := rfl
          refine cut_r hK9 ?_
          refine seq_r hK2 ?_
          refine fin_r1 hK0 rfl ?_
          try obtain rfl := Option.some.inj h
          exact hP _ hS
        · refine w_skip ?_
          refine seq_n hK28 ?_
          refine w_seq fun K36 hK36 => ?_
          refine w_reg gC ?_
          try simp only [W, EE, Nat.reduceAdd]
          refine seq_n hK36 ?_
          refine w_seq fun K37 hK37 => ?_
          refine w_seq fun K38 hK38 => ?_
          refine w_reg gC ?_
          try simp only [W, EE, Nat.reduceAdd]
          refine w_fz rfl rfl rfl (fun _ => rfl) h fun b39 hb39 h => ?_
          try simp only [W, EE, EN, Nat.reduceAdd, Nat.reduceBEq]
          refine seq_n hK38 ?_
          refine w_if ?_
          simp only [W]
          refine w_cnd h (fun hc h => ?_) (fun hc h => ?_)
          · refine w_seq fun K40 hK40 => ?_
            refine w_reg gC ?_
            try simp only [W, Nat.reduceAdd]
            refine seq_n hK40 ?_
            refine w_ret ?_
            refine seq_r hK37 ?_
            refine blk_r hK18 ?_
            refine seq_r hK17 ?_
            try obtain rfl := Option.some.inj h
            obtain rfl := hd12 _ rfl
            have h : (some (LR.done (-1)) : Option (LR (Int) (Int))) = some (LR.done (-1)) := rfl
            refine lp_r hK11 ?_
            refine blk_r hK10 ?_
            try obtain rfl := Option.some.inj h
            obtain rfl := Option.some.inj g14
            have h : (some (-1) : Option (Int)) = some (-1) := rfl
            refine cut_r hK9 ?_
            refine seq_r hK2 ?_
            refine fin_r1 hK0 rfl ?_
            try obtain rfl := Option.some.inj h
            exact hP _ hS
          · refine w_skip ?_
            refine seq_n hK37 ?_
            refine w_seq fun K45 hK45 => ?_
            refine w_reg gC ?_
            try simp only [W, EE, Nat.reduceAdd]
            refine seq_n hK45 ?_
            refine w_seq fun K46 hK46 => ?_
            refine w_seq fun K47 hK47 => ?_
            refine w_reg gC ?_
            try simp only [W, EE, Nat.reduceAdd]
            refine w_fz rfl rfl rfl (fun _ => rfl) h fun b48 hb48 h => ?_
            try simp only [W, EE, EN, Nat.reduceAdd, Nat.reduceBEq]
            refine seq_n hK47 ?_
            refine w_if ?_
            simp only [W]
            refine w_cnd h (fun hc h => ?_) (fun hc h => ?_)
            · refine w_seq fun K49 hK49 => ?_
              refine w_reg gC ?_
              try simp only [W, Nat.reduceAdd]
              refine seq_n hK49 ?_
              refine w_ret ?_
              refine seq_r hK46 ?_
              refine blk_r hK18 ?_
              refine seq_r hK17 ?_
              try obtain rfl := Option.some.inj h
              obtain rfl := hd12 _ rfl
              have h : (some (LR.done (-1)) : Option (LR (Int) (Int))) = some (LR.done (-1)) := rfl
              refine lp_r hK11 ?_
              refine blk_r hK10 ?_
              try obtain rfl := Option.some.inj h
              obtain rfl := Option.some.inj g14
              have h : (some (-1) : Option (Int)) = some (-1) := rfl
              refine cut_r hK9 ?_
              refine seq_r hK2 ?_
              refine fin_r1 hK0 rfl ?_
              try obtain rfl := Option.some.inj h
              exact hP _ hS
            · refine w_skip ?_
              refine seq_n hK46 ?_
              refine w_reg gC ?_
              try simp only [W, EE, Nat.reduceAdd]
              refine blk_n0 hK18 ?_
              refine seq_n hK17 ?_
              refine w_reg gC ?_
              try simp only [W, EE, Nat.reduceAdd]
              exact lp_n hK11 h ⟨rfl, hS⟩
    · refine w_exit ?_
      refine seq_x hK15 ?_
      try obtain rfl := Option.some.inj h
      obtain rfl := hd12 _ rfl
      have h : (some (LR.next (x4)) : Option (LR (Int) (Int))) = some (LR.next (x4)) := rfl
      refine lp_x hK11 ?_
      refine blk_e hK10 ?_
      exact cut_n hK9 ⟨_, (Option.some.inj h).symm, rfl, hS⟩
  · obtain ⟨x6, ey, rfl, hS⟩ := hq; obtain rfl := ey.symm
    replace h := g14
    try dsimp only at h
    refine seq_n hK2 ?_
    refine w_seq fun K56 hK56 => ?_
    refine w_reg gC ?_
    try simp only [W, Nat.reduceAdd]
    refine seq_n hK56 ?_
    refine w_ret ?_
    refine fin_r1 hK0 rfl ?_
    try obtain rfl := Option.some.inj h
    exact hP _ hS
theorem laws_heldSlipS_w {a0 : List Slip} {a1 : Int} {r : (Int)} (h : laws_heldSlipS a0 a1 = some r) {F : List It} {H : Heap} (hS : Own H (F)) {P : AV → Heap → Prop} (hP : ∀ H', Own H' (F) → P (.int .i64 r) H') : ACall C 112 [.fz (a0.map e_Slip), .int .i64 a1] H P := by
  refine acall_of gC (res := [.tmp 4]) (n := 40) rfl rfl rfl rfl fun K0 hK0 => ?_
  simp only [W, Nat.reduceSub, Nat.reduceAdd, List.replicate]
  unfold laws_heldSlipS at h
  refine w_seq fun K1 hK1 => ?_
  refine w_reg gC ?_
  try simp only [W, Nat.reduceAdd]
  refine seq_n hK1 ?_
  refine w_seq fun K2 hK2 => ?_
  refine w_seq fun K3 hK3 => ?_
  refine w_reg gC ?_
  try simp only [W, Nat.reduceAdd]
  refine seq_n hK3 ?_
  obtain ⟨y7, hw8, g14⟩ := Option.bind_eq_some_iff.1 h
  refine w_join gC (fun s H => ∃ x6 : Int, y7 = LR.next (x6) ∧ s = [u, .int .i64 x6, u, u, u, u, u, u, u, u, u, u, u, u, u, u, u, u, u, u, u, u, u, u, u, u, u, u, u, u, u, u, u, u, u, u, u, u, u, u] ∧ Own H (F)) (fun K9 hK9 => ?_) (fun s H hq => ?_)
  · refine w_blk fun K10 hK10 => ?_
    refine w_loop gC hw8 (fun x s H => match x with | (x4, x5) => s = [.fz (a0.map e_Slip), .int .i64 x4, u, u, u, .int .i64 x5, u, u, u, u, u, u, u, u, u, u, u, u, u, u, u, u, u, u, u, u, u, u, u, u, u, u, u, u, u, u, u, u, u, u] ∧ Own H (F)) ⟨rfl, hS⟩ (fun x y13 s H h hd12 hi K11 hK11 => ?_)
    obtain ⟨x4, x5⟩ := x
    try dsimp only at hi
    obtain ⟨rfl, hS⟩ := hi
    simp only [laws_heldSlipS_l0] at h
    refine w_seq fun K15 hK15 => ?_
    refine w_seq fun K16 hK16 => ?_
    refine w_reg gC ?_
    try simp only [W, EE, Nat.reduceAdd]
    refine seq_n hK16 ?_
    refine w_if ?_
    simp only [W]
    refine w_cnd h (fun hc h => ?_) (fun hc h => ?_)
    · refine w_skip ?_
      refine seq_n hK15 ?_
      refine w_seq fun K17 hK17 => ?_
      refine w_blk fun K18 hK18 => ?_
      refine w_seq fun K19 hK19 => ?_
      refine w_seq fun K20 hK20 => ?_
      refine w_reg gC ?_
      try simp only [W, EE, Nat.reduceAdd]
      refine w_fz rfl rfl rfl (fun _ => rfl) h fun b21 hb21 h => ?_
      try simp only [W, EE, EN, Nat.reduceAdd, Nat.reduceBEq]
      refine seq_n hK20 ?_
      refine w_if ?_
      simp only [W]
      refine w_cnd h (fun hc h => ?_) (fun hc h => ?_)
      · refine w_seq fun K22 hK22 => ?_
        refine w_reg gC ?_
        try simp only [W, Nat.reduceAdd]
        refine seq_n hK22 ?_
        refine w_ret ?_
        refine seq_r hK19 ?_
        refine blk_r hK18 ?_
        refine seq_r hK17 ?_
        try obtain rfl := Option.some.inj h
        obtain rfl := hd12 _ rfl
        have h : (some (LR.done (-1)) : Option (LR (Int) (Int))) = some (LR.done (-1)) := rfl
        refine lp_r hK11 ?_
        refine blk_r hK10 ?_
        try obtain rfl := Option.some.inj h
        obtain rfl := Option.some.inj g14
        have h : (some (-1) : Option (Int)) = some (-1) := rfl
        refine cut_r hK9 ?_
        refine seq_r hK2 ?_
        refine fin_r1 hK0 rfl ?_
        try obtain rfl := Option.some.inj h
        exact hP _ hS
      · refine w_skip ?_
        refine seq_n hK19 ?_
        refine w_seq fun K27 hK27 => ?_
        refine w_reg gC ?_
        try simp only [W, EE, Nat.reduceAdd]
        refine seq_n hK27 ?_
        refine w_seq fun K28 hK28 => ?_
        refine w_seq fun K29 hK29 => ?_
        refine w_reg gC ?_
        try simp only [W, EE, Nat.reduceAdd]
        refine w_fz rfl rfl rfl (fun _ => rfl) h fun b30 hb30 h => ?_
        try simp only [W, EE, EN, Nat.reduceAdd, Nat.reduceBEq]
        refine seq_n hK29 ?_
        refine w_if ?_
        simp only [W]
        refine w_cnd h (fun hc h => ?_) (fun hc h => ?_)
        · refine w_seq fun K31 hK31 => ?_
          refine w_reg gC ?_
          try simp only [W, Nat.reduceAdd]
          refine seq_n hK31 ?_
          refine w_ret ?_
          refine seq_r hK28 ?_
          refine blk_r hK18 ?_
          refine seq_r hK17 ?_
          try obtain rfl := Option.some.inj h
          obtain rfl := hd12 _ rfl
          have h : (some (LR.done (-1)) : Option (LR (Int) (Int))) = some (LR.done (-1)) := rfl
          refine lp_r hK11 ?_
          refine blk_r hK10 ?_
          try obtain rfl := Option.some.inj h
          obtain rfl := Option.some.inj g14
          have h : (some (-1) : Option (Int)) = some (-1) := rfl
          refine cut_r hK9 ?_
          refine seq_r hK2 ?_
          refine fin_r1 hK0 rfl ?_
          try obtain rfl := Option.some.inj h
          exact hP _ hS
        · refine w_skip ?_
          refine seq_n hK28 ?_
          refine w_seq fun K36 hK36 => ?_
          refine w_reg gC ?_
          try simp only [W, EE, Nat.reduceAdd]
          refine seq_n hK36 ?_
          refine w_seq fun K37 hK37 => ?_
          refine w_seq fun K38 hK38 => ?_
          refine w_reg gC ?_
          try simp only [W, EE, Nat.reduceAdd]
          refine w_fz rfl rfl rfl (fun _ => rfl) h fun b39 hb39 h => ?_
          try simp only [W, EE, EN, Nat.reduceAdd, Nat.reduceBEq]
          refine seq_n hK38 ?_
          refine w_if ?_
          simp only [W]
          refine w_cnd h (fun hc h => ?_) (fun hc h => ?_)
          · refine w_seq fun K40 hK40 => ?_
            refine w_reg gC ?_
            try simp only [W, Nat.reduceAdd]
            refine seq_n hK40 ?_
            refine w_ret ?_
            refine seq_r hK37 ?_
            refine blk_r hK18 ?_
            refine seq_r hK17 ?_
            try obtain rfl := Option.some.inj h
            obtain rfl := hd12 _ rfl
            have h : (some (LR.done (-1)) : Option (LR (Int) (Int))) = some (LR.done (-1)) := rfl
            refine lp_r hK11 ?_
            refine blk_r hK10 ?_
            try obtain rfl := Option.some.inj h
            obtain rfl := Option.some.inj g14
            have h : (some (-1) : Option (Int)) = some (-1) := rfl
            refine cut_r hK9 ?_
            refine seq_r hK2 ?_
            refine fin_r1 hK0 rfl ?_
            try obtain rfl := Option.some.inj h
            exact hP _ hS
          · refine w_skip ?_
            refine seq_n hK37 ?_
            refine w_reg gC ?_
            try simp only [W, EE, Nat.reduceAdd]
            refine blk_n0 hK18 ?_
            refine seq_n hK17 ?_
            refine w_reg gC ?_
            try simp only [W, EE, Nat.reduceAdd]
            exact lp_n hK11 h ⟨rfl, hS⟩
    · refine w_exit ?_
      refine seq_x hK15 ?_
      try obtain rfl := Option.some.inj h
      obtain rfl := hd12 _ rfl
      have h : (some (LR.next (x4)) : Option (LR (Int) (Int))) = some (LR.next (x4)) := rfl
      refine lp_x hK11 ?_
      refine blk_e hK10 ?_
      exact cut_n hK9 ⟨_, (Option.some.inj h).symm, rfl, hS⟩
  · obtain ⟨x6, ey, rfl, hS⟩ := hq; obtain rfl := ey.symm
    replace h := g14
    try dsimp only at h
    refine seq_n hK2 ?_
    refine w_seq fun K47 hK47 => ?_
    refine w_reg gC ?_
    try simp only [W, Nat.reduceAdd]
    refine seq_n hK47 ?_
    refine w_ret ?_
    refine fin_r1 hK0 rfl ?_
    try obtain rfl := Option.some.inj h
    exact hP _ hS
theorem laws_heldCourt_w {a0 : Court} {a1 : Int} {r : (Int)} (h : laws_heldCourt a0 a1 = some r) {F : List It} {H : Heap} (hS : Own H (F)) {P : AV → Heap → Prop} (hP : ∀ H', Own H' (F) → P (.int .i64 r) H') : ACall C 35 [.agg [.int .i64 a0.Now, .fz (a0.Cases.map e_Case), .fz (a0.Line.map e_Slip)], .int .i64 a1] H P := by
  refine acall_of gC (res := [.tmp 4]) (n := 18) rfl rfl rfl rfl fun K0 hK0 => ?_
  simp only [W, Nat.reduceSub, Nat.reduceAdd, List.replicate]
  unfold laws_heldCourt at h
  refine w_seq fun K1 hK1 => ?_
  refine w_reg gC ?_
  try simp only [W, Nat.reduceAdd]
  refine w_box hS rfl rfl rfl rfl fun ip2 wp2 H hS => ?_
  try simp only [W]
  refine seq_n hK1 ?_
  refine w_seq fun K4 hK4 => ?_
  refine w_reg gC ?_
  try simp only [W, EE, Nat.reduceAdd, Nat.reduceBEq, hS.var 0 rfl]
  refine w_call h fun b5 hb5 h => ?_
  refine laws_heldCaseS_w hb5 hS fun H hS => ?_
  try simp only [W]
  refine seq_n hK4 ?_
  refine w_seq fun K6 hK6 => ?_
  refine w_seq fun K7 hK7 => ?_
  refine w_reg gC ?_
  try simp only [W, EE, Nat.reduceAdd]
  refine seq_n hK7 ?_
  refine w_if ?_
  simp only [W]
  refine w_cnd h (fun hc h => ?_) (fun hc h => ?_)
  · refine w_seq fun K8 hK8 => ?_
    refine w_reg gC ?_
    try simp only [W, Nat.reduceAdd]
    refine seq_n hK8 ?_
    refine w_ret ?_
    refine seq_r hK6 ?_
    refine fin_r1 hK0 rfl ?_
    try obtain rfl := Option.some.inj h
    exact hP _ (hS.sel 1 [] (by decide))
  · refine w_skip ?_
    refine seq_n hK6 ?_
    refine w_seq fun K9 hK9 => ?_
    refine w_reg gC ?_
    try simp only [W, EE, Nat.reduceAdd, Nat.reduceBEq, hS.var 0 rfl]
    refine w_call h fun b10 hb10 h => ?_
    refine laws_heldSlipS_w hb10 hS fun H hS => ?_
    try simp only [W]
    refine seq_n hK9 ?_
    refine w_seq fun K11 hK11 => ?_
    refine w_seq fun K12 hK12 => ?_
    refine w_reg gC ?_
    try simp only [W, EE, Nat.reduceAdd]
    refine seq_n hK12 ?_
    refine w_if ?_
    simp only [W]
    refine w_cnd h (fun hc h => ?_) (fun hc h => ?_)
    · refine w_seq fun K13 hK13 => ?_
      refine w_reg gC ?_
      try simp only [W, Nat.reduceAdd]
      refine seq_n hK13 ?_
      refine w_ret ?_
      refine seq_r hK11 ?_
      refine fin_r1 hK0 rfl ?_
      try obtain rfl := Option.some.inj h
      exact hP _ (hS.sel 1 [] (by decide))
    · refine w_skip ?_
      refine seq_n hK11 ?_
      refine w_seq fun K14 hK14 => ?_
      refine w_reg gC ?_
      try simp only [W, Nat.reduceAdd]
      refine seq_n hK14 ?_
      refine w_ret ?_
      refine fin_r1 hK0 rfl ?_
      try obtain rfl := Option.some.inj h
      exact hP _ (hS.sel 1 [] (by decide))
theorem laws_FnExactNewCourt_w {a0 : List Int} {r : (Bool)} (h : laws_FnExactNewCourt a0 = some r) {F : List It} {H : Heap} (hS : Own H (F)) {P : AV → Heap → Prop} (hP : ∀ H', Own H' (F) → P (.bool r) H') : ACall C 7 [.fz (a0.map (AV.int .i64))] H P := by
  refine acall_of gC (res := [.tmp 2]) (n := 93) rfl rfl rfl rfl fun K0 hK0 => ?_
  simp only [W, Nat.reduceSub, Nat.reduceAdd, List.replicate]
  unfold laws_FnExactNewCourt at h
  refine w_seq fun K1 hK1 => ?_
  refine w_reg gC ?_
  try simp only [W, Nat.reduceAdd]
  refine seq_n hK1 ?_
  refine w_seq fun K2 hK2 => ?_
  refine w_seq fun K3 hK3 => ?_
  refine w_reg gC ?_
  try simp only [W, EE, Nat.reduceAdd]
  refine seq_n hK3 ?_
  refine w_if ?_
  simp only [W]
  refine w_cnd h (fun hc h => ?_) (fun hc h => ?_)
  · refine w_seq fun K4 hK4 => ?_
    refine w_reg gC ?_
    try simp only [W, Nat.reduceAdd]
    refine seq_n hK4 ?_
    refine w_ret ?_
    refine seq_r hK2 ?_
    refine fin_r1 hK0 rfl ?_
    try obtain rfl := Option.some.inj h
    exact hP _ hS
  · refine w_skip ?_
    refine seq_n hK2 ?_
    refine w_seq fun K5 hK5 => ?_
    refine w_reg gC ?_
    try simp only [W, Nat.reduceAdd, Nat.reduceBEq, List.contains_cons, Nat.reduceBEq, Bool.or_self]
    refine w_call h fun b6 hb6 h => ?_
    refine laws_toIntS_w hb6 hS fun v7 qv7 H hS => ?_
    try simp only [W]
    refine w_callO (rsh := [[.sc, .sl [.sc, .sc, .sc, .sc], .sl [.sc, .sc, .sc]], [.sc]]) (ys := [.fz (b6.map (AV.int .i64))]) h rfl (pv_c (sn_ow hS 0 rfl qv7 (fun _ => rfl)) pv_n) fun b9 hb9 h => ⟨.tup [.agg [.int .i64 b9.1.Now, .own 4 (b9.1.Cases.map e_Case), .own 3 (b9.1.Line.map e_Slip)], .bool b9.2], spec_NewCourt_w hb9 (Own.nil _) fun v12 qv12 v13 qv13 H hS => TV_ok rfl (TV_a (TC_sc rfl (TC_ow 0 hS rfl qv12 (fun _ _ => by simp [takeE, takeT, takeC, plainA, e_Case]) fun H hS => TC_ow 0 hS rfl qv13 (fun _ _ => by simp [takeE, takeT, takeC, plainA, e_Slip]) fun H hS => TC_nil (TV_p rfl (TV_n rfl))))), (nf_t (nf_c (nf_a (nf_c rfl (nf_c (noFz_o _ (fun _ => rfl) _) (nf_c (noFz_o _ (fun _ => rfl) _) nf_n)))) (nf_c rfl nf_n))), ?_⟩
    refine thaw_tup ?_
    refine TH_a ?_
    refine TH_p (fun _ => rfl) ?_
    refine TH_o hS (fun _ _ => rfl) (fun _ => rfl) fun v15 H qv15 hS => ?_
    refine TH_o hS (fun _ _ => rfl) (fun _ => rfl) fun v17 H qv17 hS => ?_
    refine TH_n ?_
    refine TH_p (fun _ => rfl) ?_
    refine TH_n ?_
    try simp only [List.headD_cons]
    obtain ⟨b10, b11⟩ := b9
    try dsimp only at h
    try simp only [W]
    refine w_alloc hS rfl rfl fun ip18 wp18 H hS => ?_
    try simp only [W]
    refine w_stv (a := .agg [.int .i64 b10.Now, v15, v17]) (y' := .agg [.int .i64 b10.Now, v15, v17]) 0 hS rfl rfl rfl rfl rfl (by simp only [storA, List.all_cons, List.all_nil, qv15.stor, qv17.stor]; rfl) rfl rfl fun H hS => ?_
    try simp only [W]
    refine seq_n hK5 ?_
    refine w_seq fun K20 hK20 => ?_
    refine w_reg gC ?_
    try simp only [W, Nat.reduceAdd]
    refine w_call h fun b21 hb21 h => ?_
    refine laws_toIntS_w hb21 hS fun v22 qv22 H hS => ?_
    try simp only [W]
    refine seq_n hK20 ?_
    refine w_seq fun K24 hK24 => ?_
    refine w_reg gC ?_
    try simp only [W, Nat.reduceAdd, Nat.reduceBEq, List.contains_cons, Nat.reduceBEq, Bool.or_self]
    refine w_callO (rsh := [[.sc, .sl [.sc, .sc, .sc, .sc], .sl [.sc, .sc, .sc]], [.sc]]) (ys := [.fz (b21.map (AV.int .i64))]) h rfl (pv_c (sn_ow hS 0 rfl qv22 (fun _ => rfl)) pv_n) fun b25 hb25 h => ⟨.tup [.agg [.int .i64 b25.1.Now, .own 4 (b25.1.Cases.map e_Case), .own 3 (b25.1.Line.map e_Slip)], .bool b25.2], impl_NewCourt_w hb25 (Own.nil _) fun v28 qv28 v29 qv29 H hS => TV_ok rfl (TV_a (TC_sc rfl (TC_ow 0 hS rfl qv28 (fun _ _ => by simp [takeE, takeT, takeC, plainA, e_Case]) fun H hS => TC_ow 0 hS rfl qv29 (fun _ _ => by simp [takeE, takeT, takeC, plainA, e_Slip]) fun H hS => TC_nil (TV_p rfl (TV_n rfl))))), (nf_t (nf_c (nf_a (nf_c rfl (nf_c (noFz_o _ (fun _ => rfl) _) (nf_c (noFz_o _ (fun _ => rfl) _) nf_n)))) (nf_c rfl nf_n))), ?_⟩
    refine thaw_tup ?_
    refine TH_a ?_
    refine TH_p (fun _ => rfl) ?_
    refine TH_o hS (fun _ _ => rfl) (fun _ => rfl) fun v31 H qv31 hS => ?_
    refine TH_o hS (fun _ _ => rfl) (fun _ => rfl) fun v33 H qv33 hS => ?_
    refine TH_n ?_
    refine TH_p (fun _ => rfl) ?_
    refine TH_n ?_
    try simp only [List.headD_cons]
    obtain ⟨b26, b27⟩ := b25
    try dsimp only at h
    try simp only [W]
    refine w_alloc hS rfl rfl fun ip34 wp34 H hS => ?_
    try simp only [W]
    refine w_stv (a := .agg [.int .i64 b26.Now, v31, v33]) (y' := .agg [.int .i64 b26.Now, v31, v33]) 0 hS rfl rfl rfl rfl rfl (by simp only [storA, List.all_cons, List.all_nil, qv31.stor, qv33.stor]; rfl) rfl rfl fun H hS => ?_
    try simp only [W]
    refine seq_n hK24 ?_
    refine w_seq fun K36 hK36 => ?_
    refine w_seq fun K37 hK37 => ?_
    obtain ⟨y39, h, g40⟩ := Option.bind_eq_some_iff.1 h
    refine w_join gC (fun s H => ∃ x38 : Bool, y39 = (x38) ∧ s = [.fz (a0.map (AV.int .i64)), u, u, .ptr ip18 wp18 0 0, .bool b11, v22, .ptr ip34 wp34 0 0, .bool b27, u, u, u, u, u, u, u, u, u, u, u, u, u, u, u, u, u, u, u, u, u, u, u, u, u, u, u, u, u, .bool x38, u, u, u, u, u, u, u, u, u, u, u, u, u, u, u, u, u, u, u, u, u, u, u, u, u, u, u, u, u, u, u, u, u, u, u, u, u, u, u, u, u, u, u, u, u, u, u, u, u, u, u, u, u, u, u] ∧ Own H (⟨v22, 1, b21.map (AV.int .i64)⟩ :: ⟨v15, 4, b10.Cases.map e_Case⟩ :: ⟨v17, 3, b10.Line.map e_Slip⟩ :: ⟨v31, 4, b26.Cases.map e_Case⟩ :: ⟨v33, 3, b26.Line.map e_Slip⟩ :: ⟨.ptr ip18 wp18 0 0, 3, [.agg [.int .i64 b10.Now, v15, v17]]⟩ :: ⟨.ptr ip34 wp34 0 0, 3, [.agg [.int .i64 b26.Now, v31, v33]]⟩ :: F)) (fun K41 hK41 => ?_) (fun s H hq => ?_)
    · refine w_seq fun K42 hK42 => ?_
      refine w_reg gC ?_
      try simp only [W, EE, reduceIte, Nat.reduceAdd, Nat.reduceLeDiff, hS.var 4 rfl, hS.var 0 rfl]
      refine w_callS (rsh := [[.sc]]) (ys := [.agg [.int .i64 b26.Now, .fz (b26.Cases.map e_Case), .fz (b26.Line.map e_Slip)], .agg [.int .i64 b10.Now, .fz (b10.Cases.map e_Case), .fz (b10.Line.map e_Slip)]]) h rfl (pv_c (sn_agg (sm_c rfl (sm_c (sn_ow hS 2 rfl qv31 (fun _ => rfl)) (sm_c (sn_ow hS 1 rfl qv33 (fun _ => rfl)) (sm_n _))))) (pv_c (sn_agg (sm_c rfl (sm_c (sn_ow hS 6 rfl qv15 (fun _ => rfl)) (sm_c (sn_ow hS 5 rfl qv17 (fun _ => rfl)) (sm_n _))))) pv_n)) fun b43 hb43 h => ⟨.bool b43, laws_eqCourt_w hb43 (Own.nil _) fun H hS => TV_ok rfl (TV_p rfl (TV_n rfl)), ⟨rfl, rfl, fun _ => rfl⟩, ?_⟩
      try simp only [W]
      refine w_grdT h (fun hc h => ?_) (fun hc h => ?_)
      · try simp only [W, hc]
        refine seq_n hK42 ?_
        refine w_kill ?_
        exact cut_n hK41 ⟨_, (Option.some.inj h).symm, rfl, (hS.sel 8 [3, 6, 5, 2, 1, 4, 0] (by decide))⟩
      · try simp only [W, EE, hc]
        rw [b_bneq _ _ _ _ (h := rfl) rfl, resV_s]
        try simp only [W, reduceIte, Bool.false_eq_true]
        refine seq_n hK42 ?_
        refine w_kill ?_
        exact cut_n hK41 ⟨_, (Option.some.inj h).symm, rfl, (hS.sel 8 [3, 6, 5, 2, 1, 4, 0] (by decide))⟩
    · obtain ⟨x38, ey, rfl, hS⟩ := hq; obtain rfl := ey.symm
      replace h := g40
      try dsimp only at h
      refine seq_n hK37 ?_
      refine w_if ?_
      simp only [W]
      refine w_cnd h (fun hc h => ?_) (fun hc h => ?_)
      · refine w_seq fun K44 hK44 => ?_
        refine w_reg gC ?_
        try simp only [W, Nat.reduceAdd]
        refine seq_n hK44 ?_
        refine w_ret ?_
        refine seq_r hK36 ?_
        refine fin_r1 hK0 rfl ?_
        try obtain rfl := Option.some.inj h
        exact hP _ (hS.sel 7 [] (by decide))
      · refine w_skip ?_
        refine seq_n hK36 ?_
        refine w_seq fun K45 hK45 => ?_
        refine w_seq fun K46 hK46 => ?_
        refine w_reg gC ?_
        try simp only [W, Nat.reduceAdd]
        refine w_call h fun b47 hb47 h => ?_
        refine laws_toIntS_w hb47 hS fun v48 qv48 H hS => ?_
        try simp only [W]
        refine w_callS (rsh := [[.sc]]) (ys := [.fz (b21.map (AV.int .i64)), .fz (b47.map (AV.int .i64))]) h rfl (pv_c (sn_ow hS 1 rfl qv22 (fun _ => rfl)) (pv_c (sn_ow hS 0 rfl qv48 (fun _ => rfl)) pv_n)) fun b50 hb50 h => ⟨.bool b50, laws_eqIntS_w hb50 (Own.nil _) fun H hS => TV_ok rfl (TV_p rfl (TV_n rfl)), ⟨rfl, rfl, fun _ => rfl⟩, ?_⟩
        try simp only [W]
        refine seq_n hK46 ?_
        refine w_if ?_
        simp only [W]
        refine w_cnd h (fun hc h => ?_) (fun hc h => ?_)
        · refine w_seq fun K51 hK51 => ?_
          refine w_reg gC ?_
          try simp only [W, Nat.reduceAdd]
          refine seq_n hK51 ?_
          refine w_ret ?_
          refine seq_r hK45 ?_
          refine fin_r1 hK0 rfl ?_
          try obtain rfl := Option.some.inj h
          exact hP _ (hS.sel 8 [] (by decide))
        · refine w_skip ?_
          refine seq_n hK45 ?_
          refine w_seq fun K52 hK52 => ?_
          refine w_reg gC ?_
          try simp only [W, Nat.reduceAdd]
          refine seq_n hK52 ?_
          refine w_seq fun K53 hK53 => ?_
          refine w_reg gC ?_
          try simp only [W, Nat.reduceAdd]
          refine w_call h fun b54 hb54 h => ?_
          obtain ⟨b55, b56⟩ := b54
          try dsimp only at h
          refine laws_markIntS_w hb54 (hS.sel 8 [1, 0, 2, 3, 4, 5, 6, 7] (by decide)) qv22 fun H hS => ?_
          try simp only [W]
          refine seq_n hK53 ?_
          refine w_seq fun K57 hK57 => ?_
          refine w_seq fun K58 hK58 => ?_
          obtain ⟨y60, h, g61⟩ := Option.bind_eq_some_iff.1 h
          refine w_join gC (fun s H => ∃ x59 : Bool, y60 = (x59) ∧ s = [.fz (a0.map (AV.int .i64)), u, u, .ptr ip18 wp18 0 0, .bool b11, u, .ptr ip34 wp34 0 0, u, u, u, u, u, u, u, u, u, u, u, u, u, u, u, u, u, u, u, u, u, u, u, u, u, u, u, u, u, u, u, u, u, u, u, u, u, u, u, u, u, u, u, u, u, u, u, u, u, u, u, .bool x59, u, u, u, u, u, u, u, u, u, u, u, u, u, u, u, u, u, u, u, u, u, u, u, u, u, u, u, u, u, u, u, u, u, u] ∧ Own H (⟨v15, 4, b10.Cases.map e_Case⟩ :: ⟨v17, 3, b10.Line.map e_Slip⟩ :: ⟨v31, 4, b26.Cases.map e_Case⟩ :: ⟨v33, 3, b26.Line.map e_Slip⟩ :: ⟨.ptr ip18 wp18 0 0, 3, [.agg [.int .i64 b10.Now, v15, v17]]⟩ :: ⟨.ptr ip34 wp34 0 0, 3, [.agg [.int .i64 b26.Now, v31, v33]]⟩ :: F)) (fun K62 hK62 => ?_) (fun s H hq => ?_)
          · refine w_seq fun K63 hK63 => ?_
            refine w_reg gC ?_
            try simp only [W, EE, Nat.reduceAdd]
            refine w_grdT h (fun hc h => ?_) (fun hc h => ?_)
            · try simp only [W, hc]
              refine seq_n hK63 ?_
              refine w_kill ?_
              exact cut_n hK62 ⟨_, (Option.some.inj h).symm, rfl, (hS.sel 8 [2, 3, 4, 5, 6, 7] (by decide))⟩
            · try simp only [W, EE, reduceIte, Nat.reduceAdd, Nat.reduceLeDiff, hS.var 6 rfl, hS.var 7 rfl, hc]
              refine w_callS (rsh := [[.sc]]) (ys := [.agg [.int .i64 b26.Now, .fz (b26.Cases.map e_Case), .fz (b26.Line.map e_Slip)], .agg [.int .i64 b10.Now, .fz (b10.Cases.map e_Case), .fz (b10.Line.map e_Slip)]]) h rfl (pv_c (sn_agg (sm_c rfl (sm_c (sn_ow hS 4 rfl qv31 (fun _ => rfl)) (sm_c (sn_ow hS 5 rfl qv33 (fun _ => rfl)) (sm_n _))))) (pv_c (sn_agg (sm_c rfl (sm_c (sn_ow hS 2 rfl qv15 (fun _ => rfl)) (sm_c (sn_ow hS 3 rfl qv17 (fun _ => rfl)) (sm_n _))))) pv_n)) fun b64 hb64 h => ⟨.bool b64, laws_eqCourt_w hb64 (Own.nil _) fun H hS => TV_ok rfl (TV_p rfl (TV_n rfl)), ⟨rfl, rfl, fun _ => rfl⟩, ?_⟩
              try simp only [W, reduceIte, Bool.false_eq_true]
              refine w_grdT h (fun hc h => ?_) (fun hc h => ?_)
              · try simp only [W, hc]
                refine seq_n hK63 ?_
                refine w_kill ?_
                exact cut_n hK62 ⟨_, (Option.some.inj h).symm, rfl, (hS.sel 8 [2, 3, 4, 5, 6, 7] (by decide))⟩
              · try simp only [W, EE, hc]
                rw [b_bneq _ _ _ _ (h := rfl) rfl, resV_s]
                try simp only [W, reduceIte, Bool.false_eq_true]
                refine seq_n hK63 ?_
                refine w_kill ?_
                exact cut_n hK62 ⟨_, (Option.some.inj h).symm, rfl, (hS.sel 8 [2, 3, 4, 5, 6, 7] (by decide))⟩
          · obtain ⟨x59, ey, rfl, hS⟩ := hq; obtain rfl := ey.symm
            replace h := g61
            try dsimp only at h
            refine seq_n hK58 ?_
            refine w_if ?_
            simp only [W]
            refine w_cnd h (fun hc h => ?_) (fun hc h => ?_)
            · refine w_seq fun K65 hK65 => ?_
              refine w_reg gC ?_
              try simp only [W, Nat.reduceAdd]
              refine seq_n hK65 ?_
              refine w_ret ?_
              refine seq_r hK57 ?_
              refine fin_r1 hK0 rfl ?_
              try obtain rfl := Option.some.inj h
              exact hP _ (hS.sel 6 [] (by decide))
            · refine w_skip ?_
              refine seq_n hK57 ?_
              refine w_seq fun K66 hK66 => ?_
              refine w_reg gC ?_
              try simp only [W, Nat.reduceAdd]
              refine seq_n hK66 ?_
              refine w_seq fun K67 hK67 => ?_
              refine w_reg gC ?_
              try simp only [W, EE, reduceIte, Nat.reduceAdd, Nat.reduceLeDiff, hS.var 5 rfl]
              refine w_call h fun b68 hb68 h => ?_
              obtain ⟨b69, b70, b71⟩ := b68
              try dsimp only at h
              refine laws_markCourt_w hb68 (hS.sel 6 [2, 3, 0, 1, 4, 5] (by decide)) qv31 qv33 fun H hS => ?_
              try simp only [W]
              refine seq_n hK67 ?_
              refine w_seq fun K72 hK72 => ?_
              refine w_reg gC ?_
              try simp only [W, Nat.reduceAdd]
              refine seq_n hK72 ?_
              refine w_seq fun K73 hK73 => ?_
              refine w_reg gC ?_
              try simp only [W, EE, reduceIte, Nat.reduceAdd, Nat.reduceLeDiff, hS.var 5 rfl]
              refine w_callS (rsh := [[.sc]]) (ys := [.agg [.int .i64 b26.Now, .fz (b70.map e_Case), .fz (b71.map e_Slip)], .int .i64 1]) h rfl (pv_c (sn_agg (sm_c rfl (sm_c (sn_ow hS 0 rfl qv31 (fun _ => rfl)) (sm_c (sn_ow hS 1 rfl qv33 (fun _ => rfl)) (sm_n _))))) (pv_c rfl pv_n)) fun b74 hb74 h => ⟨.int .i64 b74, laws_heldCourt_w hb74 (Own.nil _) fun H hS => TV_ok rfl (TV_p rfl (TV_n rfl)), ⟨rfl, rfl, fun _ => rfl⟩, ?_⟩
              try simp only [W]
              refine seq_n hK73 ?_
              refine w_seq fun K75 hK75 => ?_
              refine w_seq fun K76 hK76 => ?_
              refine w_reg gC ?_
              try simp only [W, EE, Nat.reduceAdd]
              refine seq_n hK76 ?_
              refine w_if ?_
              simp only [W]
              refine w_cnd h (fun hc h => ?_) (fun hc h => ?_)
              · refine w_seq fun K77 hK77 => ?_
                refine w_reg gC ?_
                try simp only [W, Nat.reduceAdd]
                refine seq_n hK77 ?_
                refine w_ret ?_
                refine seq_r hK75 ?_
                refine fin_r1 hK0 rfl ?_
                try obtain rfl := Option.some.inj h
                exact hP _ (hS.sel 6 [] (by decide))
              · refine w_skip ?_
                refine seq_n hK75 ?_
                refine w_seq fun K78 hK78 => ?_
                refine w_seq fun K79 hK79 => ?_
                refine w_reg gC ?_
                try simp only [W, EE, Nat.reduceAdd]
                refine seq_n hK79 ?_
                refine w_if ?_
                simp only [W]
                refine w_cnd h (fun hc h => ?_) (fun hc h => ?_)
                · refine w_seq fun K80 hK80 => ?_
                  refine w_reg gC ?_
                  try simp only [W, Nat.reduceAdd]
                  refine seq_n hK80 ?_
                  refine w_ret ?_
                  refine seq_r hK78 ?_
                  refine fin_r1 hK0 rfl ?_
                  try obtain rfl := Option.some.inj h
                  exact hP _ (hS.sel 6 [] (by decide))
                · refine w_skip ?_
                  refine seq_n hK78 ?_
                  refine w_seq fun K81 hK81 => ?_
                  refine w_reg gC ?_
                  try simp only [W, Nat.reduceAdd, Nat.reduceBEq, List.contains_cons, Nat.reduceBEq, Bool.or_self]
                  refine w_call h fun b82 hb82 h => ?_
                  refine laws_toIntS_w hb82 hS fun v83 qv83 H hS => ?_
                  try simp only [W]
                  refine w_callO (rsh := [[.sc, .sl [.sc, .sc, .sc, .sc], .sl [.sc, .sc, .sc]], [.sc]]) (ys := [.fz (b82.map (AV.int .i64))]) h rfl (pv_c (sn_ow hS 0 rfl qv83 (fun _ => rfl)) pv_n) fun b85 hb85 h => ⟨.tup [.agg [.int .i64 b85.1.Now, .own 4 (b85.1.Cases.map e_Case), .own 3 (b85.1.Line.map e_Slip)], .bool b85.2], impl_NewCourt_w hb85 (Own.nil _) fun v88 qv88 v89 qv89 H hS => TV_ok rfl (TV_a (TC_sc rfl (TC_ow 0 hS rfl qv88 (fun _ _ => by simp [takeE, takeT, takeC, plainA, e_Case]) fun H hS => TC_ow 0 hS rfl qv89 (fun _ _ => by simp [takeE, takeT, takeC, plainA, e_Slip]) fun H hS => TC_nil (TV_p rfl (TV_n rfl))))), (nf_t (nf_c (nf_a (nf_c rfl (nf_c (noFz_o _ (fun _ => rfl) _) (nf_c (noFz_o _ (fun _ => rfl) _) nf_n)))) (nf_c rfl nf_n))), ?_⟩
                  refine thaw_tup ?_
                  refine TH_a ?_
                  refine TH_p (fun _ => rfl) ?_
                  refine TH_o hS (fun _ _ => rfl) (fun _ => rfl) fun v91 H qv91 hS => ?_
                  refine TH_o hS (fun _ _ => rfl) (fun _ => rfl) fun v93 H qv93 hS => ?_
                  refine TH_n ?_
                  refine TH_p (fun _ => rfl) ?_
                  refine TH_n ?_
                  try simp only [List.headD_cons]
                  obtain ⟨b86, b87⟩ := b85
                  try dsimp only at h
                  try simp only [W]
                  refine w_alloc hS rfl rfl fun ip94 wp94 H hS => ?_
                  try simp only [W]
                  refine w_stv (a := .agg [.int .i64 b86.Now, v91, v93]) (y' := .agg [.int .i64 b86.Now, v91, v93]) 0 hS rfl rfl rfl rfl rfl (by simp only [storA, List.all_cons, List.all_nil, qv91.stor, qv93.stor]; rfl) rfl rfl fun H hS => ?_
                  try simp only [W]
                  refine seq_n hK81 ?_
                  refine w_seq fun K96 hK96 => ?_
                  refine w_seq fun K97 hK97 => ?_
                  obtain ⟨y99, h, g100⟩ := Option.bind_eq_some_iff.1 h
                  refine w_join gC (fun s H => ∃ x98 : Bool, y99 = (x98) ∧ s = [u, u, u, u, u, u, .ptr ip34 wp34 0 0, u, u, .int .i64 b69, u, u, u, u, u, u, u, u, u, u, u, u, u, u, u, u, u, u, u, u, u, u, u, u, u, u, u, u, u, u, u, u, u, u, u, u, u, u, u, u, u, u, u, u, u, u, u, u, u, u, u, u, u, u, u, u, u, u, u, u, u, u, u, u, u, u, u, u, u, u, u, u, u, u, .bool x98, u, u, u, u, u, u, u, u] ∧ Own H (⟨v31, 4, b70.map e_Case⟩ :: ⟨v33, 3, b71.map e_Slip⟩ :: ⟨.ptr ip34 wp34 0 0, 3, [.agg [.int .i64 b26.Now, v31, v33]]⟩ :: F)) (fun K101 hK101 => ?_) (fun s H hq => ?_)
                  · refine w_seq fun K102 hK102 => ?_
                    refine w_reg gC ?_
                    try simp only [W, EE, reduceIte, Nat.reduceAdd, Nat.reduceLeDiff, hS.var 8 rfl, hS.var 0 rfl]
                    refine w_callS (rsh := [[.sc]]) (ys := [.agg [.int .i64 b86.Now, .fz (b86.Cases.map e_Case), .fz (b86.Line.map e_Slip)], .agg [.int .i64 b10.Now, .fz (b10.Cases.map e_Case), .fz (b10.Line.map e_Slip)]]) h rfl (pv_c (sn_agg (sm_c rfl (sm_c (sn_ow hS 2 rfl qv91 (fun _ => rfl)) (sm_c (sn_ow hS 1 rfl qv93 (fun _ => rfl)) (sm_n _))))) (pv_c (sn_agg (sm_c rfl (sm_c (sn_ow hS 6 rfl qv15 (fun _ => rfl)) (sm_c (sn_ow hS 7 rfl qv17 (fun _ => rfl)) (sm_n _))))) pv_n)) fun b103 hb103 h => ⟨.bool b103, laws_eqCourt_w hb103 (Own.nil _) fun H hS => TV_ok rfl (TV_p rfl (TV_n rfl)), ⟨rfl, rfl, fun _ => rfl⟩, ?_⟩
                    try simp only [W]
                    refine w_grdT h (fun hc h => ?_) (fun hc h => ?_)
                    · try simp only [W, hc]
                      refine seq_n hK102 ?_
                      refine w_kill ?_
                      exact cut_n hK101 ⟨_, (Option.some.inj h).symm, rfl, (hS.sel 10 [4, 5, 9] (by decide))⟩
                    · try simp only [W, EE, hc]
                      rw [b_bneq _ _ _ _ (h := rfl) rfl, resV_s]
                      try simp only [W, reduceIte, Bool.false_eq_true]
                      refine seq_n hK102 ?_
                      refine w_kill ?_
                      exact cut_n hK101 ⟨_, (Option.some.inj h).symm, rfl, (hS.sel 10 [4, 5, 9] (by decide))⟩
                  · obtain ⟨x98, ey, rfl, hS⟩ := hq; obtain rfl := ey.symm
                    replace h := g100
                    try dsimp only at h
                    refine seq_n hK97 ?_
                    refine w_if ?_
                    simp only [W]
                    refine w_cnd h (fun hc h => ?_) (fun hc h => ?_)
                    · refine w_seq fun K104 hK104 => ?_
                      refine w_reg gC ?_
                      try simp only [W, Nat.reduceAdd]
                      refine seq_n hK104 ?_
                      refine w_ret ?_
                      refine seq_r hK96 ?_
                      refine fin_r1 hK0 rfl ?_
                      try obtain rfl := Option.some.inj h
                      exact hP _ (hS.sel 3 [] (by decide))
                    · refine w_skip ?_
                      refine seq_n hK96 ?_
                      refine w_seq fun K105 hK105 => ?_
                      refine w_reg gC ?_
                      try simp only [W, Nat.reduceAdd]
                      refine seq_n hK105 ?_
                      refine w_seq fun K106 hK106 => ?_
                      refine w_reg gC ?_
                      try simp only [W, EE, reduceIte, Nat.reduceAdd, Nat.reduceLeDiff, hS.var 2 rfl]
                      refine w_callS (rsh := [[.sc]]) (ys := [.agg [.int .i64 b26.Now, .fz (b70.map e_Case), .fz (b71.map e_Slip)], .int .i64 1]) h rfl (pv_c (sn_agg (sm_c rfl (sm_c (sn_ow hS 0 rfl qv31 (fun _ => rfl)) (sm_c (sn_ow hS 1 rfl qv33 (fun _ => rfl)) (sm_n _))))) (pv_c rfl pv_n)) fun b107 hb107 h => ⟨.int .i64 b107, laws_heldCourt_w hb107 (Own.nil _) fun H hS => TV_ok rfl (TV_p rfl (TV_n rfl)), ⟨rfl, rfl, fun _ => rfl⟩, ?_⟩
                      try simp only [W]
                      refine seq_n hK106 ?_
                      refine w_seq fun K108 hK108 => ?_
                      refine w_seq fun K109 hK109 => ?_
                      refine w_reg gC ?_
                      try simp only [W, EE, Nat.reduceAdd]
                      refine seq_n hK109 ?_
                      refine w_if ?_
                      simp only [W]
                      refine w_cnd h (fun hc h => ?_) (fun hc h => ?_)
                      · refine w_seq fun K110 hK110 => ?_
                        refine w_reg gC ?_
                        try simp only [W, Nat.reduceAdd]
                        refine seq_n hK110 ?_
                        refine w_ret ?_
                        refine seq_r hK108 ?_
                        refine fin_r1 hK0 rfl ?_
                        try obtain rfl := Option.some.inj h
                        exact hP _ (hS.sel 3 [] (by decide))
                      · refine w_skip ?_
                        refine seq_n hK108 ?_
                        refine w_seq fun K111 hK111 => ?_
                        refine w_seq fun K112 hK112 => ?_
                        refine w_reg gC ?_
                        try simp only [W, EE, Nat.reduceAdd]
                        refine seq_n hK112 ?_
                        refine w_if ?_
                        simp only [W]
                        refine w_cnd h (fun hc h => ?_) (fun hc h => ?_)
                        · refine w_seq fun K113 hK113 => ?_
                          refine w_reg gC ?_
                          try simp only [W, Nat.reduceAdd]
                          refine seq_n hK113 ?_
                          refine w_ret ?_
                          refine seq_r hK111 ?_
                          refine fin_r1 hK0 rfl ?_
                          try obtain rfl := Option.some.inj h
                          exact hP _ (hS.sel 3 [] (by decide))
                        · refine w_skip ?_
                          refine seq_n hK111 ?_
                          refine w_seq fun K114 hK114 => ?_
                          refine w_reg gC ?_
                          try simp only [W, Nat.reduceAdd]
                          refine seq_n hK114 ?_
                          refine w_ret ?_
                          refine fin_r1 hK0 rfl ?_
                          try obtain rfl := Option.some.inj h
                          exact hP _ (hS.sel 3 [] (by decide))
end Go.VxW
