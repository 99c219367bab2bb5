import Derived.Test.YtkmcnmjjfgahpaaVyGF
import Derived.Test.YtkmcnmjjfgahpaaProg
import Derived.Test.YtkmcnmjjfgahpaaVaD
import Derived.KernelRfl
open Go Go.VS
set_option maxRecDepth 8000
set_option maxHeartbeats 4000000
namespace Go.VxW
def e_Guess (x : Guess) : AV := .agg [.int .i64 x.Mean, .int .i64 x.Swing, .int .i64 x.Many, .int .i64 x.Back]
def e_Seen (x : Seen) : AV := .agg [.int .i64 x.Took, .bool x.Twice, .bool x.Lost]
def e_L1Cur (x : L1Cur) : AV := .agg [.fz (x.Code.map (AV.int .u8)), .int .i64 x.At, .int .u64 x.Seed]
def E : TEnv := fun t => match t with
  | 3 => some { sz := 1, agg := false, zero := [AV.int IntKind.i64 0], bytes := 8, und := UD.it IntKind.i64, eqok := true }
  | 4 => some { sz := 1, agg := false, zero := [AV.bool false], bytes := 1, und := UD.bl, eqok := true }
  | 5 => some { sz := 1, agg := false, zero := [AV.int IntKind.u8 0], bytes := 1, und := UD.it IntKind.u8, eqok := true }
  | 48 => some { sz := 1, agg := false, zero := [AV.nil], bytes := 24, und := UD.sl 3, eqok := true }
  | 72 => some { sz := 1, agg := false, zero := [AV.nil], bytes := 24, und := UD.sl 5, eqok := true }
  | 74 => some { sz := 4, agg := true, zero := [AV.int IntKind.i64 0, AV.int IntKind.i64 0, AV.int IntKind.i64 0, AV.int IntKind.i64 0], bytes := 32, und := UD.st [(0, 3), (1, 3), (2, 3), (3, 3)], eqok := true }
  | 76 => some { sz := 3, agg := true, zero := [AV.int IntKind.i64 0, AV.bool false, AV.bool false], bytes := 16, und := UD.st [(0, 3), (1, 4), (2, 4)], eqok := true }
  | 86 => some { sz := 1, agg := false, zero := [AV.nil], bytes := 24, und := UD.sl 76, eqok := true }
  | 150 => some { sz := 1, agg := false, zero := [AV.nilp], bytes := 8, und := UD.pt, eqok := true }
  | 151 => some { sz := 1, agg := false, zero := [AV.int IntKind.u64 0], bytes := 8, und := UD.it IntKind.u64, eqok := true }
  | 153 => some { sz := 3, agg := true, zero := [AV.nil, AV.int IntKind.i64 0, AV.int IntKind.u64 0], bytes := 40, und := UD.st [(0, 72), (1, 3), (2, 151)], eqok := true }
  | _ => none
def pol : FuncId → FPol := fun f => match f with
  | 12 => { rsh := [[.sc]], loops := [(0, { keep := [1, 5, 7, 14, 94, 95, 96] })], blocks := [(1, [1, 5, 7, 14, 94, 95, 96]), (0, [1, 5, 7, 14])], frz := [(6, [], some [1, 5, 6, 7, 8, 56]), (17, [], some [1, 5, 6, 7, 93]), (23, [], some [1, 5, 7, 14, 16, 94, 95, 96, 107]), (27, [], some [1, 134])], fz := [(4, [(2, [([39, 6, 36], [.sl [.sc, .sc, .sc]])])]), (26, [(2, [([115, 14], [.sl [.sc, .sc, .sc]])])]), (30, [(1, [([138, 19, 136], [.sl [.sc, .sc, .sc]])])])], cnds := [(57, [1]), (65, [1, 5, 6, 7, 11, 12]), (70, [1, 5, 6, 7, 11, 12]), (74, [1, 5, 6, 7, 11, 12]), (107, [1, 5, 7, 14, 94, 95, 96])] }
  | 53 => { rsh := [[.sc]] }
  | 55 => { rsh := [[.sc, .sc, .sc, .sc], [.sc]] }
  | 56 => { rsh := [[.sc, .sc, .sc, .sc], [.sc]] }
  | 57 => { rsh := [[.sc], [.sl [.sc, .sc, .sc]]], fz := [(2, [(2, [([9], [.sl [.sc]])])])] }
  | 58 => { rsh := [[.sc, .sc, .sc, .sc], [.sc]], loops := [(0, { keep := [4, 6, 23, 24, 25] })], blocks := [(0, [4, 6])], frz := [(2, [], some [1, 4, 6, 21])] }
  | 59 => { rsh := [[.sc, .sc, .sc, .sc], [.sc]], loops := [(0, { keep := [4, 6, 23, 24, 25] })], blocks := [(0, [4, 6])], frz := [(2, [], some [1, 4, 6, 21])] }
  | 60 => { rsh := [[.sc], [.sc], [.sc]], loops := [(0, { keep := [5, 6, 7, 13, 14, 15] })], blocks := [(1, [5, 6, 7, 13, 14, 15]), (0, [5, 6, 7])], frz := [(7, [], some [5, 6, 7, 9, 13, 14, 15, 24])], cnds := [(26, [5, 6, 9, 13, 14, 15])] }
  | 61 => { rsh := [[.sl [.sc, .sc, .sc]]] }
  | 62 => { rsh := [[.sc], [.sc], [.sc]], loops := [(0, { keep := [0, 5, 6, 9, 10, 11] })], blocks := [(1, [0, 5, 6, 9, 10, 11]), (0, [0, 5, 6])], frz := [(8, [], some [0, 5, 6, 8, 9, 10, 11, 23]), (9, [], some [0, 5, 6, 8, 9, 10, 11, 31]), (13, [], some [5, 6, 45])], cnds := [(31, [0, 5, 6, 8, 9, 10, 11])] }
  | 86 => { rsh := [[.sc]] }
  | 95 => { rsh := [[.sc]] }
  | 127 => { rsh := [[.sc, .sc, .sc]], fz := [(6, [(6, [([23], [.sl [.sc]])])])] }
  | 128 => { rsh := [[.sc]] }
  | 129 => { rsh := [], regs := [(8, [17], [])] }
  | 131 => { rsh := [[.sc]] }
  | 132 => { rsh := [[.sc, .sc, .sc, .sc]], cnds := [(35, [2, 4, 5])] }
  | 134 => { rsh := [[.sc]] }
  | 135 => { rsh := [[.sl [.sc, .sc, .sc]]], loops := [(0, { keep := [0, 3, 4] })], blocks := [(0, [3])], cnds := [(8, [0, 3, 4])] }
  | 136 => { rsh := [[.sc]], loops := [(0, { keep := [0, 5, 6, 7] })], blocks := [(0, [0])] }
  | 137 => { rsh := [[.sc]] }
  | 149 => { rsh := [[.sc]], cnds := [(11, [1, 5])] }
  | 180 => { rsh := [[.sc]] }
  | 181 => { rsh := [[.sc]] }
  | 185 => { rsh := [[.sc]], cnds := [(13, [0, 3])] }
  | _ => {}
noncomputable def code : FuncId → Option Func := fun f => match f with
  | 12 => some Go.Proofs.Try.f12
  | 53 => some Go.Proofs.Try.f53
  | 55 => some Go.Proofs.Try.f55
  | 56 => some Go.Proofs.Try.f56
  | 57 => some Go.Proofs.Try.f57
  | 58 => some Go.Proofs.Try.f58
  | 59 => some Go.Proofs.Try.f59
  | 60 => some Go.Proofs.Try.f60
  | 61 => some Go.Proofs.Try.f61
  | 62 => some Go.Proofs.Try.f62
  | 86 => some Go.Proofs.Try.f86
  | 95 => some Go.Proofs.Try.f95
  | 127 => some Go.Proofs.Try.f127
  | 128 => some Go.Proofs.Try.f128
  | 129 => some Go.Proofs.Try.f129
  | 131 => some Go.Proofs.Try.f131
  | 132 => some Go.Proofs.Try.f132
  | 134 => some Go.Proofs.Try.f134
  | 135 => some Go.Proofs.Try.f135
  | 136 => some Go.Proofs.Try.f136
  | 137 => some Go.Proofs.Try.f137
  | 149 => some Go.Proofs.Try.f149
  | 180 => some Go.Proofs.Try.f180
  | 181 => some Go.Proofs.Try.f181
  | 185 => some Go.Proofs.Try.f185
  | _ => none
noncomputable def C : Ctx := ⟨E, pol, code, fun _ _ _ _ => False⟩
theorem gC : Good C := ⟨fun _ _ _ _ _ _ h => h, fun _ _ _ _ h => h.elim⟩
theorem cE : C.E = E := rfl
theorem E3 : E 3 = some { sz := 1, agg := false, zero := [AV.int IntKind.i64 0], bytes := 8, und := UD.it IntKind.i64, eqok := true } := rfl
theorem E4 : E 4 = some { sz := 1, agg := false, zero := [AV.bool false], bytes := 1, und := UD.bl, eqok := true } := rfl
theorem E5 : E 5 = some { sz := 1, agg := false, zero := [AV.int IntKind.u8 0], bytes := 1, und := UD.it IntKind.u8, eqok := true } := rfl
theorem E48 : E 48 = some { sz := 1, agg := false, zero := [AV.nil], bytes := 24, und := UD.sl 3, eqok := true } := rfl
theorem E72 : E 72 = some { sz := 1, agg := false, zero := [AV.nil], bytes := 24, und := UD.sl 5, eqok := true } := rfl
theorem E74 : E 74 = some { sz := 4, agg := true, zero := [AV.int IntKind.i64 0, AV.int IntKind.i64 0, AV.int IntKind.i64 0, AV.int IntKind.i64 0], bytes := 32, und := UD.st [(0, 3), (1, 3), (2, 3), (3, 3)], eqok := true } := rfl
theorem E76 : E 76 = some { sz := 3, agg := true, zero := [AV.int IntKind.i64 0, AV.bool false, AV.bool false], bytes := 16, und := UD.st [(0, 3), (1, 4), (2, 4)], eqok := true } := rfl
theorem E86 : E 86 = some { sz := 1, agg := false, zero := [AV.nil], bytes := 24, und := UD.sl 76, eqok := true } := rfl
theorem E150 : E 150 = some { sz := 1, agg := false, zero := [AV.nilp], bytes := 8, und := UD.pt, eqok := true } := rfl
theorem E151 : E 151 = some { sz := 1, agg := false, zero := [AV.int IntKind.u64 0], bytes := 8, und := UD.it IntKind.u64, eqok := true } := rfl
theorem E153 : E 153 = some { sz := 3, agg := true, zero := [AV.nil, AV.int IntKind.i64 0, AV.int IntKind.u64 0], bytes := 40, und := UD.st [(0, 72), (1, 3), (2, 151)], eqok := true } := rfl
theorem EE : type_of% (And.intro @cE <| And.intro @E3 <| And.intro @E4 <| And.intro @E5 <| And.intro @E48 <| And.intro @E72 <| And.intro @E74 <| And.intro @E76 <| And.intro @E86 <| And.intro @E150 <| And.intro @E151 @E153) := And.intro @cE <| And.intro @E3 <| And.intro @E4 <| And.intro @E5 <| And.intro @E48 <| And.intro @E72 <| And.intro @E74 <| And.intro @E76 <| And.intro @E86 <| And.intro @E150 <| And.intro @E151 @E153
theorem e_Guess_d (x : Guess) : e_Guess x = .agg [.int .i64 x.Mean, .int .i64 x.Swing, .int .i64 x.Many, .int .i64 x.Back] := rfl
theorem e_L1Cur_d (x : L1Cur) : e_L1Cur x = .agg [.fz (x.Code.map (AV.int .u8)), .int .i64 x.At, .int .u64 x.Seed] := rfl
theorem e_Seen_d (x : Seen) : e_Seen x = .agg [.int .i64 x.Took, .bool x.Twice, .bool x.Lost] := rfl
theorem EN : type_of% (And.intro @e_Guess_d <| And.intro @e_L1Cur_d <| And.intro @e_Seen_d @killB_n) := And.intro @e_Guess_d <| And.intro @e_L1Cur_d <| And.intro @e_Seen_d @killB_n
theorem spec_l1Cur_next_w {a0 : L1Cur} {i0 : Nat} {w0 : Nat} {r : (Int × L1Cur)} (h : spec_l1Cur_next a0 = some r) {F : List It} {H : Heap} (hS : Own H (⟨.ptr i0 w0 0 0, 3, [.agg [.fz (a0.Code.map (AV.int .u8)), .int .i64 a0.At, .int .u64 a0.Seed]]⟩ :: F)) {P : AV → Heap → Prop} (hP : ∀ H', Own H' (⟨.ptr i0 w0 0 0, 3, [.agg [.fz (r.2.Code.map (AV.int .u8)), .int .i64 r.2.At, .int .u64 r.2.Seed]]⟩ :: F) → P (.int .i64 r.1) H') : ACall C 185 [.ptr i0 w0 0 0] H P := by
  refine acall_of gC (res := [.tmp 2]) (n := 62) rfl rfl rfl rfl fun K0 hK0 => ?_
  simp only [W, Nat.reduceSub, Nat.reduceAdd, List.replicate]
  unfold spec_l1Cur_next at h
  refine w_seq fun K1 hK1 => ?_
  refine w_reg gC ?_
  try simp only [W, Nat.reduceAdd]
  refine seq_n hK1 ?_
  refine w_seq fun K2 hK2 => ?_
  refine w_reg gC ?_
  try simp only [W, Nat.reduceAdd]
  refine seq_n hK2 ?_
  refine w_seq fun K3 hK3 => ?_
  refine w_seq fun K4 hK4 => ?_
  refine w_draw0 gC (by kernel_rfl) ?_
  try simp only [W, EE, Nat.reduceAdd, Nat.reduceBEq, hS.var 0 rfl]
  refine seq_n hK4 ?_
  obtain ⟨y6, h, g7⟩ := Option.bind_eq_some_iff.1 h
  refine w_join gC (fun s H => ∃ x5 : Int, y6 = (x5) ∧ s = [.ptr i0 w0 0 0, u, u, .int .i64 x5, u, u, u, u, u, u, u, u, u, u, u, u, u, u, u, u, u, u, u, u, u, u, u, u, u, u, u, u, u, u, u, u, u, u, u, u, u, u, u, u, u, u, u, u, u, u, u, u, u, u, u, u, u, u, u, u, u, u] ∧ Own H (⟨.ptr i0 w0 0 0, 3, [.agg [.fz (a0.Code.map (AV.int .u8)), .int .i64 a0.At, .int .u64 a0.Seed]]⟩ :: F)) (fun K8 hK8 => ?_) (fun s H hq => ?_)
  · refine w_seq fun K9 hK9 => ?_
    refine w_if ?_
    simp only [W]
    refine w_cnd h (fun hc h => ?_) (fun hc h => ?_)
    · refine w_draw0 gC (by kernel_rfl) ?_
      try simp only [W, EE, Nat.reduceAdd, Nat.reduceBEq, hS.var 0 rfl]
      refine w_fz rfl rfl rfl (fun _ => rfl) h fun b10 hb10 h => ?_
      try simp only [W, EE]
      refine seq_n hK9 ?_
      refine w_kill ?_
      exact cut_n hK8 ⟨_, (Option.some.inj h).symm, rfl, hS⟩
    · refine w_skip ?_
      refine seq_n hK9 ?_
      refine w_kill ?_
      exact cut_n hK8 ⟨_, (Option.some.inj h).symm, rfl, hS⟩
  · obtain ⟨x5, ey, rfl, hS⟩ := hq; obtain rfl := ey.symm
    replace h := g7
    try dsimp only at h
    refine seq_n hK3 ?_
    refine w_seq fun K11 hK11 => ?_
    refine w_reg gC ?_
    try simp only [W, EE, Nat.reduceAdd, Nat.reduceBEq, hS.var 0 rfl]
    refine w_stv (a := .int .i64 (IntKind.i64.wrap (a0.At + 1))) (y' := .agg [.fz (a0.Code.map (AV.int .u8)), .int .i64 (IntKind.i64.wrap (a0.At + 1)), .int .u64 a0.Seed]) 0 hS rfl rfl rfl rfl rfl rfl rfl rfl fun H hS => ?_
    try simp only [W]
    refine seq_n hK11 ?_
    refine w_seq fun K12 hK12 => ?_
    refine w_reg gC ?_
    try simp only [W, EE, Nat.reduceAdd, Nat.reduceBEq, hS.var 0 rfl]
    refine w_stv (a := .int .u64 (IntKind.u64.wrap ((IntKind.u64.wrap ((IntKind.u64.wrap (a0.Seed * 6364136223846793005)) + (IntKind.u64.wrap x5))) + 1442695040888963407))) (y' := .agg [.fz (a0.Code.map (AV.int .u8)), .int .i64 (IntKind.i64.wrap (a0.At + 1)), .int .u64 (IntKind.u64.wrap ((IntKind.u64.wrap ((IntKind.u64.wrap (a0.Seed * 6364136223846793005)) + (IntKind.u64.wrap x5))) + 1442695040888963407))]) 0 hS rfl rfl rfl rfl rfl rfl rfl rfl fun H hS => ?_
    try simp only [W]
    refine seq_n hK12 ?_
    refine w_seq fun K13 hK13 => ?_
    refine w_seq fun K14 hK14 => ?_
    refine w_draw0 gC (by kernel_rfl) ?_
    try simp only [W, EE, Nat.reduceAdd, Nat.reduceBEq, hS.var 0 rfl]
    refine seq_n hK14 ?_
    refine w_if ?_
    simp only [W]
    refine w_cnd h (fun hc h => ?_) (fun hc h => ?_)
    · refine w_seq fun K15 hK15 => ?_
      refine w_reg gC ?_
      try simp only [W, Nat.reduceAdd]
      refine seq_n hK15 ?_
      refine w_ret ?_
      refine seq_r hK13 ?_
      refine fin_r1 hK0 rfl ?_
      try obtain rfl := Option.some.inj h
      exact hP _ hS
    · refine w_skip ?_
      refine seq_n hK13 ?_
      refine w_seq fun K16 hK16 => ?_
      refine w_reg gC ?_
      try simp only [W, EE, Nat.reduceAdd, Nat.reduceBEq, hS.var 0 rfl]
      rw [sr_lit _ _ _ rfl, Option.map_some, resV_s]
      try simp only [W, EE]
      refine seq_n hK16 ?_
      refine w_ret ?_
      refine fin_r1 hK0 rfl ?_
      try obtain rfl := Option.some.inj h
      exact hP _ hS
theorem spec_l1Cur_pick_w {a0 : L1Cur} {a1 : Int} {i0 : Nat} {w0 : Nat} {r : (Int × L1Cur)} (h : spec_l1Cur_pick a0 a1 = some r) {F : List It} {H : Heap} (hS : Own H (⟨.ptr i0 w0 0 0, 3, [.agg [.fz (a0.Code.map (AV.int .u8)), .int .i64 a0.At, .int .u64 a0.Seed]]⟩ :: F)) {P : AV → Heap → Prop} (hP : ∀ H', Own H' (⟨.ptr i0 w0 0 0, 3, [.agg [.fz (r.2.Code.map (AV.int .u8)), .int .i64 r.2.At, .int .u64 r.2.Seed]]⟩ :: F) → P (.int .i64 r.1) H') : ACall C 149 [.ptr i0 w0 0 0, .int .i64 a1] H P := by
  refine acall_of gC (res := [.tmp 4]) (n := 20) rfl rfl rfl rfl fun K0 hK0 => ?_
  simp only [W, Nat.reduceSub, Nat.reduceAdd, List.replicate]
  unfold spec_l1Cur_pick at h
  refine w_seq fun K1 hK1 => ?_
  refine w_reg gC ?_
  try simp only [W, Nat.reduceAdd]
  refine seq_n hK1 ?_
  refine w_seq fun K2 hK2 => ?_
  refine w_seq fun K3 hK3 => ?_
  refine w_reg gC ?_
  try simp only [W, EE, Nat.reduceAdd]
  refine seq_n hK3 ?_
  refine w_if ?_
  simp only [W]
  refine w_cnd h (fun hc h => ?_) (fun hc h => ?_)
  · refine w_seq fun K4 hK4 => ?_
    refine w_reg gC ?_
    try simp only [W, Nat.reduceAdd]
    refine seq_n hK4 ?_
    refine w_ret ?_
    refine seq_r hK2 ?_
    refine fin_r1 hK0 rfl ?_
    try obtain rfl := Option.some.inj h
    exact hP _ hS
  · refine w_skip ?_
    refine seq_n hK2 ?_
    refine w_seq fun K5 hK5 => ?_
    refine w_reg gC ?_
    try simp only [W, Nat.reduceAdd]
    refine w_call h fun b6 hb6 h => ?_
    obtain ⟨b7, b8⟩ := b6
    try dsimp only at h
    refine spec_l1Cur_next_w hb6 hS fun H hS => ?_
    try simp only [W]
    refine seq_n hK5 ?_
    refine w_seq fun K9 hK9 => ?_
    refine w_seq fun K10 hK10 => ?_
    refine w_reg gC ?_
    try simp only [W, EE, Nat.reduceAdd]
    refine seq_n hK10 ?_
    obtain ⟨y15, h, g16⟩ := Option.bind_eq_some_iff.1 h
    refine w_join gC (fun s H => ∃ x11 : Int, ∃ x12 : List Int, ∃ x13 : Int, ∃ x14 : Int, y15 = (x11, x12, x13, x14) ∧ s = [u, .int .i64 a1, u, u, u, .int .i64 x11, u, u, u, u, u, u, u, u, u, u, u, u, u, u] ∧ Own H (⟨.ptr i0 w0 0 0, 3, [.agg [.fz (x12.map (AV.int .u8)), .int .i64 x13, .int .u64 x14]]⟩ :: F)) (fun K17 hK17 => ?_) (fun s H hq => ?_)
    · refine w_seq fun K18 hK18 => ?_
      refine w_if ?_
      simp only [W]
      refine w_cnd h (fun hc h => ?_) (fun hc h => ?_)
      · refine w_reg gC ?_
        try simp only [W, EE, Nat.reduceAdd]
        refine w_call h fun b19 hb19 h => ?_
        obtain ⟨b20, b21⟩ := b19
        try dsimp only at h
        refine spec_l1Cur_next_w hb19 hS fun H hS => ?_
        try simp only [W, EE]
        refine seq_n hK18 ?_
        refine w_kill ?_
        exact cut_n hK17 ⟨_, _, _, _, (Option.some.inj h).symm, rfl, hS⟩
      · refine w_skip ?_
        refine seq_n hK18 ?_
        refine w_kill ?_
        exact cut_n hK17 ⟨_, _, _, _, (Option.some.inj h).symm, rfl, hS⟩
    · obtain ⟨x11, x12, x13, x14, rfl, rfl, hS⟩ := hq
      replace h := g16
      try dsimp only at h
      refine seq_n hK9 ?_
      refine w_seq fun K22 hK22 => ?_
      refine w_reg gC ?_
      try simp only [W, EE, Nat.reduceAdd]
      refine w_num _ h fun x23 hx23 h => ?_
      try simp only [W]
      refine seq_n hK22 ?_
      refine w_ret ?_
      refine fin_r1 hK0 rfl ?_
      try obtain rfl := Option.some.inj h
      exact hP _ hS
theorem spec_l1Cur_among_w {a0 : L1Cur} {a1 : List Int} {i0 : Nat} {w0 : Nat} {r : (Int × L1Cur)} (h : spec_l1Cur_among a0 a1 = some r) {F : List It} {H : Heap} (hS : Own H (⟨.ptr i0 w0 0 0, 3, [.agg [.fz (a0.Code.map (AV.int .u8)), .int .i64 a0.At, .int .u64 a0.Seed]]⟩ :: F)) {P : AV → Heap → Prop} (hP : ∀ H', Own H' (⟨.ptr i0 w0 0 0, 3, [.agg [.fz (r.2.Code.map (AV.int .u8)), .int .i64 r.2.At, .int .u64 r.2.Seed]]⟩ :: F) → P (.int .i64 r.1) H') : ACall C 134 [.ptr i0 w0 0 0, .fz (a1.map (AV.int .i64))] H P := by
  refine acall_of gC (res := [.tmp 4]) (n := 12) rfl rfl rfl rfl fun K0 hK0 => ?_
  simp only [W, Nat.reduceSub, Nat.reduceAdd, List.replicate]
  unfold spec_l1Cur_among at h
  refine w_seq fun K1 hK1 => ?_
  refine w_reg gC ?_
  try simp only [W, Nat.reduceAdd]
  refine seq_n hK1 ?_
  refine w_seq fun K2 hK2 => ?_
  refine w_reg gC ?_
  try simp only [W, EE, Nat.reduceAdd]
  refine w_call h fun b3 hb3 h => ?_
  obtain ⟨b4, b5⟩ := b3
  try dsimp only at h
  refine spec_l1Cur_pick_w hb3 hS fun H hS => ?_
  try simp only [W, EE]
  refine w_fz rfl rfl rfl (fun _ => rfl) h fun b6 hb6 h => ?_
  try simp only [W, EE]
  refine seq_n hK2 ?_
  refine w_ret ?_
  refine fin_r1 hK0 rfl ?_
  try obtain rfl := Option.some.inj h
  exact hP _ hS
theorem spec_l1Cur_one_w {a0 : L1Cur} {a1 : Int} {i0 : Nat} {w0 : Nat} {r : (Bool × L1Cur)} (h : spec_l1Cur_one a0 a1 = some r) {F : List It} {H : Heap} (hS : Own H (⟨.ptr i0 w0 0 0, 3, [.agg [.fz (a0.Code.map (AV.int .u8)), .int .i64 a0.At, .int .u64 a0.Seed]]⟩ :: F)) {P : AV → Heap → Prop} (hP : ∀ H', Own H' (⟨.ptr i0 w0 0 0, 3, [.agg [.fz (r.2.Code.map (AV.int .u8)), .int .i64 r.2.At, .int .u64 r.2.Seed]]⟩ :: F) → P (.bool r.1) H') : ACall C 180 [.ptr i0 w0 0 0, .int .i64 a1] H P := by
  refine acall_of gC (res := [.tmp 4]) (n := 9) rfl rfl rfl rfl fun K0 hK0 => ?_
  simp only [W, Nat.reduceSub, Nat.reduceAdd, List.replicate]
  unfold spec_l1Cur_one at h
  refine w_seq fun K1 hK1 => ?_
  refine w_reg gC ?_
  try simp only [W, Nat.reduceAdd]
  refine seq_n hK1 ?_
  refine w_seq fun K2 hK2 => ?_
  refine w_reg gC ?_
  try simp only [W, Nat.reduceAdd]
  refine w_call h fun b3 hb3 h => ?_
  obtain ⟨b4, b5⟩ := b3
  try dsimp only at h
  refine spec_l1Cur_pick_w hb3 hS fun H hS => ?_
  try simp only [W, EE]
  refine seq_n hK2 ?_
  refine w_ret ?_
  refine fin_r1 hK0 rfl ?_
  try obtain rfl := Option.some.inj h
  exact hP _ hS
theorem spec_l1Cur_seen_w {a0 : L1Cur} {i0 : Nat} {w0 : Nat} {r : (Seen × L1Cur)} (h : spec_l1Cur_seen a0 = some r) {F : List It} {H : Heap} (hS : Own H (⟨.ptr i0 w0 0 0, 3, [.agg [.fz (a0.Code.map (AV.int .u8)), .int .i64 a0.At, .int .u64 a0.Seed]]⟩ :: F)) {P : AV → Heap → Prop} (hP : ∀ H', Own H' (⟨.ptr i0 w0 0 0, 3, [.agg [.fz (r.2.Code.map (AV.int .u8)), .int .i64 r.2.At, .int .u64 r.2.Seed]]⟩ :: F) → P (.agg [.int .i64 r.1.Took, .bool r.1.Twice, .bool r.1.Lost]) H') : ACall C 127 [.ptr i0 w0 0 0] H P := by
  refine acall_of gC (res := [.cell 2 76]) (n := 26) rfl rfl rfl rfl fun K0 hK0 => ?_
  simp only [W, Nat.reduceSub, Nat.reduceAdd, List.replicate]
  unfold spec_l1Cur_seen at h
  refine w_seq fun K1 hK1 => ?_
  refine w_reg gC ?_
  try simp only [W, Nat.reduceAdd]
  refine w_alloc hS rfl rfl fun ip2 wp2 H hS => ?_
  try simp only [W]
  refine seq_n hK1 ?_
  refine w_seq fun K4 hK4 => ?_
  refine w_seq fun K5 hK5 => ?_
  refine w_reg gC ?_
  try simp only [W, Nat.reduceAdd]
  refine w_call h fun b6 hb6 h => ?_
  obtain ⟨b7, b8⟩ := b6
  try dsimp only at h
  refine spec_l1Cur_pick_w hb6 (hS.sel 2 [1, 0] (by decide)) fun H hS => ?_
  try simp only [W]
  refine seq_n hK5 ?_
  refine w_blk fun K9 hK9 => ?_
  refine w_seq fun K10 hK10 => ?_
  refine w_reg gC ?_
  try simp only [W, EE, Nat.reduceAdd]
  refine seq_n hK10 ?_
  refine w_if ?_
  simp only [W]
  refine w_cnd h (fun hc h => ?_) (fun hc h => ?_)
  · refine w_seq fun K11 hK11 => ?_
    refine w_reg gC ?_
    try simp only [W, Nat.reduceAdd]
    refine w_call h fun b12 hb12 h => ?_
    obtain ⟨b13, b14⟩ := b12
    try dsimp only at h
    refine spec_l1Cur_pick_w hb12 hS fun H hS => ?_
    try simp only [W, EE]
    rw [dv_lit _ _ _ rfl, Option.map_some, resV_s]
    try simp only [W]
    refine w_call h fun b15 hb15 h => ?_
    obtain ⟨b16, b17⟩ := b15
    try dsimp only at h
    refine spec_l1Cur_one_w hb15 hS fun H hS => ?_
    try simp only [W, EE]
    refine w_bld rfl rfl rfl rfl rfl ?_
    try simp only [W]
    refine w_stv (a := .agg [.int .i64 (IntKind.i64.wrap (Int.tdiv b13 8)), .bool b16, .bool true]) (y' := .agg [.int .i64 (IntKind.i64.wrap (Int.tdiv b13 8)), .bool b16, .bool true]) 1 hS rfl rfl rfl rfl rfl rfl rfl rfl fun H hS => ?_
    try simp only [W]
    refine seq_n hK11 ?_
    refine w_ret ?_
    refine blk_r hK9 ?_
    refine seq_r hK4 ?_
    refine fin_r hK0 (res_c rfl rfl (hS.var 1 rfl) rfl rfl) ?_
    try obtain rfl := Option.some.inj h
    exact hP _ (hS.sel 2 [0] (by decide))
  · refine w_seq fun K18 hK18 => ?_
    refine w_reg gC ?_
    try simp only [W, EE, Nat.reduceAdd]
    refine seq_n hK18 ?_
    refine w_if ?_
    simp only [W]
    refine w_cnd h (fun hc h => ?_) (fun hc h => ?_)
    · refine w_seq fun K19 hK19 => ?_
      refine w_reg gC ?_
      try simp only [W, Nat.reduceAdd]
      refine w_call h fun b20 hb20 h => ?_
      obtain ⟨b21, b22⟩ := b20
      try dsimp only at h
      refine spec_l1Cur_pick_w hb20 hS fun H hS => ?_
      try simp only [W, EE]
      refine w_bld rfl rfl rfl rfl rfl ?_
      try simp only [W]
      refine w_stv (a := .agg [.int .i64 b21, .bool true, .bool false]) (y' := .agg [.int .i64 b21, .bool true, .bool false]) 1 hS rfl rfl rfl rfl rfl rfl rfl rfl fun H hS => ?_
      try simp only [W]
      refine seq_n hK19 ?_
      refine w_ret ?_
      refine blk_r hK9 ?_
      refine seq_r hK4 ?_
      refine fin_r hK0 (res_c rfl rfl (hS.var 1 rfl) rfl rfl) ?_
      try obtain rfl := Option.some.inj h
      exact hP _ (hS.sel 2 [0] (by decide))
    · refine w_skip ?_
      refine blk_n0 hK9 ?_
      refine seq_n hK4 ?_
      refine w_seq fun K23 hK23 => ?_
      refine w_regF (fz := [(6, [([23], [.sl [.sc]])])]) gC ?_
      try simp only [W, Nat.reduceAdd, Nat.reduceBEq]
      refine w_call h fun b24 hb24 h => ?_
      obtain ⟨b25, b26⟩ := b24
      try dsimp only at h
      refine spec_l1Cur_pick_w hb24 hS fun H hS => ?_
      try simp only [W, EE, Nat.reduceAdd, Nat.reduceBEq]
      rw [dv_lit _ _ _ rfl, Option.map_some, resV_s]
      try simp only [W, EE, Nat.reduceAdd, Nat.reduceBEq]
      refine w_lit (el := ([0, 5, 10, 11, 12, 20, 100, 1000, (IntKind.i64.wrap (1000 + (IntKind.i64.wrap (Int.tdiv b25 8))))] : List Int).map (AV.int .i64)) hS rfl rfl rfl rfl rfl rfl rfl fun v27 H qv27 hS => ?_
      try simp only [W, Nat.reduceAdd]
      refine FZ_own 0 hS rfl qv27 rfl (fun _ _ => by simp [takeE, takeT, plainA]) (fun _ => rfl) fun H hsame hS => ?_
      try simp only [W]
      refine w_call h fun b29 hb29 h => ?_
      obtain ⟨b30, b31⟩ := b29
      try dsimp only at h
      refine spec_l1Cur_among_w hb29 hS fun H hS => ?_
      try simp only [W, EE, Nat.reduceAdd, Nat.reduceBEq]
      refine w_bld rfl rfl rfl rfl rfl ?_
      try simp only [W, Nat.reduceAdd, Nat.reduceBEq]
      refine w_stv (a := .agg [.int .i64 b30, .bool false, .bool false]) (y' := .agg [.int .i64 b30, .bool false, .bool false]) 1 hS rfl rfl rfl rfl rfl rfl rfl rfl fun H hS => ?_
      try simp only [W, Nat.reduceAdd]
      refine seq_n hK23 ?_
      refine w_ret ?_
      refine fin_r hK0 (res_c rfl rfl (hS.var 1 rfl) rfl rfl) ?_
      try obtain rfl := Option.some.inj h
      exact hP _ (hS.sel 2 [0] (by decide))
theorem spec_l1Cur_allSeen_w {a0 : L1Cur} {i0 : Nat} {w0 : Nat} {r : (List Seen × L1Cur)} (h : spec_l1Cur_allSeen a0 = some r) {F : List It} {H : Heap} (hS : Own H (⟨.ptr i0 w0 0 0, 3, [.agg [.fz (a0.Code.map (AV.int .u8)), .int .i64 a0.At, .int .u64 a0.Seed]]⟩ :: F)) {P : AV → Heap → Prop} (hP : ∀ v59 : AV, isSl v59 → ∀ H', Own H' (⟨v59, 3, r.1.map e_Seen⟩ :: ⟨.ptr i0 w0 0 0, 3, [.agg [.fz (r.2.Code.map (AV.int .u8)), .int .i64 r.2.At, .int .u64 r.2.Seed]]⟩ :: F) → P (v59) H') : ACall C 135 [.ptr i0 w0 0 0] H P := by
  refine acall_of gC (res := [.tmp 2]) (n := 22) rfl rfl rfl rfl fun K0 hK0 => ?_
  simp only [W, Nat.reduceSub, Nat.reduceAdd, List.replicate]
  unfold spec_l1Cur_allSeen at h
  refine w_seq fun K1 hK1 => ?_
  refine w_reg gC ?_
  try simp only [W, Nat.reduceAdd]
  refine seq_n hK1 ?_
  refine w_seq fun K2 hK2 => ?_
  refine w_reg gC ?_
  try simp only [W, Nat.reduceAdd]
  refine seq_n hK2 ?_
  refine w_seq fun K3 hK3 => ?_
  refine w_reg gC ?_
  try simp only [W, Nat.reduceAdd]
  refine w_call h fun b4 hb4 h => ?_
  obtain ⟨b5, b6⟩ := b4
  try dsimp only at h
  refine spec_l1Cur_pick_w hb4 hS fun H hS => ?_
  try simp only [W]
  refine seq_n hK3 ?_
  refine w_seq fun K7 hK7 => ?_
  refine w_seq fun K8 hK8 => ?_
  refine w_reg gC ?_
  try simp only [W, Nat.reduceAdd]
  refine w_call h fun b9 hb9 h => ?_
  obtain ⟨b10, b11⟩ := b9
  try dsimp only at h
  refine spec_l1Cur_one_w hb9 hS fun H hS => ?_
  try simp only [W]
  refine seq_n hK8 ?_
  obtain ⟨y16, h, g17⟩ := Option.bind_eq_some_iff.1 h
  refine w_join gC (fun s H => ∃ x12 : Int, ∃ x13 : List Int, ∃ x14 : Int, ∃ x15 : Int, y16 = (x12, x13, x14, x15) ∧ s = [.ptr i0 w0 0 0, u, u, .nil, .int .i64 x12, u, u, u, u, u, u, u, u, u, u, u, u, u, u, u, u, u] ∧ Own H (⟨.ptr i0 w0 0 0, 3, [.agg [.fz (x13.map (AV.int .u8)), .int .i64 x14, .int .u64 x15]]⟩ :: F)) (fun K18 hK18 => ?_) (fun s H hq => ?_)
  · refine w_seq fun K19 hK19 => ?_
    refine w_if ?_
    simp only [W]
    refine w_cnd h (fun hc h => ?_) (fun hc h => ?_)
    · refine w_reg gC ?_
      try simp only [W, Nat.reduceAdd]
      refine w_call h fun b20 hb20 h => ?_
      obtain ⟨b21, b22⟩ := b20
      try dsimp only at h
      refine spec_l1Cur_pick_w hb20 hS fun H hS => ?_
      try simp only [W, EE]
      refine seq_n hK19 ?_
      refine w_kill ?_
      exact cut_n hK18 ⟨_, _, _, _, (Option.some.inj h).symm, rfl, hS⟩
    · refine w_skip ?_
      refine seq_n hK19 ?_
      refine w_kill ?_
      exact cut_n hK18 ⟨_, _, _, _, (Option.some.inj h).symm, rfl, hS⟩
  · obtain ⟨x12, x13, x14, x15, rfl, rfl, hS⟩ := hq
    replace h := g17
    try dsimp only at h
    refine seq_n hK7 ?_
    refine w_seq fun K23 hK23 => ?_
    obtain ⟨y36, hw37, g43⟩ := Option.bind_eq_some_iff.1 h
    refine w_join gC (fun s H => ∃ x31 : List Seen, ∃ x33 : List Int, ∃ x34 : Int, ∃ x35 : Int, y36 = (x31, x33, x34, x35) ∧ ∃ v32 : AV, isSl v32 ∧ s = [u, u, u, v32, u, u, u, u, u, u, u, u, u, u, u, u, u, u, u, u, u, u] ∧ Own H (⟨v32, 3, x31.map e_Seen⟩ :: ⟨.ptr i0 w0 0 0, 3, [.agg [.fz (x33.map (AV.int .u8)), .int .i64 x34, .int .u64 x35]]⟩ :: F)) (fun K38 hK38 => ?_) (fun s H hq => ?_)
    · refine w_blk fun K39 hK39 => ?_
      refine w_loop gC hw37 (fun x s H => match x with | (x24, x27, x28, x29, x30) => ∃ v25 : AV, isSl v25 ∧ s = [.ptr i0 w0 0 0, u, u, v25, .int .i64 x27, u, u, u, u, u, u, u, u, u, u, u, u, u, u, u, u, u] ∧ Own H (⟨v25, 3, x24.map e_Seen⟩ :: ⟨.ptr i0 w0 0 0, 3, [.agg [.fz (x28.map (AV.int .u8)), .int .i64 x29, .int .u64 x30]]⟩ :: F)) ⟨_, isSl_nil, rfl, (hS.nil_ 3)⟩ (fun x y42 s H h hd41 hi K40 hK40 => ?_)
      obtain ⟨x24, x27, x28, x29, x30⟩ := x
      try dsimp only at hi
      obtain ⟨v25, qv25, rfl, hS⟩ := hi
      simp only [spec_l1Cur_allSeen_l0] at h
      refine w_seq fun K44 hK44 => ?_
      refine w_seq fun K45 hK45 => ?_
      refine w_reg gC ?_
      try simp only [W, EE, Nat.reduceAdd]
      refine seq_n hK45 ?_
      refine w_if ?_
      simp only [W]
      refine w_cnd h (fun hc h => ?_) (fun hc h => ?_)
      · refine w_skip ?_
        refine seq_n hK44 ?_
        refine w_seq fun K46 hK46 => ?_
        refine w_blk fun K47 hK47 => ?_
        refine w_reg gC ?_
        try simp only [W, Nat.reduceAdd]
        refine w_call h fun b48 hb48 h => ?_
        obtain ⟨b49, b50⟩ := b48
        try dsimp only at h
        refine spec_l1Cur_seen_w hb48 (hS.sel 2 [1, 0] (by decide)) fun H hS => ?_
        try simp only [W]
        refine w_lit (el := ([b49] : List Seen).map e_Seen) hS rfl rfl rfl rfl rfl rfl rfl fun v51 H qv51 hS => ?_
        try simp only [W, EE]
        refine w_appV (l := x24) (c := e_Seen) 2 hS rfl qv25 rfl rfl rfl (hS.elems 0 rfl qv51) (fun _ => rfl) rfl h fun v54 H x53 qv54 hm h hS => ?_
        try simp only [W]
        refine blk_n0 hK47 ?_
        refine seq_n hK46 ?_
        refine w_reg gC ?_
        try simp only [W, EE, Nat.reduceAdd]
        exact lp_n hK40 h ⟨_, qv54, rfl, (hS.sel 3 [2, 1] (by decide))⟩
      · refine w_exit ?_
        refine seq_x hK44 ?_
        try obtain rfl := Option.some.inj h
        obtain rfl := hd41 _ rfl
        have h : (some (x24, x28, x29, x30) : Option ((List Seen) × (List Int) × Int × Int)) = some (x24, x28, x29, x30) := rfl
        refine lp_x hK40 ?_
        refine blk_e hK39 ?_
        exact cut_n hK38 ⟨_, _, _, _, (Option.some.inj h).symm, _, qv25, rfl, hS⟩
    · obtain ⟨x31, x33, x34, x35, rfl, v32, qv32, rfl, hS⟩ := hq
      replace h := g43
      try dsimp only at h
      refine seq_n hK23 ?_
      refine w_seq fun K58 hK58 => ?_
      refine w_reg gC ?_
      try simp only [W, Nat.reduceAdd]
      refine seq_n hK58 ?_
      refine w_ret ?_
      refine fin_r1 hK0 rfl ?_
      try obtain rfl := Option.some.inj h
      exact hP _ qv32 _ hS
theorem spec_DrawSeeAll_w {a0 : List Int} {r : (Int × List Seen)} (h : spec_DrawSeeAll a0 = some r) {F : List It} {H : Heap} (hS : Own H (F)) {P : AV → Heap → Prop} (hP : ∀ v16 : AV, isSl v16 → ∀ H', Own H' (⟨v16, 3, r.2.map e_Seen⟩ :: F) → P (.tup [.int .i64 r.1, v16]) H') : ACall C 57 [.fz (a0.map (AV.int .u8))] H P := by
  refine acall_of gC (res := [.tmp 2, .tmp 3]) (n := 13) rfl rfl rfl rfl fun K0 hK0 => ?_
  simp only [W, Nat.reduceSub, Nat.reduceAdd, List.replicate]
  unfold spec_DrawSeeAll at h
  refine w_seq fun K1 hK1 => ?_
  refine w_reg gC ?_
  try simp only [W, Nat.reduceAdd]
  refine seq_n hK1 ?_
  refine w_seq fun K2 hK2 => ?_
  refine w_reg gC ?_
  try simp only [W, EE, Nat.reduceAdd]
  refine w_bld rfl rfl rfl rfl rfl ?_
  try simp only [W]
  refine w_box hS rfl rfl rfl rfl fun ip3 wp3 H hS => ?_
  try simp only [W]
  refine seq_n hK2 ?_
  refine w_seq fun K5 hK5 => ?_
  refine w_regF (fz := [(2, [([9], [.sl [.sc]])])]) gC ?_
  try simp only [W, Nat.reduceAdd, Nat.reduceBEq]
  refine w_lit (el := ([0, 1, 10, 10, 50, 1000, 1001] : List Int).map (AV.int .i64)) hS rfl rfl rfl rfl rfl rfl rfl fun v6 H qv6 hS => ?_
  try simp only [W, Nat.reduceAdd]
  refine FZ_own 0 hS rfl qv6 rfl (fun _ _ => by simp [takeE, takeT, plainA]) (fun _ => rfl) fun H hsame hS => ?_
  try simp only [W]
  refine w_call h fun b8 hb8 h => ?_
  obtain ⟨b9, b10⟩ := b8
  try dsimp only at h
  refine spec_l1Cur_among_w hb8 hS fun H hS => ?_
  try simp only [W, Nat.reduceAdd, Nat.reduceBEq]
  refine w_call h fun b11 hb11 h => ?_
  obtain ⟨b12, b13⟩ := b11
  try dsimp only at h
  refine spec_l1Cur_allSeen_w hb11 hS fun v14 qv14 H hS => ?_
  try simp only [W, Nat.reduceAdd, Nat.reduceBEq]
  refine seq_n hK5 ?_
  refine w_ret ?_
  refine fin_r2 hK0 rfl rfl ?_
  try obtain rfl := Option.some.inj h
  exact hP _ qv14 _ (hS.sel 2 [0] (by decide))
theorem impl_in_w {a0 : Int} {a1 : Int} {a2 : Int} {r : (Bool)} (h : impl_in a0 a1 a2 = some r) {F : List It} {H : Heap} (hS : Own H (F)) {P : AV → Heap → Prop} (hP : ∀ H', Own H' (F) → P (.bool r) H') : ACall C 95 [.int .i64 a0, .int .i64 a1, .int .i64 a2] H P := by
  refine acall_of gC (res := [.tmp 6]) (n := 15) rfl rfl rfl rfl fun K0 hK0 => ?_
  simp only [W, Nat.reduceSub, Nat.reduceAdd, List.replicate]
  unfold impl_in at h
  refine w_seq fun K1 hK1 => ?_
  refine w_reg gC ?_
  try simp only [W, Nat.reduceAdd]
  refine seq_n hK1 ?_
  refine w_seq fun K2 hK2 => ?_
  refine w_reg gC ?_
  try simp only [W, EE, Nat.reduceAdd]
  refine w_grdT h (fun hc h => ?_) (fun hc h => ?_)
  · try simp only [W, EE, reduceIte, hc]
    refine seq_n hK2 ?_
    refine w_ret ?_
    refine fin_r1 hK0 rfl ?_
    try obtain rfl := Option.some.inj h
    exact hP _ hS
  · try simp only [W, hc]
    refine seq_n hK2 ?_
    refine w_ret ?_
    refine fin_r1 hK0 rfl ?_
    try obtain rfl := Option.some.inj h
    exact hP _ hS
theorem impl_NewGuess_w {a0 : Int} {r : (Guess × Bool)} (h : impl_NewGuess a0 = some r) {F : List It} {H : Heap} (hS : Own H (F)) {P : AV → Heap → Prop} (hP : ∀ H', Own H' (F) → P (.tup [.agg [.int .i64 r.1.Mean, .int .i64 r.1.Swing, .int .i64 r.1.Many, .int .i64 r.1.Back], .bool r.2]) H') : ACall C 55 [.int .i64 a0] H P := by
  refine acall_of gC (res := [.cell 2 74, .tmp 3]) (n := 13) rfl rfl rfl rfl fun K0 hK0 => ?_
  simp only [W, Nat.reduceSub, Nat.reduceAdd, List.replicate]
  unfold impl_NewGuess at h
  refine w_seq fun K1 hK1 => ?_
  refine w_reg gC ?_
  try simp only [W, Nat.reduceAdd]
  refine w_alloc hS rfl rfl fun ip2 wp2 H hS => ?_
  try simp only [W]
  refine seq_n hK1 ?_
  refine w_seq fun K4 hK4 => ?_
  refine w_seq fun K5 hK5 => ?_
  refine w_reg gC ?_
  try simp only [W, Nat.reduceAdd]
  refine w_call h fun b6 hb6 h => ?_
  refine impl_in_w hb6 hS fun H hS => ?_
  try simp only [W]
  refine seq_n hK5 ?_
  refine w_if ?_
  simp only [W]
  refine w_cnd h (fun hc h => ?_) (fun hc h => ?_)
  · refine w_seq fun K7 hK7 => ?_
    refine w_reg gC ?_
    try simp only [W, EE, Nat.reduceAdd]
    refine w_bld rfl rfl rfl rfl rfl ?_
    try simp only [W]
    refine w_stv (a := .agg [.int .i64 0, .int .i64 0, .int .i64 0, .int .i64 0]) (y' := .agg [.int .i64 0, .int .i64 0, .int .i64 0, .int .i64 0]) 0 hS rfl rfl rfl rfl rfl rfl rfl rfl fun H hS => ?_
    try simp only [W]
    refine seq_n hK7 ?_
    refine w_ret ?_
    refine seq_r hK4 ?_
    refine fin_r hK0 (res_c rfl rfl (hS.var 0 rfl) rfl (res_tc rfl rfl)) ?_
    try obtain rfl := Option.some.inj h
    exact hP _ (hS.sel 1 [] (by decide))
  · refine w_skip ?_
    refine seq_n hK4 ?_
    refine w_seq fun K8 hK8 => ?_
    refine w_reg gC ?_
    try simp only [W, EE, Nat.reduceAdd]
    refine w_bld rfl rfl rfl rfl rfl ?_
    try simp only [W]
    refine w_stv (a := .agg [.int .i64 (IntKind.i64.wrap (8 * a0)), .int .i64 (IntKind.i64.wrap (2 * a0)), .int .i64 1, .int .i64 0]) (y' := .agg [.int .i64 (IntKind.i64.wrap (8 * a0)), .int .i64 (IntKind.i64.wrap (2 * a0)), .int .i64 1, .int .i64 0]) 0 hS rfl rfl rfl rfl rfl rfl rfl rfl fun H hS => ?_
    try simp only [W]
    refine seq_n hK8 ?_
    refine w_ret ?_
    refine fin_r hK0 (res_c rfl rfl (hS.var 0 rfl) rfl (res_tc rfl rfl)) ?_
    try obtain rfl := Option.some.inj h
    exact hP _ (hS.sel 1 [] (by decide))
theorem impl_isSeen_w {a0 : Seen} {r : (Bool)} (h : impl_isSeen a0 = some r) {F : List It} {H : Heap} (hS : Own H (F)) {P : AV → Heap → Prop} (hP : ∀ H', Own H' (F) → P (.bool r) H') : ACall C 128 [.agg [.int .i64 a0.Took, .bool a0.Twice, .bool a0.Lost]] H P := by
  refine acall_of gC (res := [.tmp 2]) (n := 20) rfl rfl rfl rfl fun K0 hK0 => ?_
  simp only [W, Nat.reduceSub, Nat.reduceAdd, List.replicate]
  unfold impl_isSeen at h
  refine w_seq fun K1 hK1 => ?_
  refine w_reg gC ?_
  try simp only [W, Nat.reduceAdd]
  refine w_box hS rfl rfl rfl rfl fun ip2 wp2 H hS => ?_
  try simp only [W]
  refine seq_n hK1 ?_
  refine w_seq fun K4 hK4 => ?_
  refine w_reg gC ?_
  try simp only [W, EE, Nat.reduceAdd, Nat.reduceBEq, hS.var 0 rfl]
  refine w_call h fun b5 hb5 h => ?_
  refine impl_in_w hb5 hS fun H hS => ?_
  try simp only [W]
  refine w_grdT h (fun hc h => ?_) (fun hc h => ?_)
  · try simp only [W, EE, Nat.reduceAdd, Nat.reduceBEq, hS.var 0 rfl, hc]
    refine w_grdT h (fun hc h => ?_) (fun hc h => ?_)
    · try simp only [W, EE, Nat.reduceAdd, Nat.reduceBEq, hS.var 0 rfl, hc]
      refine w_grdT h (fun hc h => ?_) (fun hc h => ?_)
      · try simp only [W, reduceIte, hc]
        refine seq_n hK4 ?_
        refine w_ret ?_
        refine fin_r1 hK0 rfl ?_
        try obtain rfl := Option.some.inj h
        exact hP _ (hS.sel 1 [] (by decide))
      · try simp only [W, EE, reduceIte, Nat.reduceAdd, Nat.reduceBEq, Bool.false_eq_true, hS.var 0 rfl, hc]
        refine seq_n hK4 ?_
        refine w_ret ?_
        refine fin_r1 hK0 rfl ?_
        try obtain rfl := Option.some.inj h
        exact hP _ (hS.sel 1 [] (by decide))
    · try simp only [W, reduceIte, hc]
      refine seq_n hK4 ?_
      refine w_ret ?_
      refine fin_r1 hK0 rfl ?_
      try obtain rfl := Option.some.inj h
      exact hP _ (hS.sel 1 [] (by decide))
  · try simp only [W, hc]
    refine seq_n hK4 ?_
    refine w_ret ?_
    refine fin_r1 hK0 rfl ?_
    try obtain rfl := Option.some.inj h
    exact hP _ (hS.sel 1 [] (by decide))
theorem impl_areSeen_w {a0 : List Seen} {r : (Bool)} (h : impl_areSeen a0 = some r) {F : List It} {H : Heap} (hS : Own H (F)) {P : AV → Heap → Prop} (hP : ∀ H', Own H' (F) → P (.bool r) H') : ACall C 136 [.fz (a0.map e_Seen)] H P := by
  refine acall_of gC (res := [.tmp 2]) (n := 18) rfl rfl rfl rfl fun K0 hK0 => ?_
  simp only [W, Nat.reduceSub, Nat.reduceAdd, List.replicate]
  unfold impl_areSeen at h
  refine w_seq fun K1 hK1 => ?_
  refine w_reg gC ?_
  try simp only [W, Nat.reduceAdd]
  refine seq_n hK1 ?_
  refine w_seq fun K2 hK2 => ?_
  refine w_seq fun K3 hK3 => ?_
  refine w_reg gC ?_
  try simp only [W, EE, Nat.reduceAdd]
  refine seq_n hK3 ?_
  obtain ⟨y5, hw6, g12⟩ := Option.bind_eq_some_iff.1 h
  refine w_join gC (fun s H => y5 = LR.next () ∧ s = [.fz (a0.map e_Seen), u, u, u, u, u, u, u, u, u, u, u, u, u, u, u, u, u] ∧ Own H (F)) (fun K7 hK7 => ?_) (fun s H hq => ?_)
  · refine w_blk fun K8 hK8 => ?_
    refine w_loop gC hw6 (fun x s H => s = [.fz (a0.map e_Seen), u, u, u, u, .fz (a0.map e_Seen), .int .i64 (a0.length : Int), .int .i64 x, u, u, u, u, u, u, u, u, u, u] ∧ Own H (F)) ⟨rfl, hS⟩ (fun x4 y11 s H h hd10 hi K9 hK9 => ?_)
    skip
    try dsimp only at hi
    obtain ⟨rfl, hS⟩ := hi
    simp only [impl_areSeen_l0] at h
    refine w_seq fun K13 hK13 => ?_
    refine w_reg gC ?_
    try simp only [W, EE, Nat.reduceAdd]
    refine seq_n hK13 ?_
    refine w_seq fun K14 hK14 => ?_
    refine w_if ?_
    simp only [W]
    refine w_cnd h (fun hc h => ?_) (fun hc h => ?_)
    · refine w_skip ?_
      refine seq_n hK14 ?_
      refine w_seq fun K15 hK15 => ?_
      refine w_blk fun K16 hK16 => ?_
      refine w_seq fun K17 hK17 => ?_
      refine w_reg gC ?_
      try simp only [W, EE, Nat.reduceAdd]
      refine w_fz rfl rfl rfl (fun _ => rfl) h fun b18 hb18 h => ?_
      try simp only [W, EE, EN, reduceIte, Nat.reduceAdd, Nat.reduceLeDiff]
      refine w_alloc hS rfl rfl fun ip19 wp19 H hS => ?_
      try simp only [W]
      refine w_stv (a := .agg [.int .i64 b18.Took, .bool b18.Twice, .bool b18.Lost]) (y' := .agg [.int .i64 b18.Took, .bool b18.Twice, .bool b18.Lost]) 0 hS rfl rfl rfl rfl rfl rfl rfl rfl fun H hS => ?_
      try simp only [W]
      refine seq_n hK17 ?_
      refine w_seq fun K21 hK21 => ?_
      refine w_reg gC ?_
      try simp only [W, EE, reduceIte, Nat.reduceAdd, Nat.reduceLeDiff, hS.var 0 rfl]
      refine w_call h fun b22 hb22 h => ?_
      refine impl_isSeen_w hb22 hS fun H hS => ?_
      try simp only [W]
      refine seq_n hK21 ?_
      refine w_if ?_
      simp only [W]
      refine w_cnd h (fun hc h => ?_) (fun hc h => ?_)
      · refine w_seq fun K23 hK23 => ?_
        refine w_reg gC ?_
        try simp only [W, Nat.reduceAdd]
        refine seq_n hK23 ?_
        refine w_ret ?_
        refine blk_r hK16 ?_
        refine seq_r hK15 ?_
        try obtain rfl := Option.some.inj h
        obtain rfl := hd10 _ rfl
        have h : (some (LR.done false) : Option (LR Unit (Bool))) = some (LR.done false) := rfl
        refine lp_r hK9 ?_
        refine blk_r hK8 ?_
        try obtain rfl := Option.some.inj h
        obtain rfl := Option.some.inj g12
        have h : (some false : Option (Bool)) = some false := rfl
        refine cut_r hK7 ?_
        refine seq_r hK2 ?_
        refine fin_r1 hK0 rfl ?_
        try obtain rfl := Option.some.inj h
        exact hP _ (hS.sel 1 [] (by decide))
      · refine w_skip ?_
        refine blk_n0 hK16 ?_
        refine seq_n hK15 ?_
        refine w_reg gC ?_
        try simp only [W, EE, Nat.reduceAdd]
        exact lp_n hK9 h ⟨rfl, (hS.sel 1 [] (by decide))⟩
    · refine w_exit ?_
      refine seq_x hK14 ?_
      try obtain rfl := Option.some.inj h
      obtain rfl := hd10 _ rfl
      have h : (some (LR.next ()) : Option (LR Unit (Bool))) = some (LR.next ()) := rfl
      refine lp_x hK9 ?_
      refine blk_e hK8 ?_
      exact cut_n hK7 ⟨(Option.some.inj h).symm, rfl, hS⟩
  · obtain ⟨rfl, rfl, hS⟩ := hq
    replace h := g12
    try dsimp only at h
    refine seq_n hK2 ?_
    refine w_seq fun K30 hK30 => ?_
    refine w_reg gC ?_
    try simp only [W, EE, Nat.reduceAdd]
    refine seq_n hK30 ?_
    refine w_ret ?_
    refine fin_r1 hK0 rfl ?_
    try obtain rfl := Option.some.inj h
    exact hP _ hS
theorem impl_Guess_see_w {a0 : Guess} {a1 : Seen} {i0 : Nat} {w0 : Nat} {r : (Guess)} (h : impl_Guess_see a0 a1 = some r) {F : List It} {H : Heap} (hS : Own H (⟨.ptr i0 w0 0 0, 4, [.agg [.int .i64 a0.Mean, .int .i64 a0.Swing, .int .i64 a0.Many, .int .i64 a0.Back]]⟩ :: F)) {P : AV → Heap → Prop} (hP : ∀ H', Own H' (⟨.ptr i0 w0 0 0, 4, [.agg [.int .i64 r.Mean, .int .i64 r.Swing, .int .i64 r.Many, .int .i64 r.Back]]⟩ :: F) → P (.tup []) H') : ACall C 129 [.ptr i0 w0 0 0, .agg [.int .i64 a1.Took, .bool a1.Twice, .bool a1.Lost]] H P := by
  refine acall_of gC (res := []) (n := 63) rfl rfl rfl rfl fun K0 hK0 => ?_
  simp only [W, Nat.reduceSub, Nat.reduceAdd, List.replicate]
  unfold impl_Guess_see at h
  refine w_seq fun K1 hK1 => ?_
  refine w_reg gC ?_
  try simp only [W, Nat.reduceAdd]
  refine w_box hS rfl rfl rfl rfl fun ip2 wp2 H hS => ?_
  try simp only [W]
  refine seq_n hK1 ?_
  refine w_seq fun K4 hK4 => ?_
  refine w_seq fun K5 hK5 => ?_
  refine w_reg gC ?_
  try simp only [W, EE, Nat.reduceAdd, Nat.reduceBEq, hS.var 0 rfl]
  refine seq_n hK5 ?_
  refine w_if ?_
  simp only [W]
  refine w_cnd h (fun hc h => ?_) (fun hc h => ?_)
  · refine w_seq fun K6 hK6 => ?_
    refine w_reg gC ?_
    try simp only [W, EE, Nat.reduceAdd, Nat.reduceBEq, hS.var 1 rfl]
    refine w_stv (a := .int .i64 (if 6 < (IntKind.i64.wrap (a0.Back + 1)) then 6 else (IntKind.i64.wrap (a0.Back + 1)))) (y' := .agg [.int .i64 a0.Mean, .int .i64 a0.Swing, .int .i64 a0.Many, .int .i64 (if 6 < (IntKind.i64.wrap (a0.Back + 1)) then 6 else (IntKind.i64.wrap (a0.Back + 1)))]) 1 hS rfl rfl rfl rfl rfl rfl rfl rfl fun H hS => ?_
    try simp only [W]
    refine seq_n hK6 ?_
    refine w_ret ?_
    refine seq_r hK4 ?_
    refine fin_r0 hK0 ?_
    try obtain rfl := Option.some.inj h
    exact hP _ (hS.sel 2 [1] (by decide))
  · refine w_skip ?_
    refine seq_n hK4 ?_
    refine w_seq fun K7 hK7 => ?_
    refine w_reg gC ?_
    try simp only [W, EE, Nat.reduceAdd, Nat.reduceBEq, hS.var 1 rfl]
    refine w_stv (a := .int .i64 (if 1000 < (IntKind.i64.wrap (a0.Many + 1)) then 1000 else (IntKind.i64.wrap (a0.Many + 1)))) (y' := .agg [.int .i64 a0.Mean, .int .i64 a0.Swing, .int .i64 (if 1000 < (IntKind.i64.wrap (a0.Many + 1)) then 1000 else (IntKind.i64.wrap (a0.Many + 1))), .int .i64 a0.Back]) 1 hS rfl rfl rfl rfl rfl rfl rfl rfl fun H hS => ?_
    try simp only [W]
    refine seq_n hK7 ?_
    refine w_seq fun K8 hK8 => ?_
    refine w_seq fun K9 hK9 => ?_
    refine w_reg gC ?_
    try simp only [W, EE, Nat.reduceAdd, Nat.reduceBEq, hS.var 0 rfl]
    refine seq_n hK9 ?_
    refine w_if ?_
    simp only [W]
    refine w_cnd h (fun hc h => ?_) (fun hc h => ?_)
    · refine w_ret ?_
      refine seq_r hK8 ?_
      refine fin_r0 hK0 ?_
      try obtain rfl := Option.some.inj h
      exact hP _ (hS.sel 2 [1] (by decide))
    · refine w_skip ?_
      refine seq_n hK8 ?_
      refine w_seq fun K10 hK10 => ?_
      refine w_reg gC ?_
      try simp only [W, EE, Nat.reduceAdd, Nat.reduceBEq, hS.var 1 rfl]
      refine w_stv (a := .int .i64 0) (y' := .agg [.int .i64 a0.Mean, .int .i64 a0.Swing, .int .i64 (if 1000 < (IntKind.i64.wrap (a0.Many + 1)) then 1000 else (IntKind.i64.wrap (a0.Many + 1))), .int .i64 0]) 1 hS rfl rfl rfl rfl rfl rfl rfl rfl fun H hS => ?_
      try simp only [W]
      refine seq_n hK10 ?_
      refine w_seq fun K11 hK11 => ?_
      refine w_draw0 gC (by kernel_rfl) ?_
      try simp only [W, EE, Nat.reduceAdd, Nat.reduceBEq, hS.var 1 rfl, hS.var 0 rfl]
      rw [dv_lit _ _ _ rfl, Option.map_some, resV_s]
      try simp only [W, EE]
      refine seq_n hK11 ?_
      refine w_seq fun K12 hK12 => ?_
      refine w_reg gC ?_
      try simp only [W, EE, Nat.reduceAdd, Nat.reduceBEq, hS.var 1 rfl]
      refine w_stv (a := .int .i64 (IntKind.i64.wrap (a0.Mean + (IntKind.i64.wrap (a1.Took - (IntKind.i64.wrap (Int.tdiv a0.Mean 8))))))) (y' := .agg [.int .i64 (IntKind.i64.wrap (a0.Mean + (IntKind.i64.wrap (a1.Took - (IntKind.i64.wrap (Int.tdiv a0.Mean 8)))))), .int .i64 a0.Swing, .int .i64 (if 1000 < (IntKind.i64.wrap (a0.Many + 1)) then 1000 else (IntKind.i64.wrap (a0.Many + 1))), .int .i64 0]) 1 hS rfl rfl rfl rfl rfl rfl rfl rfl fun H hS => ?_
      try simp only [W]
      refine seq_n hK12 ?_
      refine w_drawL gC [(17, [])] (by kernel_rfl) rfl (by kernel_rfl) ?_
      try simp only [W, EE, reduceIte, Nat.reduceAdd, Nat.reduceBEq, hS.var 1 rfl, tabAt, qAt, Nat.reduceEqDiff]
      rw [dv_lit _ _ _ rfl, Option.map_some, resV_s]
      try simp only [W, EE, Nat.reduceAdd, Nat.reduceBEq, hS.var 1 rfl]
      refine w_stv (a := .int .i64 (IntKind.i64.wrap (a0.Swing + (IntKind.i64.wrap ((if (IntKind.i64.wrap (0 - (IntKind.i64.wrap (a1.Took - (IntKind.i64.wrap (Int.tdiv a0.Mean 8)))))) > (IntKind.i64.wrap (a1.Took - (IntKind.i64.wrap (Int.tdiv a0.Mean 8)))) then (IntKind.i64.wrap (0 - (IntKind.i64.wrap (a1.Took - (IntKind.i64.wrap (Int.tdiv a0.Mean 8)))))) else (IntKind.i64.wrap (a1.Took - (IntKind.i64.wrap (Int.tdiv a0.Mean 8))))) - (IntKind.i64.wrap (Int.tdiv a0.Swing 4))))))) (y' := .agg [.int .i64 (IntKind.i64.wrap (a0.Mean + (IntKind.i64.wrap (a1.Took - (IntKind.i64.wrap (Int.tdiv a0.Mean 8)))))), .int .i64 (IntKind.i64.wrap (a0.Swing + (IntKind.i64.wrap ((if (IntKind.i64.wrap (0 - (IntKind.i64.wrap (a1.Took - (IntKind.i64.wrap (Int.tdiv a0.Mean 8)))))) > (IntKind.i64.wrap (a1.Took - (IntKind.i64.wrap (Int.tdiv a0.Mean 8)))) then (IntKind.i64.wrap (0 - (IntKind.i64.wrap (a1.Took - (IntKind.i64.wrap (Int.tdiv a0.Mean 8)))))) else (IntKind.i64.wrap (a1.Took - (IntKind.i64.wrap (Int.tdiv a0.Mean 8))))) - (IntKind.i64.wrap (Int.tdiv a0.Swing 4)))))), .int .i64 (if 1000 < (IntKind.i64.wrap (a0.Many + 1)) then 1000 else (IntKind.i64.wrap (a0.Many + 1))), .int .i64 0]) 1 hS rfl rfl rfl rfl rfl rfl rfl rfl fun H hS => ?_
      try simp only [W]
      refine fin_n0 hK0 ?_
      try obtain rfl := Option.some.inj h
      exact hP _ (hS.sel 2 [1] (by decide))
theorem impl_SeeAll_w {a0 : Int} {a1 : List Seen} {r : (Guess × Bool)} (h : impl_SeeAll a0 a1 = some r) {F : List It} {H : Heap} (hS : Own H (F)) {P : AV → Heap → Prop} (hP : ∀ H', Own H' (F) → P (.tup [.agg [.int .i64 r.1.Mean, .int .i64 r.1.Swing, .int .i64 r.1.Many, .int .i64 r.1.Back], .bool r.2]) H') : ACall C 58 [.int .i64 a0, .fz (a1.map e_Seen)] H P := by
  refine acall_of gC (res := [.cell 4 74, .tmp 5]) (n := 33) rfl rfl rfl rfl fun K0 hK0 => ?_
  simp only [W, Nat.reduceSub, Nat.reduceAdd, List.replicate]
  unfold impl_SeeAll at h
  refine w_seq fun K1 hK1 => ?_
  refine w_reg gC ?_
  try simp only [W, Nat.reduceAdd]
  refine w_alloc hS rfl rfl fun ip2 wp2 H hS => ?_
  try simp only [W]
  refine seq_n hK1 ?_
  refine w_seq fun K4 hK4 => ?_
  refine w_reg gC ?_
  try simp only [W, Nat.reduceAdd]
  refine w_call h fun b5 hb5 h => ?_
  obtain ⟨b6, b7⟩ := b5
  try dsimp only at h
  refine impl_NewGuess_w hb5 hS fun H hS => ?_
  try simp only [W]
  refine w_alloc hS rfl rfl fun ip8 wp8 H hS => ?_
  try simp only [W]
  refine w_stv (a := .agg [.int .i64 b6.Mean, .int .i64 b6.Swing, .int .i64 b6.Many, .int .i64 b6.Back]) (y' := .agg [.int .i64 b6.Mean, .int .i64 b6.Swing, .int .i64 b6.Many, .int .i64 b6.Back]) 0 hS rfl rfl rfl rfl rfl rfl rfl rfl fun H hS => ?_
  try simp only [W]
  refine seq_n hK4 ?_
  refine w_seq fun K10 hK10 => ?_
  refine w_seq fun K11 hK11 => ?_
  obtain ⟨y13, h, g14⟩ := Option.bind_eq_some_iff.1 h
  refine w_join gC (fun s H => ∃ x12 : Bool, y13 = (x12) ∧ s = [u, .fz (a1.map e_Seen), u, u, .ptr ip2 wp2 0 0, u, .ptr ip8 wp8 0 0, u, u, u, u, u, u, u, u, u, u, u, u, u, u, .bool x12, u, u, u, u, u, u, u, u, u, u, u] ∧ Own H (⟨.ptr ip2 wp2 0 0, 4, [.agg [.int .i64 0, .int .i64 0, .int .i64 0, .int .i64 0]]⟩ :: ⟨.ptr ip8 wp8 0 0, 4, [.agg [.int .i64 b6.Mean, .int .i64 b6.Swing, .int .i64 b6.Many, .int .i64 b6.Back]]⟩ :: F)) (fun K15 hK15 => ?_) (fun s H hq => ?_)
  · refine w_seq fun K16 hK16 => ?_
    refine w_reg gC ?_
    try simp only [W, Nat.reduceAdd]
    refine w_grdT h (fun hc h => ?_) (fun hc h => ?_)
    · try simp only [W, hc]
      refine seq_n hK16 ?_
      refine w_kill ?_
      exact cut_n hK15 ⟨_, (Option.some.inj h).symm, rfl, (hS.sel 2 [1, 0] (by decide))⟩
    · try simp only [W, hc]
      refine w_call h fun b17 hb17 h => ?_
      refine impl_areSeen_w hb17 hS fun H hS => ?_
      try simp only [W, reduceIte, Bool.false_eq_true]
      refine seq_n hK16 ?_
      refine w_kill ?_
      exact cut_n hK15 ⟨_, (Option.some.inj h).symm, rfl, (hS.sel 2 [1, 0] (by decide))⟩
  · obtain ⟨x12, ey, rfl, hS⟩ := hq; obtain rfl := ey.symm
    replace h := g14
    try dsimp only at h
    refine seq_n hK11 ?_
    refine w_if ?_
    simp only [W]
    refine w_cnd h (fun hc h => ?_) (fun hc h => ?_)
    · refine w_seq fun K18 hK18 => ?_
      refine w_reg gC ?_
      try simp only [W, EE, Nat.reduceAdd]
      refine w_bld rfl rfl rfl rfl rfl ?_
      try simp only [W]
      refine w_stv (a := .agg [.int .i64 0, .int .i64 0, .int .i64 0, .int .i64 0]) (y' := .agg [.int .i64 0, .int .i64 0, .int .i64 0, .int .i64 0]) 0 hS rfl rfl rfl rfl rfl rfl rfl rfl fun H hS => ?_
      try simp only [W]
      refine seq_n hK18 ?_
      refine w_ret ?_
      refine seq_r hK10 ?_
      refine fin_r hK0 (res_c rfl rfl (hS.var 0 rfl) rfl (res_tc rfl rfl)) ?_
      try obtain rfl := Option.some.inj h
      exact hP _ (hS.sel 2 [] (by decide))
    · refine w_skip ?_
      refine seq_n hK10 ?_
      refine w_seq fun K19 hK19 => ?_
      refine w_seq fun K20 hK20 => ?_
      refine w_reg gC ?_
      try simp only [W, EE, Nat.reduceAdd]
      refine seq_n hK20 ?_
      obtain ⟨y30, hw31, g37⟩ := Option.bind_eq_some_iff.1 h
      refine w_join gC (fun s H => ∃ x26 : Int, ∃ x27 : Int, ∃ x28 : Int, ∃ x29 : Int, y30 = (x26, x27, x28, x29) ∧ s = [u, u, u, u, .ptr ip2 wp2 0 0, u, .ptr ip8 wp8 0 0, u, u, u, u, u, u, u, u, u, u, u, u, u, u, u, u, u, u, u, u, u, u, u, u, u, u] ∧ Own H (⟨.ptr ip2 wp2 0 0, 4, [.agg [.int .i64 0, .int .i64 0, .int .i64 0, .int .i64 0]]⟩ :: ⟨.ptr ip8 wp8 0 0, 4, [.agg [.int .i64 x26, .int .i64 x27, .int .i64 x28, .int .i64 x29]]⟩ :: F)) (fun K32 hK32 => ?_) (fun s H hq => ?_)
      · refine w_blk fun K33 hK33 => ?_
        refine w_loop gC hw31 (fun x s H => match x with | (x21, x22, x23, x24, x25) => s = [u, u, u, u, .ptr ip2 wp2 0 0, u, .ptr ip8 wp8 0 0, u, u, u, u, u, u, u, u, u, u, u, u, u, u, u, u, .fz (a1.map e_Seen), .int .i64 (a1.length : Int), .int .i64 x21, u, u, u, u, u, u, u] ∧ Own H (⟨.ptr ip2 wp2 0 0, 4, [.agg [.int .i64 0, .int .i64 0, .int .i64 0, .int .i64 0]]⟩ :: ⟨.ptr ip8 wp8 0 0, 4, [.agg [.int .i64 x22, .int .i64 x23, .int .i64 x24, .int .i64 x25]]⟩ :: F)) ⟨rfl, hS⟩ (fun x y36 s H h hd35 hi K34 hK34 => ?_)
        obtain ⟨x21, x22, x23, x24, x25⟩ := x
        try dsimp only at hi
        obtain ⟨rfl, hS⟩ := hi
        simp only [impl_SeeAll_l0] at h
        refine w_seq fun K38 hK38 => ?_
        refine w_reg gC ?_
        try simp only [W, EE, Nat.reduceAdd]
        refine seq_n hK38 ?_
        refine w_seq fun K39 hK39 => ?_
        refine w_if ?_
        simp only [W]
        refine w_cnd h (fun hc h => ?_) (fun hc h => ?_)
        · refine w_skip ?_
          refine seq_n hK39 ?_
          refine w_seq fun K40 hK40 => ?_
          refine w_blk fun K41 hK41 => ?_
          refine w_seq fun K42 hK42 => ?_
          refine w_reg gC ?_
          try simp only [W, EE, Nat.reduceAdd]
          refine w_fz rfl rfl rfl (fun _ => rfl) h fun b43 hb43 h => ?_
          try simp only [W, EE, EN, reduceIte, Nat.reduceAdd, Nat.reduceLeDiff]
          refine w_alloc hS rfl rfl fun ip44 wp44 H hS => ?_
          try simp only [W]
          refine w_stv (a := .agg [.int .i64 b43.Took, .bool b43.Twice, .bool b43.Lost]) (y' := .agg [.int .i64 b43.Took, .bool b43.Twice, .bool b43.Lost]) 0 hS rfl rfl rfl rfl rfl rfl rfl rfl fun H hS => ?_
          try simp only [W]
          refine seq_n hK42 ?_
          refine w_reg gC ?_
          try simp only [W, EE, reduceIte, Nat.reduceAdd, Nat.reduceLeDiff, hS.var 0 rfl]
          refine w_call h fun b46 hb46 h => ?_
          refine impl_Guess_see_w hb46 (hS.sel 3 [2, 0, 1] (by decide)) fun H hS => ?_
          try simp only [W]
          refine blk_n0 hK41 ?_
          refine seq_n hK40 ?_
          refine w_reg gC ?_
          try simp only [W, EE, Nat.reduceAdd]
          exact lp_n hK34 h ⟨rfl, (hS.sel 3 [2, 0] (by decide))⟩
        · refine w_exit ?_
          refine seq_x hK39 ?_
          try obtain rfl := Option.some.inj h
          obtain rfl := hd35 _ rfl
          have h : (some (x22, x23, x24, x25) : Option (Int × Int × Int × Int)) = some (x22, x23, x24, x25) := rfl
          refine lp_x hK34 ?_
          refine blk_e hK33 ?_
          exact cut_n hK32 ⟨_, _, _, _, (Option.some.inj h).symm, rfl, hS⟩
      · obtain ⟨x26, x27, x28, x29, rfl, rfl, hS⟩ := hq
        replace h := g37
        try dsimp only at h
        refine seq_n hK19 ?_
        refine w_seq fun K49 hK49 => ?_
        refine w_reg gC ?_
        try simp only [W, EE, reduceIte, Nat.reduceAdd, Nat.reduceLeDiff, hS.var 1 rfl]
        refine w_stv (a := .agg [.int .i64 x26, .int .i64 x27, .int .i64 x28, .int .i64 x29]) (y' := .agg [.int .i64 x26, .int .i64 x27, .int .i64 x28, .int .i64 x29]) 0 hS rfl rfl rfl rfl rfl rfl rfl rfl fun H hS => ?_
        try simp only [W]
        refine seq_n hK49 ?_
        refine w_ret ?_
        refine fin_r hK0 (res_c rfl rfl (hS.var 0 rfl) rfl (res_tc rfl rfl)) ?_
        try obtain rfl := Option.some.inj h
        exact hP _ (hS.sel 2 [] (by decide))
theorem spec_l1In_w {a0 : Int} {a1 : Int} {a2 : Int} {r : (Bool)} (h : spec_l1In a0 a1 a2 = some r) {F : List It} {H : Heap} (hS : Own H (F)) {P : AV → Heap → Prop} (hP : ∀ H', Own H' (F) → P (.bool r) H') : ACall C 86 [.int .i64 a0, .int .i64 a1, .int .i64 a2] H P := by
  refine acall_of gC (res := [.tmp 6]) (n := 15) rfl rfl rfl rfl fun K0 hK0 => ?_
  simp only [W, Nat.reduceSub, Nat.reduceAdd, List.replicate]
  unfold spec_l1In at h
  refine w_seq fun K1 hK1 => ?_
  refine w_reg gC ?_
  try simp only [W, Nat.reduceAdd]
  refine seq_n hK1 ?_
  refine w_seq fun K2 hK2 => ?_
  refine w_reg gC ?_
  try simp only [W, EE, Nat.reduceAdd]
  refine w_grdT h (fun hc h => ?_) (fun hc h => ?_)
  · try simp only [W, EE, reduceIte, hc]
    refine seq_n hK2 ?_
    refine w_ret ?_
    refine fin_r1 hK0 rfl ?_
    try obtain rfl := Option.some.inj h
    exact hP _ hS
  · try simp only [W, hc]
    refine seq_n hK2 ?_
    refine w_ret ?_
    refine fin_r1 hK0 rfl ?_
    try obtain rfl := Option.some.inj h
    exact hP _ hS
theorem spec_NewGuess_w {a0 : Int} {r : (Guess × Bool)} (h : spec_NewGuess a0 = some r) {F : List It} {H : Heap} (hS : Own H (F)) {P : AV → Heap → Prop} (hP : ∀ H', Own H' (F) → P (.tup [.agg [.int .i64 r.1.Mean, .int .i64 r.1.Swing, .int .i64 r.1.Many, .int .i64 r.1.Back], .bool r.2]) H') : ACall C 56 [.int .i64 a0] H P := by
  refine acall_of gC (res := [.cell 2 74, .tmp 3]) (n := 13) rfl rfl rfl rfl fun K0 hK0 => ?_
  simp only [W, Nat.reduceSub, Nat.reduceAdd, List.replicate]
  unfold spec_NewGuess at h
  refine w_seq fun K1 hK1 => ?_
  refine w_reg gC ?_
  try simp only [W, Nat.reduceAdd]
  refine w_alloc hS rfl rfl fun ip2 wp2 H hS => ?_
  try simp only [W]
  refine seq_n hK1 ?_
  refine w_seq fun K4 hK4 => ?_
  refine w_seq fun K5 hK5 => ?_
  refine w_reg gC ?_
  try simp only [W, Nat.reduceAdd]
  refine w_call h fun b6 hb6 h => ?_
  refine spec_l1In_w hb6 hS fun H hS => ?_
  try simp only [W]
  refine seq_n hK5 ?_
  refine w_if ?_
  simp only [W]
  refine w_cnd h (fun hc h => ?_) (fun hc h => ?_)
  · refine w_seq fun K7 hK7 => ?_
    refine w_reg gC ?_
    try simp only [W, EE, Nat.reduceAdd]
    refine w_bld rfl rfl rfl rfl rfl ?_
    try simp only [W]
    refine w_stv (a := .agg [.int .i64 0, .int .i64 0, .int .i64 0, .int .i64 0]) (y' := .agg [.int .i64 0, .int .i64 0, .int .i64 0, .int .i64 0]) 0 hS rfl rfl rfl rfl rfl rfl rfl rfl fun H hS => ?_
    try simp only [W]
    refine seq_n hK7 ?_
    refine w_ret ?_
    refine seq_r hK4 ?_
    refine fin_r hK0 (res_c rfl rfl (hS.var 0 rfl) rfl (res_tc rfl rfl)) ?_
    try obtain rfl := Option.some.inj h
    exact hP _ (hS.sel 1 [] (by decide))
  · refine w_skip ?_
    refine seq_n hK4 ?_
    refine w_seq fun K8 hK8 => ?_
    refine w_reg gC ?_
    try simp only [W, EE, Nat.reduceAdd]
    refine w_bld rfl rfl rfl rfl rfl ?_
    try simp only [W]
    refine w_stv (a := .agg [.int .i64 (IntKind.i64.wrap (8 * a0)), .int .i64 (IntKind.i64.wrap (2 * a0)), .int .i64 1, .int .i64 0]) (y' := .agg [.int .i64 (IntKind.i64.wrap (8 * a0)), .int .i64 (IntKind.i64.wrap (2 * a0)), .int .i64 1, .int .i64 0]) 0 hS rfl rfl rfl rfl rfl rfl rfl rfl fun H hS => ?_
    try simp only [W]
    refine seq_n hK8 ?_
    refine w_ret ?_
    refine fin_r hK0 (res_c rfl rfl (hS.var 0 rfl) rfl (res_tc rfl rfl)) ?_
    try obtain rfl := Option.some.inj h
    exact hP _ (hS.sel 1 [] (by decide))
theorem spec_l9Seen_w {a0 : Seen} {r : (Bool)} (h : spec_l9Seen a0 = some r) {F : List It} {H : Heap} (hS : Own H (F)) {P : AV → Heap → Prop} (hP : ∀ H', Own H' (F) → P (.bool r) H') : ACall C 131 [.agg [.int .i64 a0.Took, .bool a0.Twice, .bool a0.Lost]] H P := by
  refine acall_of gC (res := [.tmp 2]) (n := 21) rfl rfl rfl rfl fun K0 hK0 => ?_
  simp only [W, Nat.reduceSub, Nat.reduceAdd, List.replicate]
  unfold spec_l9Seen at h
  refine w_seq fun K1 hK1 => ?_
  refine w_reg gC ?_
  try simp only [W, Nat.reduceAdd]
  refine w_box hS rfl rfl rfl rfl fun ip2 wp2 H hS => ?_
  try simp only [W]
  refine seq_n hK1 ?_
  refine w_seq fun K4 hK4 => ?_
  refine w_reg gC ?_
  try simp only [W, EE, Nat.reduceAdd, Nat.reduceBEq, hS.var 0 rfl]
  refine w_call h fun b5 hb5 h => ?_
  refine spec_l1In_w hb5 hS fun H hS => ?_
  try simp only [W]
  refine w_grdT h (fun hc h => ?_) (fun hc h => ?_)
  · try simp only [W, EE, Nat.reduceAdd, Nat.reduceBEq, hS.var 0 rfl, hc]
    refine w_grdT h (fun hc h => ?_) (fun hc h => ?_)
    · try simp only [W, reduceIte, hc]
      refine seq_n hK4 ?_
      refine w_ret ?_
      refine fin_r1 hK0 rfl ?_
      try obtain rfl := Option.some.inj h
      exact hP _ (hS.sel 1 [] (by decide))
    · try simp only [W, EE, Nat.reduceAdd, Nat.reduceBEq, hS.var 0 rfl, hc]
      refine w_grdT h (fun hc h => ?_) (fun hc h => ?_)
      · try simp only [W, EE, reduceIte, Nat.reduceAdd, Nat.reduceBEq, Bool.false_eq_true, hS.var 0 rfl, hc]
        refine seq_n hK4 ?_
        refine w_ret ?_
        refine fin_r1 hK0 rfl ?_
        try obtain rfl := Option.some.inj h
        exact hP _ (hS.sel 1 [] (by decide))
      · try simp only [W, reduceIte, Bool.false_eq_true, hc]
        refine seq_n hK4 ?_
        refine w_ret ?_
        refine fin_r1 hK0 rfl ?_
        try obtain rfl := Option.some.inj h
        exact hP _ (hS.sel 1 [] (by decide))
  · try simp only [W, hc]
    refine seq_n hK4 ?_
    refine w_ret ?_
    refine fin_r1 hK0 rfl ?_
    try obtain rfl := Option.some.inj h
    exact hP _ (hS.sel 1 [] (by decide))
theorem spec_l1Least_w {a0 : Int} {a1 : Int} {r : (Int)} (h : spec_l1Least a0 a1 = some r) {F : List It} {H : Heap} (hS : Own H (F)) {P : AV → Heap → Prop} (hP : ∀ H', Own H' (F) → P (.int .i64 r) H') : ACall C 181 [.int .i64 a0, .int .i64 a1] H P := by
  refine acall_of gC (res := [.tmp 4]) (n := 10) rfl rfl rfl rfl fun K0 hK0 => ?_
  simp only [W, Nat.reduceSub, Nat.reduceAdd, List.replicate]
  unfold spec_l1Least at h
  refine w_seq fun K1 hK1 => ?_
  refine w_reg gC ?_
  try simp only [W, Nat.reduceAdd]
  refine seq_n hK1 ?_
  refine w_seq fun K2 hK2 => ?_
  refine w_seq fun K3 hK3 => ?_
  refine w_reg gC ?_
  try simp only [W, EE, Nat.reduceAdd]
  refine seq_n hK3 ?_
  refine w_if ?_
  simp only [W]
  refine w_cnd h (fun hc h => ?_) (fun hc h => ?_)
  · refine w_seq fun K4 hK4 => ?_
    refine w_reg gC ?_
    try simp only [W, Nat.reduceAdd]
    refine seq_n hK4 ?_
    refine w_ret ?_
    refine seq_r hK2 ?_
    refine fin_r1 hK0 rfl ?_
    try obtain rfl := Option.some.inj h
    exact hP _ hS
  · refine w_skip ?_
    refine seq_n hK2 ?_
    refine w_seq fun K5 hK5 => ?_
    refine w_reg gC ?_
    try simp only [W, Nat.reduceAdd]
    refine seq_n hK5 ?_
    refine w_ret ?_
    refine fin_r1 hK0 rfl ?_
    try obtain rfl := Option.some.inj h
    exact hP _ hS
theorem spec_l9See_w {a0 : Guess} {a1 : Seen} {r : (Guess)} (h : spec_l9See a0 a1 = some r) {F : List It} {H : Heap} (hS : Own H (F)) {P : AV → Heap → Prop} (hP : ∀ H', Own H' (F) → P (.agg [.int .i64 r.Mean, .int .i64 r.Swing, .int .i64 r.Many, .int .i64 r.Back]) H') : ACall C 132 [.agg [.int .i64 a0.Mean, .int .i64 a0.Swing, .int .i64 a0.Many, .int .i64 a0.Back], .agg [.int .i64 a1.Took, .bool a1.Twice, .bool a1.Lost]] H P := by
  refine acall_of gC (res := [.cell 4 74]) (n := 48) rfl rfl rfl rfl fun K0 hK0 => ?_
  simp only [W, Nat.reduceSub, Nat.reduceAdd, List.replicate]
  unfold spec_l9See at h
  refine w_seq fun K1 hK1 => ?_
  refine w_reg gC ?_
  try simp only [W, Nat.reduceAdd]
  refine w_box hS rfl rfl rfl rfl fun ip2 wp2 H hS => ?_
  try simp only [W]
  refine w_box hS rfl rfl rfl rfl fun ip4 wp4 H hS => ?_
  try simp only [W]
  refine w_alloc hS rfl rfl fun ip6 wp6 H hS => ?_
  try simp only [W]
  refine seq_n hK1 ?_
  refine w_seq fun K8 hK8 => ?_
  refine w_seq fun K9 hK9 => ?_
  refine w_reg gC ?_
  try simp only [W, EE, Nat.reduceAdd, Nat.reduceBEq, hS.var 1 rfl]
  refine seq_n hK9 ?_
  refine w_if ?_
  simp only [W]
  refine w_cnd h (fun hc h => ?_) (fun hc h => ?_)
  · refine w_seq fun K10 hK10 => ?_
    refine w_reg gC ?_
    try simp only [W, EE, Nat.reduceAdd, Nat.reduceBEq, hS.var 2 rfl]
    refine w_call h fun b11 hb11 h => ?_
    refine spec_l1Least_w hb11 hS fun H hS => ?_
    try simp only [W, EE, Nat.reduceAdd, Nat.reduceBEq, hS.var 2 rfl]
    refine w_stv (a := .int .i64 b11) (y' := .agg [.int .i64 a0.Mean, .int .i64 a0.Swing, .int .i64 a0.Many, .int .i64 b11]) 2 hS rfl rfl rfl rfl rfl rfl rfl rfl fun H hS => ?_
    try simp only [W]
    refine seq_n hK10 ?_
    refine w_seq fun K12 hK12 => ?_
    refine w_reg gC ?_
    try simp only [W, EE, reduceIte, Nat.reduceAdd, Nat.reduceLeDiff, hS.var 2 rfl]
    refine w_stv (a := .agg [.int .i64 a0.Mean, .int .i64 a0.Swing, .int .i64 a0.Many, .int .i64 b11]) (y' := .agg [.int .i64 a0.Mean, .int .i64 a0.Swing, .int .i64 a0.Many, .int .i64 b11]) 0 hS rfl rfl rfl rfl rfl rfl rfl rfl fun H hS => ?_
    try simp only [W]
    refine seq_n hK12 ?_
    refine w_ret ?_
    refine seq_r hK8 ?_
    refine fin_r hK0 (res_c rfl rfl (hS.var 0 rfl) rfl rfl) ?_
    try obtain rfl := Option.some.inj h
    exact hP _ (hS.sel 3 [] (by decide))
  · refine w_skip ?_
    refine seq_n hK8 ?_
    refine w_seq fun K13 hK13 => ?_
    refine w_reg gC ?_
    try simp only [W, EE, Nat.reduceAdd, Nat.reduceBEq, hS.var 2 rfl]
    refine w_call h fun b14 hb14 h => ?_
    refine spec_l1Least_w hb14 hS fun H hS => ?_
    try simp only [W, EE, Nat.reduceAdd, Nat.reduceBEq, hS.var 2 rfl]
    refine w_stv (a := .int .i64 b14) (y' := .agg [.int .i64 a0.Mean, .int .i64 a0.Swing, .int .i64 b14, .int .i64 a0.Back]) 2 hS rfl rfl rfl rfl rfl rfl rfl rfl fun H hS => ?_
    try simp only [W]
    refine seq_n hK13 ?_
    refine w_seq fun K15 hK15 => ?_
    refine w_seq fun K16 hK16 => ?_
    refine w_reg gC ?_
    try simp only [W, EE, Nat.reduceAdd, Nat.reduceBEq, hS.var 1 rfl]
    refine seq_n hK16 ?_
    refine w_if ?_
    simp only [W]
    refine w_cnd h (fun hc h => ?_) (fun hc h => ?_)
    · refine w_seq fun K17 hK17 => ?_
      refine w_reg gC ?_
      try simp only [W, EE, reduceIte, Nat.reduceAdd, Nat.reduceLeDiff, hS.var 2 rfl]
      refine w_stv (a := .agg [.int .i64 a0.Mean, .int .i64 a0.Swing, .int .i64 b14, .int .i64 a0.Back]) (y' := .agg [.int .i64 a0.Mean, .int .i64 a0.Swing, .int .i64 b14, .int .i64 a0.Back]) 0 hS rfl rfl rfl rfl rfl rfl rfl rfl fun H hS => ?_
      try simp only [W]
      refine seq_n hK17 ?_
      refine w_ret ?_
      refine seq_r hK15 ?_
      refine fin_r hK0 (res_c rfl rfl (hS.var 0 rfl) rfl rfl) ?_
      try obtain rfl := Option.some.inj h
      exact hP _ (hS.sel 3 [] (by decide))
    · refine w_skip ?_
      refine seq_n hK15 ?_
      refine w_seq fun K18 hK18 => ?_
      refine w_reg gC ?_
      try simp only [W, EE, Nat.reduceAdd, Nat.reduceBEq, hS.var 2 rfl]
      refine w_stv (a := .int .i64 0) (y' := .agg [.int .i64 a0.Mean, .int .i64 a0.Swing, .int .i64 b14, .int .i64 0]) 2 hS rfl rfl rfl rfl rfl rfl rfl rfl fun H hS => ?_
      try simp only [W]
      refine seq_n hK18 ?_
      refine w_seq fun K19 hK19 => ?_
      refine w_reg gC ?_
      try simp only [W, EE, Nat.reduceAdd, Nat.reduceBEq, hS.var 2 rfl, hS.var 1 rfl]
      rw [dv_lit _ _ _ rfl, Option.map_some, resV_s]
      try simp only [W, EE]
      refine seq_n hK19 ?_
      refine w_seq fun K20 hK20 => ?_
      refine w_reg gC ?_
      try simp only [W, EE, Nat.reduceAdd, Nat.reduceBEq, hS.var 2 rfl]
      refine w_stv (a := .int .i64 (IntKind.i64.wrap (a0.Mean + (IntKind.i64.wrap (a1.Took - (IntKind.i64.wrap (Int.tdiv a0.Mean 8))))))) (y' := .agg [.int .i64 (IntKind.i64.wrap (a0.Mean + (IntKind.i64.wrap (a1.Took - (IntKind.i64.wrap (Int.tdiv a0.Mean 8)))))), .int .i64 a0.Swing, .int .i64 b14, .int .i64 0]) 2 hS rfl rfl rfl rfl rfl rfl rfl rfl fun H hS => ?_
      try simp only [W]
      refine seq_n hK20 ?_
      refine w_seq fun K21 hK21 => ?_
      refine w_seq fun K22 hK22 => ?_
      refine w_reg gC ?_
      try simp only [W, EE, Nat.reduceAdd]
      refine seq_n hK22 ?_
      obtain ⟨y24, h, g25⟩ := Option.bind_eq_some_iff.1 h
      refine w_join gC (fun s H => ∃ x23 : Int, y24 = (x23) ∧ s = [u, u, .ptr ip2 wp2 0 0, u, .ptr ip6 wp6 0 0, .int .i64 x23, u, u, u, u, u, u, u, u, u, u, u, u, u, u, u, u, u, u, u, u, u, u, u, u, u, u, u, u, u, u, u, u, u, u, u, u, u, u, u, u, u, u] ∧ Own H (⟨.ptr ip2 wp2 0 0, 4, [.agg [.int .i64 (IntKind.i64.wrap (a0.Mean + (IntKind.i64.wrap (a1.Took - (IntKind.i64.wrap (Int.tdiv a0.Mean 8)))))), .int .i64 a0.Swing, .int .i64 b14, .int .i64 0]]⟩ :: ⟨.ptr ip6 wp6 0 0, 4, [.agg [.int .i64 0, .int .i64 0, .int .i64 0, .int .i64 0]]⟩ :: F)) (fun K26 hK26 => ?_) (fun s H hq => ?_)
      · refine w_seq fun K27 hK27 => ?_
        refine w_if ?_
        simp only [W]
        refine w_cnd h (fun hc h => ?_) (fun hc h => ?_)
        · refine w_reg gC ?_
          try simp only [W, Nat.reduceAdd]
          refine seq_n hK27 ?_
          refine w_kill ?_
          exact cut_n hK26 ⟨_, (Option.some.inj h).symm, rfl, (hS.sel 3 [2, 0] (by decide))⟩
        · refine w_skip ?_
          refine seq_n hK27 ?_
          refine w_kill ?_
          exact cut_n hK26 ⟨_, (Option.some.inj h).symm, rfl, (hS.sel 3 [2, 0] (by decide))⟩
      · obtain ⟨x23, ey, rfl, hS⟩ := hq; obtain rfl := ey.symm
        replace h := g25
        try dsimp only at h
        refine seq_n hK21 ?_
        refine w_seq fun K28 hK28 => ?_
        refine w_reg gC ?_
        try simp only [W, EE, Nat.reduceAdd, Nat.reduceBEq, hS.var 0 rfl]
        rw [dv_lit _ _ _ rfl, Option.map_some, resV_s]
        try simp only [W, EE, Nat.reduceAdd, Nat.reduceBEq, hS.var 0 rfl]
        refine w_stv (a := .int .i64 (IntKind.i64.wrap (a0.Swing + (IntKind.i64.wrap (x23 - (IntKind.i64.wrap (Int.tdiv a0.Swing 4))))))) (y' := .agg [.int .i64 (IntKind.i64.wrap (a0.Mean + (IntKind.i64.wrap (a1.Took - (IntKind.i64.wrap (Int.tdiv a0.Mean 8)))))), .int .i64 (IntKind.i64.wrap (a0.Swing + (IntKind.i64.wrap (x23 - (IntKind.i64.wrap (Int.tdiv a0.Swing 4)))))), .int .i64 b14, .int .i64 0]) 0 hS rfl rfl rfl rfl rfl rfl rfl rfl fun H hS => ?_
        try simp only [W]
        refine seq_n hK28 ?_
        refine w_seq fun K29 hK29 => ?_
        refine w_reg gC ?_
        try simp only [W, EE, reduceIte, Nat.reduceAdd, Nat.reduceLeDiff, hS.var 0 rfl]
        refine w_stv (a := .agg [.int .i64 (IntKind.i64.wrap (a0.Mean + (IntKind.i64.wrap (a1.Took - (IntKind.i64.wrap (Int.tdiv a0.Mean 8)))))), .int .i64 (IntKind.i64.wrap (a0.Swing + (IntKind.i64.wrap (x23 - (IntKind.i64.wrap (Int.tdiv a0.Swing 4)))))), .int .i64 b14, .int .i64 0]) (y' := .agg [.int .i64 (IntKind.i64.wrap (a0.Mean + (IntKind.i64.wrap (a1.Took - (IntKind.i64.wrap (Int.tdiv a0.Mean 8)))))), .int .i64 (IntKind.i64.wrap (a0.Swing + (IntKind.i64.wrap (x23 - (IntKind.i64.wrap (Int.tdiv a0.Swing 4)))))), .int .i64 b14, .int .i64 0]) 1 hS rfl rfl rfl rfl rfl rfl rfl rfl fun H hS => ?_
        try simp only [W]
        refine seq_n hK29 ?_
        refine w_ret ?_
        refine fin_r hK0 (res_c rfl rfl (hS.var 1 rfl) rfl rfl) ?_
        try obtain rfl := Option.some.inj h
        exact hP _ (hS.sel 2 [] (by decide))
theorem spec_SeeAll_w {a0 : Int} {a1 : List Seen} {r : (Guess × Bool)} (h : spec_SeeAll a0 a1 = some r) {F : List It} {H : Heap} (hS : Own H (F)) {P : AV → Heap → Prop} (hP : ∀ H', Own H' (F) → P (.tup [.agg [.int .i64 r.1.Mean, .int .i64 r.1.Swing, .int .i64 r.1.Many, .int .i64 r.1.Back], .bool r.2]) H') : ACall C 59 [.int .i64 a0, .fz (a1.map e_Seen)] H P := by
  refine acall_of gC (res := [.cell 4 74, .tmp 5]) (n := 38) rfl rfl rfl rfl fun K0 hK0 => ?_
  simp only [W, Nat.reduceSub, Nat.reduceAdd, List.replicate]
  unfold spec_SeeAll at h
  refine w_seq fun K1 hK1 => ?_
  refine w_reg gC ?_
  try simp only [W, Nat.reduceAdd]
  refine w_alloc hS rfl rfl fun ip2 wp2 H hS => ?_
  try simp only [W]
  refine seq_n hK1 ?_
  refine w_seq fun K4 hK4 => ?_
  refine w_reg gC ?_
  try simp only [W, Nat.reduceAdd]
  refine w_call h fun b5 hb5 h => ?_
  obtain ⟨b6, b7⟩ := b5
  try dsimp only at h
  refine spec_NewGuess_w hb5 hS fun H hS => ?_
  try simp only [W]
  refine w_alloc hS rfl rfl fun ip8 wp8 H hS => ?_
  try simp only [W]
  refine w_stv (a := .agg [.int .i64 b6.Mean, .int .i64 b6.Swing, .int .i64 b6.Many, .int .i64 b6.Back]) (y' := .agg [.int .i64 b6.Mean, .int .i64 b6.Swing, .int .i64 b6.Many, .int .i64 b6.Back]) 0 hS rfl rfl rfl rfl rfl rfl rfl rfl fun H hS => ?_
  try simp only [W]
  refine seq_n hK4 ?_
  refine w_seq fun K10 hK10 => ?_
  refine w_seq fun K11 hK11 => ?_
  obtain ⟨y13, h, g14⟩ := Option.bind_eq_some_iff.1 h
  refine w_join gC (fun s H => ∃ x12 : Bool, y13 = (x12) ∧ s = [u, .fz (a1.map e_Seen), u, u, .ptr ip2 wp2 0 0, u, .ptr ip8 wp8 0 0, u, u, u, u, u, u, u, u, u, u, u, u, u, u, .bool x12, u, u, u, u, u, u, u, u, u, u, u, u, u, u, u, u] ∧ Own H (⟨.ptr ip2 wp2 0 0, 4, [.agg [.int .i64 0, .int .i64 0, .int .i64 0, .int .i64 0]]⟩ :: ⟨.ptr ip8 wp8 0 0, 4, [.agg [.int .i64 b6.Mean, .int .i64 b6.Swing, .int .i64 b6.Many, .int .i64 b6.Back]]⟩ :: F)) (fun K15 hK15 => ?_) (fun s H hq => ?_)
  · refine w_seq fun K16 hK16 => ?_
    refine w_reg gC ?_
    try simp only [W, Nat.reduceAdd]
    refine w_grdT h (fun hc h => ?_) (fun hc h => ?_)
    · try simp only [W, hc]
      refine seq_n hK16 ?_
      refine w_kill ?_
      exact cut_n hK15 ⟨_, (Option.some.inj h).symm, rfl, (hS.sel 2 [1, 0] (by decide))⟩
    · try simp only [W, EE, reduceIte, Bool.false_eq_true, hc]
      refine seq_n hK16 ?_
      refine w_kill ?_
      exact cut_n hK15 ⟨_, (Option.some.inj h).symm, rfl, (hS.sel 2 [1, 0] (by decide))⟩
  · obtain ⟨x12, ey, rfl, hS⟩ := hq; obtain rfl := ey.symm
    replace h := g14
    try dsimp only at h
    refine seq_n hK11 ?_
    refine w_if ?_
    simp only [W]
    refine w_cnd h (fun hc h => ?_) (fun hc h => ?_)
    · refine w_seq fun K17 hK17 => ?_
      refine w_reg gC ?_
      try simp only [W, EE, Nat.reduceAdd]
      refine w_bld rfl rfl rfl rfl rfl ?_
      try simp only [W]
      refine w_stv (a := .agg [.int .i64 0, .int .i64 0, .int .i64 0, .int .i64 0]) (y' := .agg [.int .i64 0, .int .i64 0, .int .i64 0, .int .i64 0]) 0 hS rfl rfl rfl rfl rfl rfl rfl rfl fun H hS => ?_
      try simp only [W]
      refine seq_n hK17 ?_
      refine w_ret ?_
      refine seq_r hK10 ?_
      refine fin_r hK0 (res_c rfl rfl (hS.var 0 rfl) rfl (res_tc rfl rfl)) ?_
      try obtain rfl := Option.some.inj h
      exact hP _ (hS.sel 2 [] (by decide))
    · refine w_skip ?_
      refine seq_n hK10 ?_
      refine w_seq fun K18 hK18 => ?_
      refine w_seq fun K19 hK19 => ?_
      refine w_reg gC ?_
      try simp only [W, EE, Nat.reduceAdd]
      refine seq_n hK19 ?_
      obtain ⟨y29, hw30, g36⟩ := Option.bind_eq_some_iff.1 h
      refine w_join gC (fun s H => ∃ x25 : Int, ∃ x26 : Int, ∃ x27 : Int, ∃ x28 : Int, y29 = LR.next (x25, x26, x27, x28) ∧ s = [u, u, u, u, .ptr ip2 wp2 0 0, u, .ptr ip8 wp8 0 0, u, u, u, u, u, u, u, u, u, u, u, u, u, u, u, u, u, u, u, u, u, u, u, u, u, u, u, u, u, u, u] ∧ Own H (⟨.ptr ip2 wp2 0 0, 4, [.agg [.int .i64 0, .int .i64 0, .int .i64 0, .int .i64 0]]⟩ :: ⟨.ptr ip8 wp8 0 0, 4, [.agg [.int .i64 x25, .int .i64 x26, .int .i64 x27, .int .i64 x28]]⟩ :: F)) (fun K31 hK31 => ?_) (fun s H hq => ?_)
      · refine w_blk fun K32 hK32 => ?_
        refine w_loop gC hw30 (fun x s H => match x with | (x20, x21, x22, x23, x24) => s = [u, u, u, u, .ptr ip2 wp2 0 0, u, .ptr ip8 wp8 0 0, u, u, u, u, u, u, u, u, u, u, u, u, u, u, u, u, .fz (a1.map e_Seen), .int .i64 (a1.length : Int), .int .i64 x20, u, u, u, u, u, u, u, u, u, u, u, u] ∧ Own H (⟨.ptr ip2 wp2 0 0, 4, [.agg [.int .i64 0, .int .i64 0, .int .i64 0, .int .i64 0]]⟩ :: ⟨.ptr ip8 wp8 0 0, 4, [.agg [.int .i64 x21, .int .i64 x22, .int .i64 x23, .int .i64 x24]]⟩ :: F)) ⟨rfl, hS⟩ (fun x y35 s H h hd34 hi K33 hK33 => ?_)
        obtain ⟨x20, x21, x22, x23, x24⟩ := x
        try dsimp only at hi
        obtain ⟨rfl, hS⟩ := hi
        simp only [spec_SeeAll_l0] at h
        refine w_seq fun K37 hK37 => ?_
        refine w_reg gC ?_
        try simp only [W, EE, Nat.reduceAdd]
        refine seq_n hK37 ?_
        refine w_seq fun K38 hK38 => ?_
        refine w_if ?_
        simp only [W]
        refine w_cnd h (fun hc h => ?_) (fun hc h => ?_)
        · refine w_skip ?_
          refine seq_n hK38 ?_
          refine w_seq fun K39 hK39 => ?_
          refine w_blk fun K40 hK40 => ?_
          refine w_seq fun K41 hK41 => ?_
          refine w_reg gC ?_
          try simp only [W, EE, Nat.reduceAdd]
          refine w_fz rfl rfl rfl (fun _ => rfl) h fun b42 hb42 h => ?_
          try simp only [W, EE, EN, reduceIte, Nat.reduceAdd, Nat.reduceLeDiff]
          refine w_alloc hS rfl rfl fun ip43 wp43 H hS => ?_
          try simp only [W]
          refine w_stv (a := .agg [.int .i64 b42.Took, .bool b42.Twice, .bool b42.Lost]) (y' := .agg [.int .i64 b42.Took, .bool b42.Twice, .bool b42.Lost]) 0 hS rfl rfl rfl rfl rfl rfl rfl rfl fun H hS => ?_
          try simp only [W]
          refine seq_n hK41 ?_
          refine w_seq fun K45 hK45 => ?_
          refine w_seq fun K46 hK46 => ?_
          refine w_reg gC ?_
          try simp only [W, EE, reduceIte, Nat.reduceAdd, Nat.reduceLeDiff, hS.var 0 rfl]
          refine w_call h fun b47 hb47 h => ?_
          refine spec_l9Seen_w hb47 hS fun H hS => ?_
          try simp only [W]
          refine seq_n hK46 ?_
          refine w_if ?_
          simp only [W]
          refine w_cnd h (fun hc h => ?_) (fun hc h => ?_)
          · refine w_seq fun K48 hK48 => ?_
            refine w_reg gC ?_
            try simp only [W, EE, Nat.reduceAdd]
            refine w_bld rfl rfl rfl rfl rfl ?_
            try simp only [W]
            refine w_stv (a := .agg [.int .i64 0, .int .i64 0, .int .i64 0, .int .i64 0]) (y' := .agg [.int .i64 0, .int .i64 0, .int .i64 0, .int .i64 0]) 1 hS rfl rfl rfl rfl rfl rfl rfl rfl fun H hS => ?_
            try simp only [W]
            refine seq_n hK48 ?_
            refine w_ret ?_
            refine seq_r hK45 ?_
            refine blk_r hK40 ?_
            refine seq_r hK39 ?_
            try obtain rfl := Option.some.inj h
            obtain rfl := hd34 _ rfl
            have h : (some (LR.done ((⟨0, 0, 0, 0⟩ : Guess), false)) : Option (LR (Int × Int × Int × Int) (Guess × Bool))) = some (LR.done ((⟨0, 0, 0, 0⟩ : Guess), false)) := rfl
            refine lp_r hK33 ?_
            refine blk_r hK32 ?_
            try obtain rfl := Option.some.inj h
            obtain rfl := Option.some.inj g36
            have h : (some ((⟨0, 0, 0, 0⟩ : Guess), false) : Option (Guess × Bool)) = some ((⟨0, 0, 0, 0⟩ : Guess), false) := rfl
            refine cut_r hK31 ?_
            refine seq_r hK18 ?_
            refine fin_r hK0 (res_c rfl rfl (hS.var 1 rfl) rfl (res_tc rfl rfl)) ?_
            try obtain rfl := Option.some.inj h
            exact hP _ (hS.sel 3 [] (by decide))
          · refine w_skip ?_
            refine seq_n hK45 ?_
            refine w_reg gC ?_
            try simp only [W, EE, reduceIte, Nat.reduceAdd, Nat.reduceLeDiff, hS.var 0 rfl, hS.var 2 rfl]
            refine w_call h fun b53 hb53 h => ?_
            refine spec_l9See_w hb53 hS fun H hS => ?_
            try simp only [W]
            refine w_stv (a := .agg [.int .i64 b53.Mean, .int .i64 b53.Swing, .int .i64 b53.Many, .int .i64 b53.Back]) (y' := .agg [.int .i64 b53.Mean, .int .i64 b53.Swing, .int .i64 b53.Many, .int .i64 b53.Back]) 2 hS rfl rfl rfl rfl rfl rfl rfl rfl fun H hS => ?_
            try simp only [W]
            refine blk_n0 hK40 ?_
            refine seq_n hK39 ?_
            refine w_reg gC ?_
            try simp only [W, EE, Nat.reduceAdd]
            exact lp_n hK33 h ⟨rfl, (hS.sel 3 [1, 2] (by decide))⟩
        · refine w_exit ?_
          refine seq_x hK38 ?_
          try obtain rfl := Option.some.inj h
          obtain rfl := hd34 _ rfl
          have h : (some (LR.next (x21, x22, x23, x24)) : Option (LR (Int × Int × Int × Int) (Guess × Bool))) = some (LR.next (x21, x22, x23, x24)) := rfl
          refine lp_x hK33 ?_
          refine blk_e hK32 ?_
          exact cut_n hK31 ⟨_, _, _, _, (Option.some.inj h).symm, rfl, hS⟩
      · obtain ⟨x25, x26, x27, x28, rfl, rfl, hS⟩ := hq
        replace h := g36
        try dsimp only at h
        refine seq_n hK18 ?_
        refine w_seq fun K56 hK56 => ?_
        refine w_reg gC ?_
        try simp only [W, EE, reduceIte, Nat.reduceAdd, Nat.reduceLeDiff, hS.var 1 rfl]
        refine w_stv (a := .agg [.int .i64 x25, .int .i64 x26, .int .i64 x27, .int .i64 x28]) (y' := .agg [.int .i64 x25, .int .i64 x26, .int .i64 x27, .int .i64 x28]) 0 hS rfl rfl rfl rfl rfl rfl rfl rfl fun H hS => ?_
        try simp only [W]
        refine seq_n hK56 ?_
        refine w_ret ?_
        refine fin_r hK0 (res_c rfl rfl (hS.var 0 rfl) rfl (res_tc rfl rfl)) ?_
        try obtain rfl := Option.some.inj h
        exact hP _ (hS.sel 2 [] (by decide))
theorem impl_RangeOf_w {a0 : List Seen} {r : (Int × Int × Bool)} (h : impl_RangeOf a0 = some r) {F : List It} {H : Heap} (hS : Own H (F)) {P : AV → Heap → Prop} (hP : ∀ H', Own H' (F) → P (.tup [.int .i64 r.1, .int .i64 r.2.1, .bool r.2.2]) H') : ACall C 60 [.fz (a0.map e_Seen)] H P := by
  refine acall_of gC (res := [.tmp 2, .tmp 3, .tmp 4]) (n := 43) rfl rfl rfl rfl fun K0 hK0 => ?_
  simp only [W, Nat.reduceSub, Nat.reduceAdd, List.replicate]
  unfold impl_RangeOf at h
  refine w_seq fun K1 hK1 => ?_
  refine w_reg gC ?_
  try simp only [W, Nat.reduceAdd]
  refine seq_n hK1 ?_
  refine w_seq fun K2 hK2 => ?_
  refine w_seq fun K3 hK3 => ?_
  refine w_reg gC ?_
  try simp only [W, Nat.reduceAdd]
  refine w_call h fun b4 hb4 h => ?_
  refine impl_areSeen_w hb4 hS fun H hS => ?_
  try simp only [W]
  refine seq_n hK3 ?_
  refine w_if ?_
  simp only [W]
  refine w_cnd h (fun hc h => ?_) (fun hc h => ?_)
  · refine w_seq fun K5 hK5 => ?_
    refine w_reg gC ?_
    try simp only [W, Nat.reduceAdd]
    refine seq_n hK5 ?_
    refine w_ret ?_
    refine seq_r hK2 ?_
    refine fin_r3 hK0 rfl rfl rfl ?_
    try obtain rfl := Option.some.inj h
    exact hP _ hS
  · refine w_skip ?_
    refine seq_n hK2 ?_
    refine w_seq fun K6 hK6 => ?_
    refine w_reg gC ?_
    try simp only [W, Nat.reduceAdd]
    refine seq_n hK6 ?_
    refine w_seq fun K7 hK7 => ?_
    refine w_seq fun K8 hK8 => ?_
    refine w_reg gC ?_
    try simp only [W, EE, Nat.reduceAdd]
    refine seq_n hK8 ?_
    obtain ⟨y16, hw17, g23⟩ := Option.bind_eq_some_iff.1 h
    refine w_join gC (fun s H => ∃ x13 : Int, ∃ x14 : Int, ∃ x15 : Bool, y16 = (x13, x14, x15) ∧ s = [u, u, u, u, u, .int .i64 x13, .int .i64 x14, .bool x15, u, u, u, u, u, u, u, u, u, u, u, u, u, u, u, u, u, u, u, u, u, u, u, u, u, u, u, u, u, u, u, u, u, u, u] ∧ Own H (F)) (fun K18 hK18 => ?_) (fun s H hq => ?_)
    · refine w_blk fun K19 hK19 => ?_
      refine w_loop gC hw17 (fun x s H => match x with | (x9, x10, x11, x12) => s = [u, u, u, u, u, .int .i64 x9, .int .i64 x10, .bool x11, u, u, u, u, u, .fz (a0.map e_Seen), .int .i64 (a0.length : Int), .int .i64 x12, u, u, u, u, u, u, u, u, u, u, u, u, u, u, u, u, u, u, u, u, u, u, u, u, u, u, u] ∧ Own H (F)) ⟨rfl, hS⟩ (fun x y22 s H h hd21 hi K20 hK20 => ?_)
      obtain ⟨x9, x10, x11, x12⟩ := x
      try dsimp only at hi
      obtain ⟨rfl, hS⟩ := hi
      simp only [impl_RangeOf_l0] at h
      refine w_seq fun K24 hK24 => ?_
      refine w_reg gC ?_
      try simp only [W, EE, Nat.reduceAdd]
      refine seq_n hK24 ?_
      refine w_seq fun K25 hK25 => ?_
      refine w_if ?_
      simp only [W]
      refine w_cnd h (fun hc h => ?_) (fun hc h => ?_)
      · refine w_skip ?_
        refine seq_n hK25 ?_
        refine w_seq fun K26 hK26 => ?_
        obtain ⟨y31, h, g32⟩ := Option.bind_eq_some_iff.1 h
        refine w_join gC (fun s H => ∃ x28 : Int, ∃ x29 : Int, ∃ x30 : Bool, y31 = (x28, x29, x30) ∧ s = [u, u, u, u, u, .int .i64 x28, .int .i64 x29, .bool x30, u, u, u, u, u, .fz (a0.map e_Seen), .int .i64 (a0.length : Int), .int .i64 x12, u, u, u, u, u, u, u, u, u, u, u, u, u, u, u, u, u, u, u, u, u, u, u, u, u, u, u] ∧ Own H (F)) (fun K33 hK33 => ?_) (fun s H hq => ?_)
        · refine w_blk fun K27 hK27 => ?_
          refine w_seq fun K34 hK34 => ?_
          refine w_reg gC ?_
          try simp only [W, EE, Nat.reduceAdd]
          refine w_fz rfl rfl rfl (fun _ => rfl) h fun b35 hb35 h => ?_
          try simp only [W, EE, EN, reduceIte, Nat.reduceAdd, Nat.reduceLeDiff]
          refine w_alloc hS rfl rfl fun ip36 wp36 H hS => ?_
          try simp only [W]
          refine w_stv (a := .agg [.int .i64 b35.Took, .bool b35.Twice, .bool b35.Lost]) (y' := .agg [.int .i64 b35.Took, .bool b35.Twice, .bool b35.Lost]) 0 hS rfl rfl rfl rfl rfl rfl rfl rfl fun H hS => ?_
          try simp only [W]
          refine seq_n hK34 ?_
          refine w_seq fun K38 hK38 => ?_
          refine w_seq fun K39 hK39 => ?_
          obtain ⟨y41, h, g42⟩ := Option.bind_eq_some_iff.1 h
          refine w_join gC (fun s H => ∃ x40 : Bool, y41 = (x40) ∧ s = [u, u, u, u, u, .int .i64 x9, .int .i64 x10, .bool x11, u, .ptr ip36 wp36 0 0, u, u, u, .fz (a0.map e_Seen), .int .i64 (a0.length : Int), .int .i64 x12, u, u, u, u, u, u, u, u, .bool x40, u, u, u, u, u, u, u, u, u, u, u, u, u, u, u, u, u, u] ∧ Own H (⟨.ptr ip36 wp36 0 0, 3, [.agg [.int .i64 b35.Took, .bool b35.Twice, .bool b35.Lost]]⟩ :: F)) (fun K43 hK43 => ?_) (fun s H hq => ?_)
          · refine w_seq fun K44 hK44 => ?_
            refine w_reg gC ?_
            try simp only [W, EE, Nat.reduceAdd, Nat.reduceBEq, hS.var 0 rfl]
            refine w_grdT h (fun hc h => ?_) (fun hc h => ?_)
            · try simp only [W, hc]
              refine seq_n hK44 ?_
              refine w_kill ?_
              exact cut_n hK43 ⟨_, (Option.some.inj h).symm, rfl, hS⟩
            · try simp only [W, EE, reduceIte, Nat.reduceAdd, Nat.reduceBEq, Bool.false_eq_true, hS.var 0 rfl, hc]
              refine seq_n hK44 ?_
              refine w_kill ?_
              exact cut_n hK43 ⟨_, (Option.some.inj h).symm, rfl, hS⟩
          · obtain ⟨x40, ey, rfl, hS⟩ := hq; obtain rfl := ey.symm
            replace h := g42
            try dsimp only at h
            refine seq_n hK39 ?_
            refine w_if ?_
            simp only [W]
            refine w_cnd h (fun hc h => ?_) (fun hc h => ?_)
            · refine w_exit ?_
              refine seq_x hK38 ?_
              refine blk_e hK27 ?_
              exact cut_n hK33 ⟨_, _, _, (Option.some.inj h).symm, rfl, (hS.sel 1 [] (by decide))⟩
            · refine w_skip ?_
              refine seq_n hK38 ?_
              refine w_seq fun K45 hK45 => ?_
              refine w_seq fun K46 hK46 => ?_
              refine w_reg gC ?_
              try simp only [W, Nat.reduceAdd]
              refine seq_n hK46 ?_
              obtain ⟨y49, h, g50⟩ := Option.bind_eq_some_iff.1 h
              refine w_join gC (fun s H => ∃ x47 : Int, ∃ x48 : Int, y49 = (x47, x48) ∧ s = [u, u, u, u, u, .int .i64 x47, .int .i64 x48, u, u, .ptr ip36 wp36 0 0, u, u, u, .fz (a0.map e_Seen), .int .i64 (a0.length : Int), .int .i64 x12, u, u, u, u, u, u, u, u, u, u, u, u, u, u, u, u, u, u, u, u, u, u, u, u, u, u, u] ∧ Own H (⟨.ptr ip36 wp36 0 0, 3, [.agg [.int .i64 b35.Took, .bool b35.Twice, .bool b35.Lost]]⟩ :: F)) (fun K51 hK51 => ?_) (fun s H hq => ?_)
              · refine w_seq fun K52 hK52 => ?_
                refine w_if ?_
                simp only [W]
                refine w_cnd h (fun hc h => ?_) (fun hc h => ?_)
                · refine w_draw0 gC (by kernel_rfl) ?_
                  try simp only [W, EE, Nat.reduceAdd, Nat.reduceBEq, hS.var 0 rfl]
                  refine seq_n hK52 ?_
                  refine w_kill ?_
                  exact cut_n hK51 ⟨_, _, (Option.some.inj h).symm, rfl, hS⟩
                · refine w_skip ?_
                  refine seq_n hK52 ?_
                  refine w_kill ?_
                  exact cut_n hK51 ⟨_, _, (Option.some.inj h).symm, rfl, hS⟩
              · obtain ⟨x47, x48, rfl, rfl, hS⟩ := hq
                replace h := g50
                try dsimp only at h
                refine seq_n hK45 ?_
                refine w_draw0 gC (by kernel_rfl) ?_
                try simp only [W, EE, Nat.reduceAdd, Nat.reduceBEq, hS.var 0 rfl]
                refine blk_n hK27 ?_
                exact cut_n hK33 ⟨_, _, _, (Option.some.inj h).symm, rfl, (hS.sel 1 [] (by decide))⟩
        · obtain ⟨x28, x29, x30, rfl, rfl, hS⟩ := hq
          replace h := g32
          try dsimp only at h
          refine seq_n hK26 ?_
          refine w_reg gC ?_
          try simp only [W, EE, Nat.reduceAdd]
          exact lp_n hK20 h ⟨rfl, hS⟩
      · refine w_exit ?_
        refine seq_x hK25 ?_
        try obtain rfl := Option.some.inj h
        obtain rfl := hd21 _ rfl
        have h : (some (x9, x10, x11) : Option (Int × Int × Bool)) = some (x9, x10, x11) := rfl
        refine lp_x hK20 ?_
        refine blk_e hK19 ?_
        exact cut_n hK18 ⟨_, _, _, (Option.some.inj h).symm, rfl, hS⟩
    · obtain ⟨x13, x14, x15, rfl, rfl, hS⟩ := hq
      replace h := g23
      try dsimp only at h
      refine seq_n hK7 ?_
      refine w_seq fun K55 hK55 => ?_
      refine w_reg gC ?_
      try simp only [W, Nat.reduceAdd]
      refine seq_n hK55 ?_
      refine w_ret ?_
      refine fin_r3 hK0 rfl rfl rfl ?_
      try obtain rfl := Option.some.inj h
      exact hP _ hS
theorem impl_GoodGuess_w {a0 : Guess} {r : (Bool)} (h : impl_GoodGuess a0 = some r) {F : List It} {H : Heap} (hS : Own H (F)) {P : AV → Heap → Prop} (hP : ∀ H', Own H' (F) → P (.bool r) H') : ACall C 53 [.agg [.int .i64 a0.Mean, .int .i64 a0.Swing, .int .i64 a0.Many, .int .i64 a0.Back]] H P := by
  refine acall_of gC (res := [.tmp 2]) (n := 21) rfl rfl rfl rfl fun K0 hK0 => ?_
  simp only [W, Nat.reduceSub, Nat.reduceAdd, List.replicate]
  unfold impl_GoodGuess at h
  refine w_seq fun K1 hK1 => ?_
  refine w_reg gC ?_
  try simp only [W, Nat.reduceAdd]
  refine w_box hS rfl rfl rfl rfl fun ip2 wp2 H hS => ?_
  try simp only [W]
  refine seq_n hK1 ?_
  refine w_seq fun K4 hK4 => ?_
  refine w_reg gC ?_
  try simp only [W, EE, Nat.reduceAdd, Nat.reduceBEq, hS.var 0 rfl]
  refine w_call h fun b5 hb5 h => ?_
  refine impl_in_w hb5 hS fun H hS => ?_
  try simp only [W]
  refine w_grdT h (fun hc h => ?_) (fun hc h => ?_)
  · try simp only [W, EE, Nat.reduceAdd, Nat.reduceBEq, hS.var 0 rfl, hc]
    refine w_call h fun b6 hb6 h => ?_
    refine impl_in_w hb6 hS fun H hS => ?_
    try simp only [W, reduceIte]
    refine w_grdT h (fun hc h => ?_) (fun hc h => ?_)
    · try simp only [W, EE, Nat.reduceAdd, Nat.reduceBEq, hS.var 0 rfl, hc]
      refine w_call h fun b7 hb7 h => ?_
      refine impl_in_w hb7 hS fun H hS => ?_
      try simp only [W, reduceIte]
      refine w_grdT h (fun hc h => ?_) (fun hc h => ?_)
      · try simp only [W, EE, Nat.reduceAdd, Nat.reduceBEq, hS.var 0 rfl, hc]
        refine w_call h fun b8 hb8 h => ?_
        refine impl_in_w hb8 hS fun H hS => ?_
        try simp only [W, reduceIte]
        refine seq_n hK4 ?_
        refine w_ret ?_
        refine fin_r1 hK0 rfl ?_
        try obtain rfl := Option.some.inj h
        exact hP _ (hS.sel 1 [] (by decide))
      · try simp only [W, hc]
        refine seq_n hK4 ?_
        refine w_ret ?_
        refine fin_r1 hK0 rfl ?_
        try obtain rfl := Option.some.inj h
        exact hP _ (hS.sel 1 [] (by decide))
    · try simp only [W, hc]
      refine seq_n hK4 ?_
      refine w_ret ?_
      refine fin_r1 hK0 rfl ?_
      try obtain rfl := Option.some.inj h
      exact hP _ (hS.sel 1 [] (by decide))
  · try simp only [W, hc]
    refine seq_n hK4 ?_
    refine w_ret ?_
    refine fin_r1 hK0 rfl ?_
    try obtain rfl := Option.some.inj h
    exact hP _ (hS.sel 1 [] (by decide))
theorem spec_DrawRangeOf_w {a0 : List Int} {r : (List Seen)} (h : spec_DrawRangeOf a0 = some r) {F : List It} {H : Heap} (hS : Own H (F)) {P : AV → Heap → Prop} (hP : ∀ v11 : AV, isSl v11 → ∀ H', Own H' (⟨v11, 3, r.map e_Seen⟩ :: F) → P (v11) H') : ACall C 61 [.fz (a0.map (AV.int .u8))] H P := by
  refine acall_of gC (res := [.tmp 2]) (n := 9) rfl rfl rfl rfl fun K0 hK0 => ?_
  simp only [W, Nat.reduceSub, Nat.reduceAdd, List.replicate]
  unfold spec_DrawRangeOf at h
  refine w_seq fun K1 hK1 => ?_
  refine w_reg gC ?_
  try simp only [W, Nat.reduceAdd]
  refine seq_n hK1 ?_
  refine w_seq fun K2 hK2 => ?_
  refine w_reg gC ?_
  try simp only [W, EE, Nat.reduceAdd]
  refine w_bld rfl rfl rfl rfl rfl ?_
  try simp only [W]
  refine w_box hS rfl rfl rfl rfl fun ip3 wp3 H hS => ?_
  try simp only [W]
  refine seq_n hK2 ?_
  refine w_seq fun K5 hK5 => ?_
  refine w_reg gC ?_
  try simp only [W, Nat.reduceAdd]
  refine w_call h fun b6 hb6 h => ?_
  obtain ⟨b7, b8⟩ := b6
  try dsimp only at h
  refine spec_l1Cur_allSeen_w hb6 hS fun v9 qv9 H hS => ?_
  try simp only [W]
  refine seq_n hK5 ?_
  refine w_ret ?_
  refine fin_r1 hK0 rfl ?_
  try obtain rfl := Option.some.inj h
  exact hP _ qv9 _ (hS.sel 2 [0] (by decide))
theorem spec_l1Most_w {a0 : Int} {a1 : Int} {r : (Int)} (h : spec_l1Most a0 a1 = some r) {F : List It} {H : Heap} (hS : Own H (F)) {P : AV → Heap → Prop} (hP : ∀ H', Own H' (F) → P (.int .i64 r) H') : ACall C 137 [.int .i64 a0, .int .i64 a1] H P := by
  refine acall_of gC (res := [.tmp 4]) (n := 10) rfl rfl rfl rfl fun K0 hK0 => ?_
  simp only [W, Nat.reduceSub, Nat.reduceAdd, List.replicate]
  unfold spec_l1Most at h
  refine w_seq fun K1 hK1 => ?_
  refine w_reg gC ?_
  try simp only [W, Nat.reduceAdd]
  refine seq_n hK1 ?_
  refine w_seq fun K2 hK2 => ?_
  refine w_seq fun K3 hK3 => ?_
  refine w_reg gC ?_
  try simp only [W, EE, Nat.reduceAdd]
  refine seq_n hK3 ?_
  refine w_if ?_
  simp only [W]
  refine w_cnd h (fun hc h => ?_) (fun hc h => ?_)
  · refine w_seq fun K4 hK4 => ?_
    refine w_reg gC ?_
    try simp only [W, Nat.reduceAdd]
    refine seq_n hK4 ?_
    refine w_ret ?_
    refine seq_r hK2 ?_
    refine fin_r1 hK0 rfl ?_
    try obtain rfl := Option.some.inj h
    exact hP _ hS
  · refine w_skip ?_
    refine seq_n hK2 ?_
    refine w_seq fun K5 hK5 => ?_
    refine w_reg gC ?_
    try simp only [W, Nat.reduceAdd]
    refine seq_n hK5 ?_
    refine w_ret ?_
    refine fin_r1 hK0 rfl ?_
    try obtain rfl := Option.some.inj h
    exact hP _ hS
theorem spec_RangeOf_w {a0 : List Seen} {r : (Int × Int × Bool)} (h : spec_RangeOf a0 = some r) {F : List It} {H : Heap} (hS : Own H (F)) {P : AV → Heap → Prop} (hP : ∀ H', Own H' (F) → P (.tup [.int .i64 r.1, .int .i64 r.2.1, .bool r.2.2]) H') : ACall C 62 [.fz (a0.map e_Seen)] H P := by
  refine acall_of gC (res := [.tmp 2, .tmp 3, .tmp 4]) (n := 48) rfl rfl rfl rfl fun K0 hK0 => ?_
  simp only [W, Nat.reduceSub, Nat.reduceAdd, List.replicate]
  unfold spec_RangeOf at h
  refine w_seq fun K1 hK1 => ?_
  refine w_reg gC ?_
  try simp only [W, Nat.reduceAdd]
  refine seq_n hK1 ?_
  refine w_seq fun K2 hK2 => ?_
  refine w_reg gC ?_
  try simp only [W, Nat.reduceAdd]
  refine seq_n hK2 ?_
  refine w_seq fun K3 hK3 => ?_
  refine w_reg gC ?_
  try simp only [W, Nat.reduceAdd]
  refine seq_n hK3 ?_
  refine w_seq fun K4 hK4 => ?_
  refine w_seq fun K5 hK5 => ?_
  refine w_reg gC ?_
  try simp only [W, EE, Nat.reduceAdd]
  refine seq_n hK5 ?_
  obtain ⟨y11, hw12, g18⟩ := Option.bind_eq_some_iff.1 h
  refine w_join gC (fun s H => ∃ x9 : Int, ∃ x10 : Int, y11 = LR.next (x9, x10) ∧ s = [.fz (a0.map e_Seen), u, u, u, u, .int .i64 x9, .int .i64 x10, u, u, u, u, u, u, u, u, u, u, u, u, u, u, u, u, u, u, u, u, u, u, u, u, u, u, u, u, u, u, u, u, u, u, u, u, u, u, u, u, u] ∧ Own H (F)) (fun K13 hK13 => ?_) (fun s H hq => ?_)
  · refine w_blk fun K14 hK14 => ?_
    refine w_loop gC hw12 (fun x s H => match x with | (x6, x7, x8) => s = [.fz (a0.map e_Seen), u, u, u, u, .int .i64 x6, .int .i64 x7, u, u, .fz (a0.map e_Seen), .int .i64 (a0.length : Int), .int .i64 x8, u, u, u, u, u, u, u, u, u, u, u, u, u, u, u, u, u, u, u, u, u, u, u, u, u, u, u, u, u, u, u, u, u, u, u, u] ∧ Own H (F)) ⟨rfl, hS⟩ (fun x y17 s H h hd16 hi K15 hK15 => ?_)
    obtain ⟨x6, x7, x8⟩ := x
    try dsimp only at hi
    obtain ⟨rfl, hS⟩ := hi
    simp only [spec_RangeOf_l0] at h
    refine w_seq fun K19 hK19 => ?_
    refine w_reg gC ?_
    try simp only [W, EE, Nat.reduceAdd]
    refine seq_n hK19 ?_
    refine w_seq fun K20 hK20 => ?_
    refine w_if ?_
    simp only [W]
    refine w_cnd h (fun hc h => ?_) (fun hc h => ?_)
    · refine w_skip ?_
      refine seq_n hK20 ?_
      refine w_seq fun K21 hK21 => ?_
      obtain ⟨y25, h, g26⟩ := Option.bind_eq_some_iff.1 h
      refine w_join gC (fun s H => ∃ x23 : Int, ∃ x24 : Int, y25 = LR.next (x23, x24) ∧ s = [.fz (a0.map e_Seen), u, u, u, u, .int .i64 x23, .int .i64 x24, u, u, .fz (a0.map e_Seen), .int .i64 (a0.length : Int), .int .i64 x8, u, u, u, u, u, u, u, u, u, u, u, u, u, u, u, u, u, u, u, u, u, u, u, u, u, u, u, u, u, u, u, u, u, u, u, u] ∧ Own H (F)) (fun K27 hK27 => ?_) (fun s H hq => ?_)
      · refine w_blk fun K22 hK22 => ?_
        refine w_seq fun K28 hK28 => ?_
        refine w_reg gC ?_
        try simp only [W, EE, Nat.reduceAdd]
        refine w_fz rfl rfl rfl (fun _ => rfl) h fun b29 hb29 h => ?_
        try simp only [W, EE, EN, reduceIte, Nat.reduceAdd, Nat.reduceLeDiff]
        refine w_alloc hS rfl rfl fun ip30 wp30 H hS => ?_
        try simp only [W]
        refine w_stv (a := .agg [.int .i64 b29.Took, .bool b29.Twice, .bool b29.Lost]) (y' := .agg [.int .i64 b29.Took, .bool b29.Twice, .bool b29.Lost]) 0 hS rfl rfl rfl rfl rfl rfl rfl rfl fun H hS => ?_
        try simp only [W]
        refine seq_n hK28 ?_
        refine w_seq fun K32 hK32 => ?_
        refine w_seq fun K33 hK33 => ?_
        refine w_reg gC ?_
        try simp only [W, EE, reduceIte, Nat.reduceAdd, Nat.reduceLeDiff, hS.var 0 rfl]
        refine w_call h fun b34 hb34 h => ?_
        refine spec_l9Seen_w hb34 hS fun H hS => ?_
        try simp only [W]
        refine seq_n hK33 ?_
        refine w_if ?_
        simp only [W]
        refine w_cnd h (fun hc h => ?_) (fun hc h => ?_)
        · refine w_seq fun K35 hK35 => ?_
          refine w_reg gC ?_
          try simp only [W, Nat.reduceAdd]
          refine seq_n hK35 ?_
          refine w_ret ?_
          refine seq_r hK32 ?_
          refine blk_r hK22 ?_
          try obtain rfl := Option.some.inj h
          obtain rfl := Option.some.inj g26
          have h : (some (LR.done (LR.done (0, 0, false))) : Option (LR (Int × Int × Int) (LR (Int × Int) (Int × Int × Bool)))) = some (LR.done (LR.done (0, 0, false))) := rfl
          refine cut_r hK27 ?_
          refine seq_r hK21 ?_
          try obtain rfl := Option.some.inj h
          obtain rfl := hd16 _ rfl
          have h : (some (LR.done (0, 0, false)) : Option (LR (Int × Int) (Int × Int × Bool))) = some (LR.done (0, 0, false)) := rfl
          refine lp_r hK15 ?_
          refine blk_r hK14 ?_
          try obtain rfl := Option.some.inj h
          obtain rfl := Option.some.inj g18
          have h : (some (0, 0, false) : Option (Int × Int × Bool)) = some (0, 0, false) := rfl
          refine cut_r hK13 ?_
          refine seq_r hK4 ?_
          refine fin_r3 hK0 rfl rfl rfl ?_
          try obtain rfl := Option.some.inj h
          exact hP _ (hS.sel 1 [] (by decide))
        · refine w_skip ?_
          refine seq_n hK32 ?_
          refine w_seq fun K42 hK42 => ?_
          refine w_seq fun K43 hK43 => ?_
          obtain ⟨y45, h, g46⟩ := Option.bind_eq_some_iff.1 h
          refine w_join gC (fun s H => ∃ x44 : Bool, y45 = (x44) ∧ s = [.fz (a0.map e_Seen), u, u, u, u, .int .i64 x6, .int .i64 x7, u, .ptr ip30 wp30 0 0, .fz (a0.map e_Seen), .int .i64 (a0.length : Int), .int .i64 x8, u, u, u, u, u, u, u, u, u, u, u, .bool x44, u, u, u, u, u, u, u, u, u, u, u, u, u, u, u, u, u, u, u, u, u, u, u, u] ∧ Own H (⟨.ptr ip30 wp30 0 0, 3, [.agg [.int .i64 b29.Took, .bool b29.Twice, .bool b29.Lost]]⟩ :: F)) (fun K47 hK47 => ?_) (fun s H hq => ?_)
          · refine w_seq fun K48 hK48 => ?_
            refine w_reg gC ?_
            try simp only [W, EE, Nat.reduceAdd, Nat.reduceBEq, hS.var 0 rfl]
            refine w_grdT h (fun hc h => ?_) (fun hc h => ?_)
            · try simp only [W, hc]
              refine seq_n hK48 ?_
              refine w_kill ?_
              exact cut_n hK47 ⟨_, (Option.some.inj h).symm, rfl, hS⟩
            · try simp only [W, EE, reduceIte, Nat.reduceAdd, Nat.reduceBEq, Bool.false_eq_true, hS.var 0 rfl, hc]
              refine seq_n hK48 ?_
              refine w_kill ?_
              exact cut_n hK47 ⟨_, (Option.some.inj h).symm, rfl, hS⟩
          · obtain ⟨x44, ey, rfl, hS⟩ := hq; obtain rfl := ey.symm
            replace h := g46
            try dsimp only at h
            refine seq_n hK43 ?_
            refine w_if ?_
            simp only [W]
            refine w_cnd h (fun hc h => ?_) (fun hc h => ?_)
            · refine w_exit ?_
              refine seq_x hK42 ?_
              refine blk_e hK22 ?_
              exact cut_n hK27 ⟨_, _, (Option.some.inj h).symm, rfl, (hS.sel 1 [] (by decide))⟩
            · refine w_skip ?_
              refine seq_n hK42 ?_
              refine w_seq fun K49 hK49 => ?_
              refine w_seq fun K50 hK50 => ?_
              obtain ⟨y52, h, g53⟩ := Option.bind_eq_some_iff.1 h
              refine w_join gC (fun s H => ∃ x51 : Bool, y52 = (x51) ∧ s = [.fz (a0.map e_Seen), u, u, u, u, .int .i64 x6, .int .i64 x7, u, .ptr ip30 wp30 0 0, .fz (a0.map e_Seen), .int .i64 (a0.length : Int), .int .i64 x8, u, u, u, u, u, u, u, u, u, u, u, u, u, u, u, u, u, u, u, .bool x51, u, u, u, u, u, u, u, u, u, u, u, u, u, u, u, u] ∧ Own H (⟨.ptr ip30 wp30 0 0, 3, [.agg [.int .i64 b29.Took, .bool b29.Twice, .bool b29.Lost]]⟩ :: F)) (fun K54 hK54 => ?_) (fun s H hq => ?_)
              · refine w_seq fun K55 hK55 => ?_
                refine w_reg gC ?_
                try simp only [W, EE, Nat.reduceAdd]
                refine w_grdT h (fun hc h => ?_) (fun hc h => ?_)
                · try simp only [W, hc]
                  refine seq_n hK55 ?_
                  refine w_kill ?_
                  exact cut_n hK54 ⟨_, (Option.some.inj h).symm, rfl, hS⟩
                · try simp only [W, EE, reduceIte, Nat.reduceAdd, Nat.reduceBEq, Bool.false_eq_true, hS.var 0 rfl, hc]
                  refine seq_n hK55 ?_
                  refine w_kill ?_
                  exact cut_n hK54 ⟨_, (Option.some.inj h).symm, rfl, hS⟩
              · obtain ⟨x51, ey, rfl, hS⟩ := hq; obtain rfl := ey.symm
                replace h := g53
                try dsimp only at h
                refine seq_n hK50 ?_
                obtain ⟨y57, h, g58⟩ := Option.bind_eq_some_iff.1 h
                refine w_join gC (fun s H => ∃ x56 : Int, y57 = (x56) ∧ s = [.fz (a0.map e_Seen), u, u, u, u, .int .i64 x56, .int .i64 x7, u, .ptr ip30 wp30 0 0, .fz (a0.map e_Seen), .int .i64 (a0.length : Int), .int .i64 x8, u, u, u, u, u, u, u, u, u, u, u, u, u, u, u, u, u, u, u, u, u, u, u, u, u, u, u, u, u, u, u, u, u, u, u, u] ∧ Own H (⟨.ptr ip30 wp30 0 0, 3, [.agg [.int .i64 b29.Took, .bool b29.Twice, .bool b29.Lost]]⟩ :: F)) (fun K59 hK59 => ?_) (fun s H hq => ?_)
                · refine w_seq fun K60 hK60 => ?_
                  refine w_if ?_
                  simp only [W]
                  refine w_cnd h (fun hc h => ?_) (fun hc h => ?_)
                  · refine w_reg gC ?_
                    try simp only [W, EE, Nat.reduceAdd, Nat.reduceBEq, hS.var 0 rfl]
                    refine seq_n hK60 ?_
                    refine w_kill ?_
                    exact cut_n hK59 ⟨_, (Option.some.inj h).symm, rfl, hS⟩
                  · refine w_skip ?_
                    refine seq_n hK60 ?_
                    refine w_kill ?_
                    exact cut_n hK59 ⟨_, (Option.some.inj h).symm, rfl, hS⟩
                · obtain ⟨x56, ey, rfl, hS⟩ := hq; obtain rfl := ey.symm
                  replace h := g58
                  try dsimp only at h
                  refine seq_n hK49 ?_
                  refine w_reg gC ?_
                  try simp only [W, EE, Nat.reduceAdd, Nat.reduceBEq, hS.var 0 rfl]
                  refine w_call h fun b61 hb61 h => ?_
                  refine spec_l1Most_w hb61 hS fun H hS => ?_
                  try simp only [W]
                  refine blk_n hK22 ?_
                  exact cut_n hK27 ⟨_, _, (Option.some.inj h).symm, rfl, (hS.sel 1 [] (by decide))⟩
      · obtain ⟨x23, x24, rfl, rfl, hS⟩ := hq
        replace h := g26
        try dsimp only at h
        refine seq_n hK21 ?_
        refine w_reg gC ?_
        try simp only [W, EE, Nat.reduceAdd]
        exact lp_n hK15 h ⟨rfl, hS⟩
    · refine w_exit ?_
      refine seq_x hK20 ?_
      try obtain rfl := Option.some.inj h
      obtain rfl := hd16 _ rfl
      have h : (some (LR.next (x6, x7)) : Option (LR (Int × Int) (Int × Int × Bool))) = some (LR.next (x6, x7)) := rfl
      refine lp_x hK15 ?_
      refine blk_e hK14 ?_
      exact cut_n hK13 ⟨_, _, (Option.some.inj h).symm, rfl, hS⟩
  · obtain ⟨x9, x10, rfl, rfl, hS⟩ := hq
    replace h := g18
    try dsimp only at h
    refine seq_n hK4 ?_
    refine w_seq fun K64 hK64 => ?_
    refine w_seq fun K65 hK65 => ?_
    obtain ⟨y67, h, g68⟩ := Option.bind_eq_some_iff.1 h
    refine w_join gC (fun s H => ∃ x66 : Bool, y67 = (x66) ∧ s = [u, u, u, u, u, .int .i64 x9, .int .i64 x10, u, u, u, u, u, u, u, u, u, u, u, u, u, u, u, u, u, u, u, u, u, u, u, u, u, u, u, u, u, u, u, u, u, u, u, u, u, u, .bool x66, u, u] ∧ Own H (F)) (fun K69 hK69 => ?_) (fun s H hq => ?_)
    · refine w_seq fun K70 hK70 => ?_
      refine w_reg gC ?_
      try simp only [W, EE, Nat.reduceAdd]
      refine w_grdT h (fun hc h => ?_) (fun hc h => ?_)
      · try simp only [W, hc]
        refine seq_n hK70 ?_
        refine w_kill ?_
        exact cut_n hK69 ⟨_, (Option.some.inj h).symm, rfl, hS⟩
      · try simp only [W, EE, reduceIte, Bool.false_eq_true, hc]
        refine seq_n hK70 ?_
        refine w_kill ?_
        exact cut_n hK69 ⟨_, (Option.some.inj h).symm, rfl, hS⟩
    · obtain ⟨x66, ey, rfl, hS⟩ := hq; obtain rfl := ey.symm
      replace h := g68
      try dsimp only at h
      refine seq_n hK65 ?_
      refine w_if ?_
      simp only [W]
      refine w_cnd h (fun hc h => ?_) (fun hc h => ?_)
      · refine w_seq fun K71 hK71 => ?_
        refine w_reg gC ?_
        try simp only [W, Nat.reduceAdd]
        refine seq_n hK71 ?_
        refine w_ret ?_
        refine seq_r hK64 ?_
        refine fin_r3 hK0 rfl rfl rfl ?_
        try obtain rfl := Option.some.inj h
        exact hP _ hS
      · refine w_skip ?_
        refine seq_n hK64 ?_
        refine w_seq fun K72 hK72 => ?_
        refine w_reg gC ?_
        try simp only [W, Nat.reduceAdd]
        refine seq_n hK72 ?_
        refine w_ret ?_
        refine fin_r3 hK0 rfl rfl rfl ?_
        try obtain rfl := Option.some.inj h
        exact hP _ hS
theorem laws_FnKarn_w {a0 : List Int} {a1 : List Int} {r : (Bool)} (h : laws_FnKarn a0 a1 = some r) {F : List It} {H : Heap} (hS : Own H (F)) {P : AV → Heap → Prop} (hP : ∀ H', Own H' (F) → P (.bool r) H') : ACall C 12 [.fz (a0.map (AV.int .u8)), .fz (a1.map (AV.int .u8))] H P := by
  refine acall_of gC (res := [.tmp 4]) (n := 171) rfl rfl rfl rfl fun K0 hK0 => ?_
  simp only [W, Nat.reduceSub, Nat.reduceAdd, List.replicate]
  unfold laws_FnKarn at h
  refine w_seq fun K1 hK1 => ?_
  refine w_reg gC ?_
  try simp only [W, Nat.reduceAdd]
  refine seq_n hK1 ?_
  refine w_seq fun K2 hK2 => ?_
  refine w_seq fun K3 hK3 => ?_
  refine w_reg gC ?_
  try simp only [W, EE, Nat.reduceAdd]
  refine seq_n hK3 ?_
  refine w_if ?_
  simp only [W]
  refine w_cnd h (fun hc h => ?_) (fun hc h => ?_)
  · refine w_seq fun K4 hK4 => ?_
    refine w_reg gC ?_
    try simp only [W, Nat.reduceAdd]
    refine seq_n hK4 ?_
    refine w_ret ?_
    refine seq_r hK2 ?_
    refine fin_r1 hK0 rfl ?_
    try obtain rfl := Option.some.inj h
    exact hP _ hS
  · refine w_skip ?_
    refine seq_n hK2 ?_
    refine w_seq fun K5 hK5 => ?_
    refine w_reg gC ?_
    try simp only [W, Nat.reduceAdd]
    refine w_call h fun b6 hb6 h => ?_
    obtain ⟨b7, b8⟩ := b6
    try dsimp only at h
    refine spec_DrawSeeAll_w hb6 hS fun v9 qv9 H hS => ?_
    try simp only [W]
    refine seq_n hK5 ?_
    refine w_seq fun K11 hK11 => ?_
    refine w_regF (fz := [(2, [([39, 6, 36], [.sl [.sc, .sc, .sc]])])]) gC ?_
    try simp only [W, Nat.reduceAdd, Nat.reduceBEq]
    refine FZ_own 0 hS rfl qv9 rfl (fun _ _ => by simp [takeE, takeT, takeC, plainA, e_Seen]) (fun _ => rfl) fun H hsame hS => ?_
    simp only [W, hsame, if_true]
    try simp only [W, EE, EN, reduceIte, Nat.reduceAdd, Nat.reduceLeDiff, Nat.reduceBEq, Nat.reduceMul, Bool.false_eq_true]
    refine w_call h fun b12 hb12 h => ?_
    obtain ⟨b13, b14⟩ := b12
    try dsimp only at h
    refine impl_SeeAll_w hb12 hS fun H hS => ?_
    try simp only [W, Nat.reduceAdd, Nat.reduceBEq]
    refine w_alloc hS rfl rfl fun ip15 wp15 H hS => ?_
    try simp only [W, Nat.reduceAdd, Nat.reduceBEq]
    refine w_stv (a := .agg [.int .i64 b13.Mean, .int .i64 b13.Swing, .int .i64 b13.Many, .int .i64 b13.Back]) (y' := .agg [.int .i64 b13.Mean, .int .i64 b13.Swing, .int .i64 b13.Many, .int .i64 b13.Back]) 0 hS rfl rfl rfl rfl rfl rfl rfl rfl fun H hS => ?_
    try simp only [W, Nat.reduceAdd, Nat.reduceBEq]
    refine seq_n hK11 ?_
    refine w_seq fun K17 hK17 => ?_
    refine w_reg gC ?_
    try simp only [W, Nat.reduceAdd]
    refine w_call h fun b18 hb18 h => ?_
    obtain ⟨b19, b20⟩ := b18
    try dsimp only at h
    refine spec_SeeAll_w hb18 hS fun H hS => ?_
    try simp only [W]
    refine w_alloc hS rfl rfl fun ip21 wp21 H hS => ?_
    try simp only [W]
    refine w_stv (a := .agg [.int .i64 b19.Mean, .int .i64 b19.Swing, .int .i64 b19.Many, .int .i64 b19.Back]) (y' := .agg [.int .i64 b19.Mean, .int .i64 b19.Swing, .int .i64 b19.Many, .int .i64 b19.Back]) 0 hS rfl rfl rfl rfl rfl rfl rfl rfl fun H hS => ?_
    try simp only [W]
    refine seq_n hK17 ?_
    refine w_seq fun K23 hK23 => ?_
    refine w_seq fun K24 hK24 => ?_
    obtain ⟨y26, h, g27⟩ := Option.bind_eq_some_iff.1 h
    refine w_join gC (fun s H => ∃ x25 : Bool, y26 = (x25) ∧ s = [u, .fz (a1.map (AV.int .u8)), u, u, u, .int .i64 b7, .fz (b8.map e_Seen), .ptr ip15 wp15 0 0, .bool b14, u, u, u, u, u, u, u, u, u, u, u, u, u, u, u, u, u, u, u, u, u, u, u, u, u, u, u, u, u, u, u, u, u, u, u, u, u, u, u, u, u, u, u, u, u, u, u, .bool x25, u, u, u, u, u, u, u, u, u, u, u, u, u, u, u, u, u, u, u, u, u, u, u, u, u, u, u, u, u, u, u, u, u, u, u, u, u, u, u, u, u, u, u, u, u, u, u, u, u, u, u, u, u, u, u, u, u, u, u, u, u, u, u, u, u, u, u, u, u, u, u, u, u, u, u, u, u, u, u, u, u, u, u, u, u, u, u, u, u, u, u, u, u, u, u, u, u, u, u, u, u, u, u, u, u, u, u, u, u, u, u, u, u, u] ∧ Own H (⟨.ptr ip15 wp15 0 0, 4, [.agg [.int .i64 b13.Mean, .int .i64 b13.Swing, .int .i64 b13.Many, .int .i64 b13.Back]]⟩ :: F)) (fun K28 hK28 => ?_) (fun s H hq => ?_)
    · refine w_seq fun K29 hK29 => ?_
      refine w_reg gC ?_
      try simp only [W, EE, Nat.reduceAdd]
      rw [b_bneq _ _ _ _ (h := rfl) rfl, resV_s]
      try simp only [W]
      refine w_grdT h (fun hc h => ?_) (fun hc h => ?_)
      · try simp only [W, hc]
        refine seq_n hK29 ?_
        refine w_kill ?_
        exact cut_n hK28 ⟨_, (Option.some.inj h).symm, rfl, (hS.sel 2 [1] (by decide))⟩
      · try simp only [W, EE, reduceIte, Nat.reduceAdd, Nat.reduceLeDiff, Bool.false_eq_true, hS.var 1 rfl, hS.var 0 rfl, hc]
        refine seq_n hK29 ?_
        refine w_kill ?_
        exact cut_n hK28 ⟨_, (Option.some.inj h).symm, rfl, (hS.sel 2 [1] (by decide))⟩
    · obtain ⟨x25, ey, rfl, hS⟩ := hq; obtain rfl := ey.symm
      replace h := g27
      try dsimp only at h
      refine seq_n hK24 ?_
      refine w_if ?_
      simp only [W]
      refine w_cnd h (fun hc h => ?_) (fun hc h => ?_)
      · refine w_seq fun K30 hK30 => ?_
        refine w_reg gC ?_
        try simp only [W, Nat.reduceAdd]
        refine seq_n hK30 ?_
        refine w_ret ?_
        refine seq_r hK23 ?_
        refine fin_r1 hK0 rfl ?_
        try obtain rfl := Option.some.inj h
        exact hP _ (hS.sel 1 [] (by decide))
      · refine w_skip ?_
        refine seq_n hK23 ?_
        refine w_seq fun K31 hK31 => ?_
        refine w_seq fun K32 hK32 => ?_
        refine w_reg gC ?_
        try simp only [W, Nat.reduceAdd]
        refine seq_n hK32 ?_
        obtain ⟨y33, h, g34⟩ := Option.bind_eq_some_iff.1 h
        refine w_join gC (fun s H => y33 = LR.next () ∧ s = [u, .fz (a1.map (AV.int .u8)), u, u, u, u, u, u, u, u, u, u, u, u, u, u, u, u, u, u, u, u, u, u, u, u, u, u, u, u, u, u, u, u, u, u, u, u, u, u, u, u, u, u, u, u, u, u, u, u, u, u, u, u, u, u, u, u, u, u, u, u, u, u, u, u, u, u, u, u, u, u, u, u, u, u, u, u, u, u, u, u, u, u, u, u, u, u, u, u, u, u, u, u, u, u, u, u, u, u, u, u, u, u, u, u, u, u, u, u, u, u, u, u, u, u, u, u, u, u, u, u, u, u, u, u, u, u, u, u, u, u, u, u, u, u, u, u, u, u, u, u, u, u, u, u, u, u, u, u, u, u, u, u, u, u, u, u, u, u, u, u, u, u, u, u, u, u, u, u, u] ∧ Own H (F)) (fun K35 hK35 => ?_) (fun s H hq => ?_)
        · refine w_seq fun K36 hK36 => ?_
          refine w_if ?_
          simp only [W]
          refine w_cnd h (fun hc h => ?_) (fun hc h => ?_)
          · refine w_seq fun K37 hK37 => ?_
            refine w_reg gC ?_
            try simp only [W, Nat.reduceAdd]
            refine w_call h fun b38 hb38 h => ?_
            obtain ⟨b39, b40, b41⟩ := b38
            try dsimp only at h
            refine impl_RangeOf_w hb38 hS fun H hS => ?_
            try simp only [W]
            refine seq_n hK37 ?_
            refine w_seq fun K42 hK42 => ?_
            refine w_seq fun K43 hK43 => ?_
            refine w_reg gC ?_
            try simp only [W, Nat.reduceAdd]
            refine seq_n hK43 ?_
            obtain ⟨y46, h, g47⟩ := Option.bind_eq_some_iff.1 h
            refine w_join gC (fun s H => ∃ x44 : Int, ∃ x45 : Int, y46 = (x44, x45) ∧ s = [u, .fz (a1.map (AV.int .u8)), u, u, u, .int .i64 b7, .fz (b8.map e_Seen), .ptr ip15 wp15 0 0, u, u, u, .int .i64 x44, .int .i64 x45, u, u, u, u, u, u, u, u, u, u, u, u, u, u, u, u, u, u, u, u, u, u, u, u, u, u, u, u, u, u, u, u, u, u, u, u, u, u, u, u, u, u, u, u, u, u, u, u, u, u, u, u, u, u, u, u, u, u, u, u, u, u, u, u, u, u, u, u, u, u, u, u, u, u, u, u, u, u, u, u, u, u, u, u, u, u, u, u, u, u, u, u, u, u, u, u, u, u, u, u, u, u, u, u, u, u, u, u, u, u, u, u, u, u, u, u, u, u, u, u, u, u, u, u, u, u, u, u, u, u, u, u, u, u, u, u, u, u, u, u, u, u, u, u, u, u, u, u, u, u, u, u, u, u, u, u, u, u] ∧ Own H (⟨.ptr ip15 wp15 0 0, 4, [.agg [.int .i64 b13.Mean, .int .i64 b13.Swing, .int .i64 b13.Many, .int .i64 b13.Back]]⟩ :: F)) (fun K48 hK48 => ?_) (fun s H hq => ?_)
            · refine w_seq fun K49 hK49 => ?_
              refine w_if ?_
              simp only [W]
              refine w_cnd h (fun hc h => ?_) (fun hc h => ?_)
              · refine w_seq fun K50 hK50 => ?_
                refine w_reg gC ?_
                try simp only [W, Nat.reduceAdd]
                refine seq_n hK50 ?_
                refine w_reg gC ?_
                try simp only [W, Nat.reduceAdd]
                refine seq_n hK49 ?_
                refine w_kill ?_
                exact cut_n hK48 ⟨_, _, (Option.some.inj h).symm, rfl, hS⟩
              · refine w_skip ?_
                refine seq_n hK49 ?_
                refine w_kill ?_
                exact cut_n hK48 ⟨_, _, (Option.some.inj h).symm, rfl, hS⟩
            · obtain ⟨x44, x45, rfl, rfl, hS⟩ := hq
              replace h := g47
              try dsimp only at h
              refine seq_n hK42 ?_
              refine w_seq fun K51 hK51 => ?_
              refine w_seq fun K52 hK52 => ?_
              refine w_reg gC ?_
              try simp only [W, EE, Nat.reduceAdd]
              refine seq_n hK52 ?_
              obtain ⟨y54, h, g55⟩ := Option.bind_eq_some_iff.1 h
              refine w_join gC (fun s H => ∃ x53 : Int, y54 = (x53) ∧ s = [u, .fz (a1.map (AV.int .u8)), u, u, u, .int .i64 b7, .fz (b8.map e_Seen), .ptr ip15 wp15 0 0, u, u, u, .int .i64 x53, .int .i64 x45, u, u, u, u, u, u, u, u, u, u, u, u, u, u, u, u, u, u, u, u, u, u, u, u, u, u, u, u, u, u, u, u, u, u, u, u, u, u, u, u, u, u, u, u, u, u, u, u, u, u, u, u, u, u, u, u, u, u, u, u, u, u, u, u, u, u, u, u, u, u, u, u, u, u, u, u, u, u, u, u, u, u, u, u, u, u, u, u, u, u, u, u, u, u, u, u, u, u, u, u, u, u, u, u, u, u, u, u, u, u, u, u, u, u, u, u, u, u, u, u, u, u, u, u, u, u, u, u, u, u, u, u, u, u, u, u, u, u, u, u, u, u, u, u, u, u, u, u, u, u, u, u, u, u, u, u, u, u] ∧ Own H (⟨.ptr ip15 wp15 0 0, 4, [.agg [.int .i64 b13.Mean, .int .i64 b13.Swing, .int .i64 b13.Many, .int .i64 b13.Back]]⟩ :: F)) (fun K56 hK56 => ?_) (fun s H hq => ?_)
              · refine w_seq fun K57 hK57 => ?_
                refine w_if ?_
                simp only [W]
                refine w_cnd h (fun hc h => ?_) (fun hc h => ?_)
                · refine w_reg gC ?_
                  try simp only [W, Nat.reduceAdd]
                  refine seq_n hK57 ?_
                  refine w_kill ?_
                  exact cut_n hK56 ⟨_, (Option.some.inj h).symm, rfl, hS⟩
                · refine w_skip ?_
                  refine seq_n hK57 ?_
                  refine w_kill ?_
                  exact cut_n hK56 ⟨_, (Option.some.inj h).symm, rfl, hS⟩
              · obtain ⟨x53, ey, rfl, hS⟩ := hq; obtain rfl := ey.symm
                replace h := g55
                try dsimp only at h
                refine seq_n hK51 ?_
                refine w_seq fun K58 hK58 => ?_
                refine w_seq fun K59 hK59 => ?_
                refine w_reg gC ?_
                try simp only [W, EE, Nat.reduceAdd]
                refine seq_n hK59 ?_
                obtain ⟨y61, h, g62⟩ := Option.bind_eq_some_iff.1 h
                refine w_join gC (fun s H => ∃ x60 : Int, y61 = (x60) ∧ s = [u, .fz (a1.map (AV.int .u8)), u, u, u, .int .i64 b7, .fz (b8.map e_Seen), .ptr ip15 wp15 0 0, u, u, u, .int .i64 x53, .int .i64 x60, u, u, u, u, u, u, u, u, u, u, u, u, u, u, u, u, u, u, u, u, u, u, u, u, u, u, u, u, u, u, u, u, u, u, u, u, u, u, u, u, u, u, u, u, u, u, u, u, u, u, u, u, u, u, u, u, u, u, u, u, u, u, u, u, u, u, u, u, u, u, u, u, u, u, u, u, u, u, u, u, u, u, u, u, u, u, u, u, u, u, u, u, u, u, u, u, u, u, u, u, u, u, u, u, u, u, u, u, u, u, u, u, u, u, u, u, u, u, u, u, u, u, u, u, u, u, u, u, u, u, u, u, u, u, u, u, u, u, u, u, u, u, u, u, u, u, u, u, u, u, u, u, u, u, u, u, u, u] ∧ Own H (⟨.ptr ip15 wp15 0 0, 4, [.agg [.int .i64 b13.Mean, .int .i64 b13.Swing, .int .i64 b13.Many, .int .i64 b13.Back]]⟩ :: F)) (fun K63 hK63 => ?_) (fun s H hq => ?_)
                · refine w_seq fun K64 hK64 => ?_
                  refine w_if ?_
                  simp only [W]
                  refine w_cnd h (fun hc h => ?_) (fun hc h => ?_)
                  · refine w_reg gC ?_
                    try simp only [W, Nat.reduceAdd]
                    refine seq_n hK64 ?_
                    refine w_kill ?_
                    exact cut_n hK63 ⟨_, (Option.some.inj h).symm, rfl, hS⟩
                  · refine w_skip ?_
                    refine seq_n hK64 ?_
                    refine w_kill ?_
                    exact cut_n hK63 ⟨_, (Option.some.inj h).symm, rfl, hS⟩
                · obtain ⟨x60, ey, rfl, hS⟩ := hq; obtain rfl := ey.symm
                  replace h := g62
                  try dsimp only at h
                  refine seq_n hK58 ?_
                  refine w_seq fun K65 hK65 => ?_
                  refine w_seq fun K66 hK66 => ?_
                  obtain ⟨y68, h, g69⟩ := Option.bind_eq_some_iff.1 h
                  refine w_join gC (fun s H => ∃ x67 : Bool, y68 = (x67) ∧ s = [u, .fz (a1.map (AV.int .u8)), u, u, u, .int .i64 b7, .fz (b8.map e_Seen), .ptr ip15 wp15 0 0, u, u, u, u, u, u, u, u, u, u, u, u, u, u, u, u, u, u, u, u, u, u, u, u, u, u, u, u, u, u, u, u, u, u, u, u, u, u, u, u, u, u, u, u, u, u, u, u, u, u, u, u, u, u, u, u, u, u, u, u, u, u, u, u, u, u, u, u, u, u, u, u, u, u, u, u, u, u, u, u, u, u, u, u, u, .bool x67, u, u, u, u, u, u, u, u, u, u, u, u, u, u, u, u, u, u, u, u, u, u, u, u, u, u, u, u, u, u, u, u, u, u, u, u, u, u, u, u, u, u, u, u, u, u, u, u, u, u, u, u, u, u, u, u, u, u, u, u, u, u, u, u, u, u, u, u, u, u, u, u, u, u, u, u, u] ∧ Own H (⟨.ptr ip15 wp15 0 0, 4, [.agg [.int .i64 b13.Mean, .int .i64 b13.Swing, .int .i64 b13.Many, .int .i64 b13.Back]]⟩ :: F)) (fun K70 hK70 => ?_) (fun s H hq => ?_)
                  · refine w_seq fun K71 hK71 => ?_
                    refine w_reg gC ?_
                    try simp only [W, EE, Nat.reduceAdd, Nat.reduceBEq, hS.var 0 rfl]
                    refine w_grdT h (fun hc h => ?_) (fun hc h => ?_)
                    · try simp only [W, hc]
                      refine seq_n hK71 ?_
                      refine w_kill ?_
                      exact cut_n hK70 ⟨_, (Option.some.inj h).symm, rfl, hS⟩
                    · try simp only [W, EE, reduceIte, Nat.reduceAdd, Nat.reduceBEq, Bool.false_eq_true, hS.var 0 rfl, hc]
                      refine w_grdT h (fun hc h => ?_) (fun hc h => ?_)
                      · try simp only [W, hc]
                        refine seq_n hK71 ?_
                        refine w_kill ?_
                        exact cut_n hK70 ⟨_, (Option.some.inj h).symm, rfl, hS⟩
                      · try simp only [W, EE, reduceIte, Nat.reduceAdd, Nat.reduceLeDiff, hS.var 0 rfl, hc]
                        refine w_call h fun b72 hb72 h => ?_
                        refine impl_GoodGuess_w hb72 hS fun H hS => ?_
                        try simp only [W, reduceIte, Bool.false_eq_true]
                        refine seq_n hK71 ?_
                        refine w_kill ?_
                        exact cut_n hK70 ⟨_, (Option.some.inj h).symm, rfl, hS⟩
                  · obtain ⟨x67, ey, rfl, hS⟩ := hq; obtain rfl := ey.symm
                    replace h := g69
                    try dsimp only at h
                    refine seq_n hK66 ?_
                    refine w_if ?_
                    simp only [W]
                    refine w_cnd h (fun hc h => ?_) (fun hc h => ?_)
                    · refine w_seq fun K73 hK73 => ?_
                      refine w_reg gC ?_
                      try simp only [W, Nat.reduceAdd]
                      refine seq_n hK73 ?_
                      refine w_ret ?_
                      refine seq_r hK65 ?_
                      refine seq_r hK36 ?_
                      try obtain rfl := Option.some.inj h
                      obtain rfl := Option.some.inj g34
                      have h : (some false : Option (Bool)) = some false := rfl
                      refine cut_r hK35 ?_
                      refine seq_r hK31 ?_
                      refine fin_r1 hK0 rfl ?_
                      try obtain rfl := Option.some.inj h
                      exact hP _ (hS.sel 1 [] (by decide))
                    · refine w_skip ?_
                      refine seq_n hK65 ?_
                      refine w_seq fun K76 hK76 => ?_
                      refine w_reg gC ?_
                      try simp only [W, Nat.reduceAdd]
                      refine seq_n hK76 ?_
                      refine w_seq fun K77 hK77 => ?_
                      refine w_seq fun K78 hK78 => ?_
                      refine w_reg gC ?_
                      try simp only [W, EE, Nat.reduceAdd]
                      refine seq_n hK78 ?_
                      obtain ⟨y85, hw86, g92⟩ := Option.bind_eq_some_iff.1 h
                      refine w_join gC (fun s H => ∃ x83 : List Seen, y85 = (x83) ∧ ∃ v84 : AV, isSl v84 ∧ s = [u, .fz (a1.map (AV.int .u8)), u, u, u, .int .i64 b7, u, .ptr ip15 wp15 0 0, u, u, u, u, u, u, v84, u, u, u, u, u, u, u, u, u, u, u, u, u, u, u, u, u, u, u, u, u, u, u, u, u, u, u, u, u, u, u, u, u, u, u, u, u, u, u, u, u, u, u, u, u, u, u, u, u, u, u, u, u, u, u, u, u, u, u, u, u, u, u, u, u, u, u, u, u, u, u, u, u, u, u, u, u, u, u, u, u, u, u, u, u, u, u, u, u, u, u, u, u, u, u, u, u, u, u, u, u, u, u, u, u, u, u, u, u, u, u, u, u, u, u, u, u, u, u, u, u, u, u, u, u, u, u, u, u, u, u, u, u, u, u, u, u, u, u, u, u, u, u, u, u, u, u, u, u, u, u, u, u, u, u, u] ∧ Own H (⟨v84, 3, x83.map e_Seen⟩ :: ⟨.ptr ip15 wp15 0 0, 4, [.agg [.int .i64 b13.Mean, .int .i64 b13.Swing, .int .i64 b13.Many, .int .i64 b13.Back]]⟩ :: F)) (fun K87 hK87 => ?_) (fun s H hq => ?_)
                      · refine w_blk fun K88 hK88 => ?_
                        refine w_loop gC hw86 (fun x s H => match x with | (x79, x82) => ∃ v80 : AV, isSl v80 ∧ s = [u, .fz (a1.map (AV.int .u8)), u, u, u, .int .i64 b7, u, .ptr ip15 wp15 0 0, u, u, u, u, u, u, v80, u, u, u, u, u, u, u, u, u, u, u, u, u, u, u, u, u, u, u, u, u, u, u, u, u, u, u, u, u, u, u, u, u, u, u, u, u, u, u, u, u, u, u, u, u, u, u, u, u, u, u, u, u, u, u, u, u, u, u, u, u, u, u, u, u, u, u, u, u, u, u, u, u, u, u, u, u, u, u, .fz (b8.map e_Seen), .int .i64 (b8.length : Int), .int .i64 x82, u, u, u, u, u, u, u, u, u, u, u, u, u, u, u, u, u, u, u, u, u, u, u, u, u, u, u, u, u, u, u, u, u, u, u, u, u, u, u, u, u, u, u, u, u, u, u, u, u, u, u, u, u, u, u, u, u, u, u, u, u, u, u, u, u, u, u, u, u, u, u, u, u, u] ∧ Own H (⟨v80, 3, x79.map e_Seen⟩ :: ⟨.ptr ip15 wp15 0 0, 4, [.agg [.int .i64 b13.Mean, .int .i64 b13.Swing, .int .i64 b13.Many, .int .i64 b13.Back]]⟩ :: F)) ⟨_, isSl_nil, rfl, (hS.nil_ 3)⟩ (fun x y91 s H h hd90 hi K89 hK89 => ?_)
                        obtain ⟨x79, x82⟩ := x
                        try dsimp only at hi
                        obtain ⟨v80, qv80, rfl, hS⟩ := hi
                        simp only [laws_FnKarn_l0] at h
                        refine w_seq fun K93 hK93 => ?_
                        refine w_reg gC ?_
                        try simp only [W, EE, Nat.reduceAdd]
                        refine seq_n hK93 ?_
                        refine w_seq fun K94 hK94 => ?_
                        refine w_if ?_
                        simp only [W]
                        refine w_cnd h (fun hc h => ?_) (fun hc h => ?_)
                        · refine w_skip ?_
                          refine seq_n hK94 ?_
                          refine w_seq fun K95 hK95 => ?_
                          obtain ⟨y99, h, g100⟩ := Option.bind_eq_some_iff.1 h
                          refine w_join gC (fun s H => ∃ x97 : List Seen, y99 = (x97) ∧ ∃ v98 : AV, isSl v98 ∧ s = [u, .fz (a1.map (AV.int .u8)), u, u, u, .int .i64 b7, u, .ptr ip15 wp15 0 0, u, u, u, u, u, u, v98, u, u, u, u, u, u, u, u, u, u, u, u, u, u, u, u, u, u, u, u, u, u, u, u, u, u, u, u, u, u, u, u, u, u, u, u, u, u, u, u, u, u, u, u, u, u, u, u, u, u, u, u, u, u, u, u, u, u, u, u, u, u, u, u, u, u, u, u, u, u, u, u, u, u, u, u, u, u, u, .fz (b8.map e_Seen), .int .i64 (b8.length : Int), .int .i64 x82, u, u, u, u, u, u, u, u, u, u, u, u, u, u, u, u, u, u, u, u, u, u, u, u, u, u, u, u, u, u, u, u, u, u, u, u, u, u, u, u, u, u, u, u, u, u, u, u, u, u, u, u, u, u, u, u, u, u, u, u, u, u, u, u, u, u, u, u, u, u, u, u, u, u] ∧ Own H (⟨v98, 3, x97.map e_Seen⟩ :: ⟨.ptr ip15 wp15 0 0, 4, [.agg [.int .i64 b13.Mean, .int .i64 b13.Swing, .int .i64 b13.Many, .int .i64 b13.Back]]⟩ :: F)) (fun K101 hK101 => ?_) (fun s H hq => ?_)
                          · refine w_blk fun K96 hK96 => ?_
                            refine w_seq fun K102 hK102 => ?_
                            refine w_reg gC ?_
                            try simp only [W, EE, Nat.reduceAdd]
                            refine w_fz rfl rfl rfl (fun _ => rfl) h fun b103 hb103 h => ?_
                            try simp only [W, EE, EN, reduceIte, Nat.reduceAdd, Nat.reduceLeDiff]
                            refine w_alloc hS rfl rfl fun ip104 wp104 H hS => ?_
                            try simp only [W]
                            refine w_stv (a := .agg [.int .i64 b103.Took, .bool b103.Twice, .bool b103.Lost]) (y' := .agg [.int .i64 b103.Took, .bool b103.Twice, .bool b103.Lost]) 0 hS rfl rfl rfl rfl rfl rfl rfl rfl fun H hS => ?_
                            try simp only [W]
                            refine seq_n hK102 ?_
                            refine w_seq fun K106 hK106 => ?_
                            obtain ⟨y108, h, g109⟩ := Option.bind_eq_some_iff.1 h
                            refine w_join gC (fun s H => ∃ x107 : Bool, y108 = (x107) ∧ s = [u, .fz (a1.map (AV.int .u8)), u, u, u, .int .i64 b7, u, .ptr ip15 wp15 0 0, u, u, u, u, u, u, v80, u, .ptr ip104 wp104 0 0, u, u, u, u, u, u, u, u, u, u, u, u, u, u, u, u, u, u, u, u, u, u, u, u, u, u, u, u, u, u, u, u, u, u, u, u, u, u, u, u, u, u, u, u, u, u, u, u, u, u, u, u, u, u, u, u, u, u, u, u, u, u, u, u, u, u, u, u, u, u, u, u, u, u, u, u, u, .fz (b8.map e_Seen), .int .i64 (b8.length : Int), .int .i64 x82, u, u, u, u, u, u, u, u, u, u, .bool x107, u, u, u, u, u, u, u, u, u, u, u, u, u, u, u, u, u, u, u, u, u, u, u, u, u, u, u, u, u, u, u, u, u, u, u, u, u, u, u, u, u, u, u, u, u, u, u, u, u, u, u, u, u, u, u, u, u, u, u, u, u, u, u] ∧ Own H (⟨v80, 3, x79.map e_Seen⟩ :: ⟨.ptr ip15 wp15 0 0, 4, [.agg [.int .i64 b13.Mean, .int .i64 b13.Swing, .int .i64 b13.Many, .int .i64 b13.Back]]⟩ :: ⟨.ptr ip104 wp104 0 0, 3, [.agg [.int .i64 b103.Took, .bool b103.Twice, .bool b103.Lost]]⟩ :: F)) (fun K110 hK110 => ?_) (fun s H hq => ?_)
                            · refine w_seq fun K111 hK111 => ?_
                              refine w_reg gC ?_
                              try simp only [W, EE, Nat.reduceAdd, Nat.reduceBEq, hS.var 0 rfl]
                              refine w_grdT h (fun hc h => ?_) (fun hc h => ?_)
                              · try simp only [W, EE, reduceIte, Nat.reduceAdd, Nat.reduceBEq, hS.var 0 rfl, hc]
                                refine seq_n hK111 ?_
                                refine w_kill ?_
                                exact cut_n hK110 ⟨_, (Option.some.inj h).symm, rfl, (hS.sel 3 [1, 2, 0] (by decide))⟩
                              · try simp only [W, hc]
                                refine seq_n hK111 ?_
                                refine w_kill ?_
                                exact cut_n hK110 ⟨_, (Option.some.inj h).symm, rfl, (hS.sel 3 [1, 2, 0] (by decide))⟩
                            · obtain ⟨x107, ey, rfl, hS⟩ := hq; obtain rfl := ey.symm
                              replace h := g109
                              try dsimp only at h
                              refine seq_n hK106 ?_
                              obtain ⟨y115, h, g116⟩ := Option.bind_eq_some_iff.1 h
                              refine w_join gC (fun s H => ∃ x112 : List Seen, y115 = (x112) ∧ ∃ v113 : AV, isSl v113 ∧ s = [u, .fz (a1.map (AV.int .u8)), u, u, u, .int .i64 b7, u, .ptr ip15 wp15 0 0, u, u, u, u, u, u, v113, u, u, u, u, u, u, u, u, u, u, u, u, u, u, u, u, u, u, u, u, u, u, u, u, u, u, u, u, u, u, u, u, u, u, u, u, u, u, u, u, u, u, u, u, u, u, u, u, u, u, u, u, u, u, u, u, u, u, u, u, u, u, u, u, u, u, u, u, u, u, u, u, u, u, u, u, u, u, u, .fz (b8.map e_Seen), .int .i64 (b8.length : Int), .int .i64 x82, u, u, u, u, u, u, u, u, u, u, u, u, u, u, u, u, u, u, u, u, u, u, u, u, u, u, u, u, u, u, u, u, u, u, u, u, u, u, u, u, u, u, u, u, u, u, u, u, u, u, u, u, u, u, u, u, u, u, u, u, u, u, u, u, u, u, u, u, u, u, u, u, u, u] ∧ Own H (⟨v113, 3, x112.map e_Seen⟩ :: ⟨.ptr ip15 wp15 0 0, 4, [.agg [.int .i64 b13.Mean, .int .i64 b13.Swing, .int .i64 b13.Many, .int .i64 b13.Back]]⟩ :: F)) (fun K117 hK117 => ?_) (fun s H hq => ?_)
                              · refine w_seq fun K118 hK118 => ?_
                                refine w_if ?_
                                simp only [W]
                                refine w_cnd h (fun hc h => ?_) (fun hc h => ?_)
                                · refine w_reg gC ?_
                                  try simp only [W, EE, reduceIte, Nat.reduceAdd, Nat.reduceLeDiff, hS.var 2 rfl]
                                  refine w_lit (el := ([b103] : List Seen).map e_Seen) hS rfl rfl rfl rfl rfl rfl rfl fun v119 H qv119 hS => ?_
                                  try simp only [W, EE]
                                  refine w_appV (l := x79) (c := e_Seen) 1 hS rfl qv80 rfl rfl rfl (hS.elems 0 rfl qv119) (fun _ => rfl) rfl h fun v122 H x121 qv122 hm h hS => ?_
                                  try simp only [W]
                                  refine seq_n hK118 ?_
                                  refine w_kill ?_
                                  exact cut_n hK117 ⟨_, (Option.some.inj h).symm, _, qv122, rfl, (hS.sel 4 [1, 2] (by decide))⟩
                                · refine w_skip ?_
                                  refine seq_n hK118 ?_
                                  refine w_kill ?_
                                  exact cut_n hK117 ⟨_, (Option.some.inj h).symm, _, qv80, rfl, (hS.sel 3 [0, 1] (by decide))⟩
                              · obtain ⟨x112, ey, v113, qv113, rfl, hS⟩ := hq; obtain rfl := ey.symm
                                replace h := g116
                                try dsimp only at h
                                refine blk_n hK96 ?_
                                exact cut_n hK101 ⟨_, (Option.some.inj h).symm, _, qv113, rfl, hS⟩
                          · obtain ⟨x97, ey, v98, qv98, rfl, hS⟩ := hq; obtain rfl := ey.symm
                            replace h := g100
                            try dsimp only at h
                            refine seq_n hK95 ?_
                            refine w_reg gC ?_
                            try simp only [W, EE, Nat.reduceAdd]
                            exact lp_n hK89 h ⟨_, qv98, rfl, hS⟩
                        · refine w_exit ?_
                          refine seq_x hK94 ?_
                          try obtain rfl := Option.some.inj h
                          obtain rfl := hd90 _ rfl
                          have h : (some (x79) : Option ((List Seen))) = some (x79) := rfl
                          refine lp_x hK89 ?_
                          refine blk_e hK88 ?_
                          exact cut_n hK87 ⟨_, (Option.some.inj h).symm, _, qv80, rfl, hS⟩
                      · obtain ⟨x83, ey, v84, qv84, rfl, hS⟩ := hq; obtain rfl := ey.symm
                        replace h := g92
                        try dsimp only at h
                        refine seq_n hK77 ?_
                        refine w_seq fun K126 hK126 => ?_
                        refine w_regF (fz := [(2, [([115, 14], [.sl [.sc, .sc, .sc]])])]) gC ?_
                        try simp only [W, Nat.reduceAdd, Nat.reduceBEq]
                        refine FZ_own 0 hS rfl qv84 rfl (fun _ _ => by simp [takeE, takeT, takeC, plainA, e_Seen]) (fun _ => rfl) fun H hsame hS => ?_
                        simp only [W, hsame, if_true]
                        try simp only [W, EE, EN, reduceIte, Nat.reduceAdd, Nat.reduceLeDiff, Nat.reduceBEq, Nat.reduceMul, Bool.false_eq_true]
                        refine w_call h fun b127 hb127 h => ?_
                        obtain ⟨b128, b129⟩ := b127
                        try dsimp only at h
                        refine impl_SeeAll_w hb127 hS fun H hS => ?_
                        try simp only [W, Nat.reduceAdd, Nat.reduceBEq]
                        refine w_alloc hS rfl rfl fun ip130 wp130 H hS => ?_
                        try simp only [W, Nat.reduceAdd, Nat.reduceBEq]
                        refine w_stv (a := .agg [.int .i64 b128.Mean, .int .i64 b128.Swing, .int .i64 b128.Many, .int .i64 b128.Back]) (y' := .agg [.int .i64 b128.Mean, .int .i64 b128.Swing, .int .i64 b128.Many, .int .i64 b128.Back]) 0 hS rfl rfl rfl rfl rfl rfl rfl rfl fun H hS => ?_
                        try simp only [W, Nat.reduceAdd, Nat.reduceBEq]
                        refine seq_n hK126 ?_
                        refine w_seq fun K132 hK132 => ?_
                        obtain ⟨y134, h, g135⟩ := Option.bind_eq_some_iff.1 h
                        refine w_join gC (fun s H => ∃ x133 : Bool, y134 = (x133) ∧ s = [u, .fz (a1.map (AV.int .u8)), u, u, u, u, u, u, u, u, u, u, u, u, u, u, u, u, u, u, u, u, u, u, u, u, u, u, u, u, u, u, u, u, u, u, u, u, u, u, u, u, u, u, u, u, u, u, u, u, u, u, u, u, u, u, u, u, u, u, u, u, u, u, u, u, u, u, u, u, u, u, u, u, u, u, u, u, u, u, u, u, u, u, u, u, u, u, u, u, u, u, u, u, u, u, u, u, u, u, u, u, u, u, u, u, u, u, u, u, u, u, u, u, u, u, u, u, u, u, u, u, u, u, u, u, u, u, u, u, u, u, u, u, .bool x133, u, u, u, u, u, u, u, u, u, u, u, u, u, u, u, u, u, u, u, u, u, u, u, u, u, u, u, u, u, u, u, u, u, u, u, u] ∧ Own H (F)) (fun K136 hK136 => ?_) (fun s H hq => ?_)
                        · refine w_seq fun K137 hK137 => ?_
                          refine w_reg gC ?_
                          try simp only [W, Nat.reduceAdd]
                          refine w_grdT h (fun hc h => ?_) (fun hc h => ?_)
                          · try simp only [W, hc]
                            refine seq_n hK137 ?_
                            refine w_kill ?_
                            exact cut_n hK136 ⟨_, (Option.some.inj h).symm, rfl, (hS.sel 2 [] (by decide))⟩
                          · try simp only [W, EE, reduceIte, Nat.reduceAdd, Nat.reduceBEq, Bool.false_eq_true, hS.var 0 rfl, hS.var 1 rfl, hc]
                            refine w_grdT h (fun hc h => ?_) (fun hc h => ?_)
                            · try simp only [W, hc]
                              refine seq_n hK137 ?_
                              refine w_kill ?_
                              exact cut_n hK136 ⟨_, (Option.some.inj h).symm, rfl, (hS.sel 2 [] (by decide))⟩
                            · try simp only [W, EE, reduceIte, Nat.reduceAdd, Nat.reduceBEq, Bool.false_eq_true, hS.var 0 rfl, hS.var 1 rfl, hc]
                              refine seq_n hK137 ?_
                              refine w_kill ?_
                              exact cut_n hK136 ⟨_, (Option.some.inj h).symm, rfl, (hS.sel 2 [] (by decide))⟩
                        · obtain ⟨x133, ey, rfl, hS⟩ := hq; obtain rfl := ey.symm
                          replace h := g135
                          try dsimp only at h
                          refine seq_n hK132 ?_
                          refine w_if ?_
                          simp only [W]
                          refine w_cnd h (fun hc h => ?_) (fun hc h => ?_)
                          · refine w_seq fun K138 hK138 => ?_
                            refine w_reg gC ?_
                            try simp only [W, Nat.reduceAdd]
                            refine seq_n hK138 ?_
                            refine w_ret ?_
                            refine seq_r hK36 ?_
                            try obtain rfl := Option.some.inj h
                            obtain rfl := Option.some.inj g34
                            have h : (some false : Option (Bool)) = some false := rfl
                            refine cut_r hK35 ?_
                            refine seq_r hK31 ?_
                            refine fin_r1 hK0 rfl ?_
                            try obtain rfl := Option.some.inj h
                            exact hP _ hS
                          · refine w_skip ?_
                            refine seq_n hK36 ?_
                            refine w_kill ?_
                            exact cut_n hK35 ⟨(Option.some.inj h).symm, rfl, hS⟩
          · refine w_skip ?_
            refine seq_n hK36 ?_
            refine w_kill ?_
            exact cut_n hK35 ⟨(Option.some.inj h).symm, rfl, (hS.sel 1 [] (by decide))⟩
        · obtain ⟨rfl, rfl, hS⟩ := hq
          replace h := g34
          try dsimp only at h
          refine seq_n hK31 ?_
          refine w_seq fun K141 hK141 => ?_
          refine w_reg gC ?_
          try simp only [W, Nat.reduceAdd]
          refine w_call h fun b142 hb142 h => ?_
          refine spec_DrawRangeOf_w hb142 hS fun v143 qv143 H hS => ?_
          try simp only [W]
          refine seq_n hK141 ?_
          refine w_seq fun K145 hK145 => ?_
          refine w_regF (fz := [(1, [([138, 19, 136], [.sl [.sc, .sc, .sc]])])]) gC ?_
          try simp only [W, Nat.reduceAdd, Nat.reduceBEq]
          refine FZ_own 0 hS rfl qv143 rfl (fun _ _ => by simp [takeE, takeT, takeC, plainA, e_Seen]) (fun _ => rfl) fun H hsame hS => ?_
          simp only [W, hsame, if_true]
          try simp only [W, EE, EN, reduceIte, Nat.reduceAdd, Nat.reduceLeDiff, Nat.reduceBEq, Nat.reduceMul, Bool.false_eq_true]
          refine w_call h fun b146 hb146 h => ?_
          obtain ⟨b147, b148, b149⟩ := b146
          try dsimp only at h
          refine impl_RangeOf_w hb146 hS fun H hS => ?_
          try simp only [W, Nat.reduceAdd, Nat.reduceBEq]
          refine seq_n hK145 ?_
          refine w_seq fun K150 hK150 => ?_
          refine w_reg gC ?_
          try simp only [W, Nat.reduceAdd]
          refine w_call h fun b151 hb151 h => ?_
          obtain ⟨b152, b153, b154⟩ := b151
          try dsimp only at h
          refine spec_RangeOf_w hb151 hS fun H hS => ?_
          try simp only [W]
          refine seq_n hK150 ?_
          refine w_seq fun K155 hK155 => ?_
          refine w_reg gC ?_
          try simp only [W, EE, Nat.reduceAdd]
          rw [b_beql _ _ _ _ (h := rfl) rfl, resV_s]
          try simp only [W]
          refine w_grdT h (fun hc h => ?_) (fun hc h => ?_)
          · try simp only [W, EE, reduceIte, hc]
            refine w_grdT h (fun hc h => ?_) (fun hc h => ?_)
            · try simp only [W, EE, reduceIte, hc]
              refine w_grdT h (fun hc h => ?_) (fun hc h => ?_)
              · try simp only [W, hc]
                refine w_grdT h (fun hc h => ?_) (fun hc h => ?_)
                · try simp only [W, reduceIte, hc]
                  refine seq_n hK155 ?_
                  refine w_ret ?_
                  refine fin_r1 hK0 rfl ?_
                  try obtain rfl := Option.some.inj h
                  exact hP _ hS
                · try simp only [W, EE, reduceIte, Bool.false_eq_true, hc]
                  refine seq_n hK155 ?_
                  refine w_ret ?_
                  refine fin_r1 hK0 rfl ?_
                  try obtain rfl := Option.some.inj h
                  exact hP _ hS
              · try simp only [W, hc]
                refine seq_n hK155 ?_
                refine w_ret ?_
                refine fin_r1 hK0 rfl ?_
                try obtain rfl := Option.some.inj h
                exact hP _ hS
            · try simp only [W, hc]
              refine seq_n hK155 ?_
              refine w_ret ?_
              refine fin_r1 hK0 rfl ?_
              try obtain rfl := Option.some.inj h
              exact hP _ hS
          · try simp only [W, hc]
            refine seq_n hK155 ?_
            refine w_ret ?_
            refine fin_r1 hK0 rfl ?_
            try obtain rfl := Option.some.inj h
            exact hP _ hS
end Go.VxW
