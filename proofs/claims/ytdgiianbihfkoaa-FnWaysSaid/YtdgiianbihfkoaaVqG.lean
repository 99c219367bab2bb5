import Derived.Test.YtdgiianbihfkoaaVyGF
import Derived.Test.YtdgiianbihfkoaaProg
import Derived.Test.YtdgiianbihfkoaaVaE
import Derived.KernelRfl
open Go Go.VS
set_option maxRecDepth 8000
set_option maxHeartbeats 4000000
namespace Go.VxW
def e_L1Cur (x : L1Cur) : AV := .agg [.fz (x.Code.map (AV.int .u8)), .int .i64 x.At, .int .u64 x.Seed]
def e_Way (x : Way) : AV := .agg [.int .i64 x.Delay, .int .i64 x.Every]
def E : TEnv := fun t => match t with
  | 3 => some { sz := 1, agg := false, zero := [AV.int IntKind.i64 0], bytes := 8, und := UD.it IntKind.i64, eqok := true }
  | 4 => some { sz := 1, agg := false, zero := [AV.bool false], bytes := 1, und := UD.bl, eqok := true }
  | 5 => some { sz := 1, agg := false, zero := [AV.int IntKind.u8 0], bytes := 1, und := UD.it IntKind.u8, eqok := true }
  | 22 => some { sz := 1, agg := false, zero := [AV.nil], bytes := 24, und := UD.sl 5, eqok := true }
  | 23 => some { sz := 1, agg := false, zero := [AV.nil], bytes := 24, und := UD.sl 163, eqok := true }
  | 24 => some { sz := 1, agg := false, zero := [AV.nil], bytes := 24, und := UD.sl 3, eqok := true }
  | 150 => some { sz := 1, agg := false, zero := [AV.nilp], bytes := 8, und := UD.pt, eqok := true }
  | 151 => some { sz := 1, agg := false, zero := [AV.int IntKind.u64 0], bytes := 8, und := UD.it IntKind.u64, eqok := true }
  | 153 => some { sz := 3, agg := true, zero := [AV.nil, AV.int IntKind.i64 0, AV.int IntKind.u64 0], bytes := 40, und := UD.st [(0, 22), (1, 3), (2, 151)], eqok := true }
  | 156 => some { sz := 1, agg := false, zero := [AV.undef], bytes := 8, und := UD.ot, eqok := true }
  | 163 => some { sz := 2, agg := true, zero := [AV.int IntKind.i64 0, AV.int IntKind.i64 0], bytes := 16, und := UD.st [(0, 3), (1, 3)], eqok := true }
  | 215 => some { sz := 1, agg := false, zero := [AV.undef], bytes := 8, und := UD.ot, eqok := true }
  | _ => none
def pol : FuncId → FPol := fun f => match f with
  | 3 => { rsh := [[.sc]], loops := [(0, { keep := [18, 24, 156, 157] })], blocks := [(0, [])], regs := [(9, [], [3]), (14, [], [2]), (15, [], [2]), (19, [], [3])], frz := [(6, [], some [1, 5, 6, 7, 8, 58]), (8, [], some [1, 5, 6, 7, 64]), (11, [], some [1, 101]), (16, [], some [16, 17, 18, 19, 20, 134]), (18, [], some [16, 17, 18, 19, 139]), (20, [], some [18, 24, 154])], cnds := [(64, [1]), (139, [])] }
  | 15 => { rsh := [[.sl [.sc, .sc]], [.sl [.sc]]], loops := [(0, { keep := [4, 5, 6, 13, 14] })], blocks := [(0, [4, 5, 6])], fz := [(9, [(3, [([26], [.sl [.sc]])])])], cnds := [(23, [5, 6])] }
  | 16 => { rsh := [[.sc], [.sc]], frz := [(1, [], some [0, 1, 19])] }
  | 17 => { rsh := [[.sc], [.sc]], frz := [(1, [], some [0, 1, 20])] }
  | 18 => { rsh := [[.sc]], loops := [(0, { keep := [3, 6, 7, 8] })], blocks := [(0, [3])] }
  | 19 => { rsh := [[.sl [.sc]], [.sc], [.sc]], loops := [(0, { keep := [2, 7, 22, 23] }), (2, { keep := [2, 7, 8, 9, 22, 23, 27, 28] })], blocks := [(3, [2, 7, 8, 9, 22, 23, 27, 28]), (2, [2, 7, 8, 22, 23]), (0, [2, 7])], frz := [(1, [], some [1, 2, 18])], cnds := [(37, [2, 7, 8, 9, 22, 23, 27, 28])] }
  | 20 => { rsh := [[.sl [.sc, .sc]], [.sc]], fz := [(2, [(4, [([11], [.sl [.sc]])])])] }
  | 21 => { rsh := [[.sl [.sc]], [.sc], [.sc]], frz := [(1, [], some [0, 1, 15])] }
  | 22 => { rsh := [[.sc]], loops := [(0, { keep := [0, 1, 12, 13] })], blocks := [(0, [])] }
  | 140 => { rsh := [[.sl [.sc, .sc]]], loops := [(0, { keep := [0, 3, 4] })], blocks := [(0, [0, 3])], fz := [(7, [(3, [([25], [.sl [.sc]])]), (6, [([28], [.sl [.sc]])])])], cnds := [(22, [3])] }
  | 141 => { rsh := [[.sc]], cnds := [(11, [1, 5])] }
  | 142 => { rsh := [[.sc]] }
  | 143 => { rsh := [[.sc]] }
  | 144 => { rsh := [[.sc]] }
  | 145 => { rsh := [[.sc]] }
  | 146 => { rsh := [[.sc]] }
  | 147 => { rsh := [[.sc]] }
  | 148 => { rsh := [[.sc]], loops := [(0, { keep := [1, 5, 8, 9, 10] })], blocks := [(1, [1, 5, 8, 9, 10]), (0, [5])], cnds := [(19, [1, 5, 8, 9, 10])] }
  | 149 => { rsh := [[.sc]], loops := [(0, { keep := [0, 5, 6, 7] })], blocks := [(0, [0])], frz := [(4, [], some [0, 5, 6, 7, 20])] }
  | 150 => { rsh := [[.sc]], loops := [(0, { keep := [1, 2, 9, 10, 11] })], blocks := [(0, [])] }
  | 151 => { rsh := [[.sc]], loops := [(0, { keep := [0, 5, 8, 9, 10] })], blocks := [(1, [0, 5, 8, 9, 10]), (0, [5])], cnds := [(16, [0, 5, 8, 9, 10])] }
  | 152 => { rsh := [[.sc]] }
  | 153 => { rsh := [[.sc]] }
  | 154 => { rsh := [[.sl [.sc]]], loops := [(0, { keep := [0, 1, 5] }), (2, { keep := [0, 1, 5, 6, 17, 18, 19] })], blocks := [(3, [0, 1, 5, 6, 17, 18, 19]), (2, [0, 1, 5, 6]), (0, [5])], cnds := [(48, [0, 1, 5, 6, 17, 18, 19])] }
  | 210 => { rsh := [[.sc]] }
  | 252 => { rsh := [[.sc]], cnds := [(13, [0, 3])] }
  | 253 => { rsh := [[.sc]] }
  | 254 => { rsh := [[.sc]] }
  | 255 => { rsh := [[.sc]], loops := [(0, { keep := [0, 1, 7, 8] })], blocks := [(0, [])] }
  | 272 => { rsh := [[.sc]], loops := [(0, { keep := [0, 1, 7, 8] })], blocks := [(0, [])] }
  | _ => {}
noncomputable def code : FuncId → Option Func := fun f => match f with
  | 3 => some Go.Proofs.Try.f3
  | 15 => some Go.Proofs.Try.f15
  | 16 => some Go.Proofs.Try.f16
  | 17 => some Go.Proofs.Try.f17
  | 18 => some Go.Proofs.Try.f18
  | 19 => some Go.Proofs.Try.f19
  | 20 => some Go.Proofs.Try.f20
  | 21 => some Go.Proofs.Try.f21
  | 22 => some Go.Proofs.Try.f22
  | 140 => some Go.Proofs.Try.f140
  | 141 => some Go.Proofs.Try.f141
  | 142 => some Go.Proofs.Try.f142
  | 143 => some Go.Proofs.Try.f143
  | 144 => some Go.Proofs.Try.f144
  | 145 => some Go.Proofs.Try.f145
  | 146 => some Go.Proofs.Try.f146
  | 147 => some Go.Proofs.Try.f147
  | 148 => some Go.Proofs.Try.f148
  | 149 => some Go.Proofs.Try.f149
  | 150 => some Go.Proofs.Try.f150
  | 151 => some Go.Proofs.Try.f151
  | 152 => some Go.Proofs.Try.f152
  | 153 => some Go.Proofs.Try.f153
  | 154 => some Go.Proofs.Try.f154
  | 210 => some Go.Proofs.Try.f210
  | 252 => some Go.Proofs.Try.f252
  | 253 => some Go.Proofs.Try.f253
  | 254 => some Go.Proofs.Try.f254
  | 255 => some Go.Proofs.Try.f255
  | 272 => some Go.Proofs.Try.f272
  | _ => none
noncomputable def C : Ctx := ⟨E, pol, code, fun _ _ _ _ => False⟩
theorem gC : Good C := ⟨fun _ _ _ _ _ _ h => h, fun _ _ _ _ h => h.elim⟩
theorem cE : C.E = E := rfl
theorem E3 : E 3 = some { sz := 1, agg := false, zero := [AV.int IntKind.i64 0], bytes := 8, und := UD.it IntKind.i64, eqok := true } := rfl
theorem E4 : E 4 = some { sz := 1, agg := false, zero := [AV.bool false], bytes := 1, und := UD.bl, eqok := true } := rfl
theorem E5 : E 5 = some { sz := 1, agg := false, zero := [AV.int IntKind.u8 0], bytes := 1, und := UD.it IntKind.u8, eqok := true } := rfl
theorem E22 : E 22 = some { sz := 1, agg := false, zero := [AV.nil], bytes := 24, und := UD.sl 5, eqok := true } := rfl
theorem E23 : E 23 = some { sz := 1, agg := false, zero := [AV.nil], bytes := 24, und := UD.sl 163, eqok := true } := rfl
theorem E24 : E 24 = some { sz := 1, agg := false, zero := [AV.nil], bytes := 24, und := UD.sl 3, eqok := true } := rfl
theorem E150 : E 150 = some { sz := 1, agg := false, zero := [AV.nilp], bytes := 8, und := UD.pt, eqok := true } := rfl
theorem E151 : E 151 = some { sz := 1, agg := false, zero := [AV.int IntKind.u64 0], bytes := 8, und := UD.it IntKind.u64, eqok := true } := rfl
theorem E153 : E 153 = some { sz := 3, agg := true, zero := [AV.nil, AV.int IntKind.i64 0, AV.int IntKind.u64 0], bytes := 40, und := UD.st [(0, 22), (1, 3), (2, 151)], eqok := true } := rfl
theorem E156 : E 156 = some { sz := 1, agg := false, zero := [AV.undef], bytes := 8, und := UD.ot, eqok := true } := rfl
theorem E163 : E 163 = some { sz := 2, agg := true, zero := [AV.int IntKind.i64 0, AV.int IntKind.i64 0], bytes := 16, und := UD.st [(0, 3), (1, 3)], eqok := true } := rfl
theorem E215 : E 215 = some { sz := 1, agg := false, zero := [AV.undef], bytes := 8, und := UD.ot, eqok := true } := rfl
theorem EE : type_of% (And.intro @cE <| And.intro @E3 <| And.intro @E4 <| And.intro @E5 <| And.intro @E22 <| And.intro @E23 <| And.intro @E24 <| And.intro @E150 <| And.intro @E151 <| And.intro @E153 <| And.intro @E156 <| And.intro @E163 @E215) := And.intro @cE <| And.intro @E3 <| And.intro @E4 <| And.intro @E5 <| And.intro @E22 <| And.intro @E23 <| And.intro @E24 <| And.intro @E150 <| And.intro @E151 <| And.intro @E153 <| And.intro @E156 <| And.intro @E163 @E215
theorem e_L1Cur_d (x : L1Cur) : e_L1Cur x = .agg [.fz (x.Code.map (AV.int .u8)), .int .i64 x.At, .int .u64 x.Seed] := rfl
theorem e_Way_d (x : Way) : e_Way x = .agg [.int .i64 x.Delay, .int .i64 x.Every] := rfl
theorem EN : type_of% (And.intro @e_L1Cur_d <| And.intro @e_Way_d @killB_n) := And.intro @e_L1Cur_d <| And.intro @e_Way_d @killB_n
theorem spec_l1Cur_next_w {a0 : L1Cur} {i0 : Nat} {w0 : Nat} {r : (Int × L1Cur)} (h : spec_l1Cur_next a0 = some r) {F : List It} {H : Heap} (hS : Own H (⟨.ptr i0 w0 0 0, 3, [.agg [.fz (a0.Code.map (AV.int .u8)), .int .i64 a0.At, .int .u64 a0.Seed]]⟩ :: F)) {P : AV → Heap → Prop} (hP : ∀ H', Own H' (⟨.ptr i0 w0 0 0, 3, [.agg [.fz (r.2.Code.map (AV.int .u8)), .int .i64 r.2.At, .int .u64 r.2.Seed]]⟩ :: F) → P (.int .i64 r.1) H') : ACall C 252 [.ptr i0 w0 0 0] H P := by
  refine acall_of gC (res := [.tmp 2]) (n := 62) rfl rfl rfl rfl fun K0 hK0 => ?_
  simp only [W, Nat.reduceSub, Nat.reduceAdd, List.replicate]
  unfold spec_l1Cur_next at h
  refine w_seq fun K1 hK1 => ?_
  refine w_reg gC ?_
  try simp only [W, Nat.reduceAdd]
  refine seq_n hK1 ?_
  refine w_seq fun K2 hK2 => ?_
  refine w_reg gC ?_
  try simp only [W, Nat.reduceAdd]
  refine seq_n hK2 ?_
  refine w_seq fun K3 hK3 => ?_
  refine w_seq fun K4 hK4 => ?_
  refine w_draw0 gC (by kernel_rfl) ?_
  try simp only [W, EE, Nat.reduceAdd, Nat.reduceBEq, hS.var 0 rfl]
  refine seq_n hK4 ?_
  obtain ⟨y6, h, g7⟩ := Option.bind_eq_some_iff.1 h
  refine w_join gC (fun s H => ∃ x5 : Int, y6 = (x5) ∧ s = [.ptr i0 w0 0 0, u, u, .int .i64 x5, u, u, u, u, u, u, u, u, u, u, u, u, u, u, u, u, u, u, u, u, u, u, u, u, u, u, u, u, u, u, u, u, u, u, u, u, u, u, u, u, u, u, u, u, u, u, u, u, u, u, u, u, u, u, u, u, u, u] ∧ Own H (⟨.ptr i0 w0 0 0, 3, [.agg [.fz (a0.Code.map (AV.int .u8)), .int .i64 a0.At, .int .u64 a0.Seed]]⟩ :: F)) (fun K8 hK8 => ?_) (fun s H hq => ?_)
  · refine w_seq fun K9 hK9 => ?_
    refine w_if ?_
    simp only [W]
    refine w_cnd h (fun hc h => ?_) (fun hc h => ?_)
    · refine w_draw0 gC (by kernel_rfl) ?_
      try simp only [W, EE, Nat.reduceAdd, Nat.reduceBEq, hS.var 0 rfl]
      refine w_fz rfl rfl rfl (fun _ => rfl) h fun b10 hb10 h => ?_
      try simp only [W, EE]
      refine seq_n hK9 ?_
      refine w_kill ?_
      exact cut_n hK8 ⟨_, (Option.some.inj h).symm, rfl, hS⟩
    · refine w_skip ?_
      refine seq_n hK9 ?_
      refine w_kill ?_
      exact cut_n hK8 ⟨_, (Option.some.inj h).symm, rfl, hS⟩
  · obtain ⟨x5, ey, rfl, hS⟩ := hq; obtain rfl := ey.symm
    replace h := g7
    try dsimp only at h
    refine seq_n hK3 ?_
    refine w_seq fun K11 hK11 => ?_
    refine w_reg gC ?_
    try simp only [W, EE, Nat.reduceAdd, Nat.reduceBEq, hS.var 0 rfl]
    refine w_stv (a := .int .i64 (IntKind.i64.wrap (a0.At + 1))) (y' := .agg [.fz (a0.Code.map (AV.int .u8)), .int .i64 (IntKind.i64.wrap (a0.At + 1)), .int .u64 a0.Seed]) 0 hS rfl rfl rfl rfl rfl rfl rfl rfl fun H hS => ?_
    try simp only [W]
    refine seq_n hK11 ?_
    refine w_seq fun K12 hK12 => ?_
    refine w_reg gC ?_
    try simp only [W, EE, Nat.reduceAdd, Nat.reduceBEq, hS.var 0 rfl]
    refine w_stv (a := .int .u64 (IntKind.u64.wrap ((IntKind.u64.wrap ((IntKind.u64.wrap (a0.Seed * 6364136223846793005)) + (IntKind.u64.wrap x5))) + 1442695040888963407))) (y' := .agg [.fz (a0.Code.map (AV.int .u8)), .int .i64 (IntKind.i64.wrap (a0.At + 1)), .int .u64 (IntKind.u64.wrap ((IntKind.u64.wrap ((IntKind.u64.wrap (a0.Seed * 6364136223846793005)) + (IntKind.u64.wrap x5))) + 1442695040888963407))]) 0 hS rfl rfl rfl rfl rfl rfl rfl rfl fun H hS => ?_
    try simp only [W]
    refine seq_n hK12 ?_
    refine w_seq fun K13 hK13 => ?_
    refine w_seq fun K14 hK14 => ?_
    refine w_draw0 gC (by kernel_rfl) ?_
    try simp only [W, EE, Nat.reduceAdd, Nat.reduceBEq, hS.var 0 rfl]
    refine seq_n hK14 ?_
    refine w_if ?_
    simp only [W]
    refine w_cnd h (fun hc h => ?_) (fun hc h => ?_)
    · refine w_seq fun K15 hK15 => ?_
      refine w_reg gC ?_
      try simp only [W, Nat.reduceAdd]
      refine seq_n hK15 ?_
      refine w_ret ?_
      refine seq_r hK13 ?_
      refine fin_r1 hK0 rfl ?_
      try obtain rfl := Option.some.inj h
      exact hP _ hS
    · refine w_skip ?_
      refine seq_n hK13 ?_
      refine w_seq fun K16 hK16 => ?_
      refine w_reg gC ?_
      try simp only [W, EE, Nat.reduceAdd, Nat.reduceBEq, hS.var 0 rfl]
      rw [sr_lit _ _ _ rfl, Option.map_some, resV_s]
      try simp only [W, EE]
      refine seq_n hK16 ?_
      refine w_ret ?_
      refine fin_r1 hK0 rfl ?_
      try obtain rfl := Option.some.inj h
      exact hP _ hS
theorem spec_l1Cur_pick_w {a0 : L1Cur} {a1 : Int} {i0 : Nat} {w0 : Nat} {r : (Int × L1Cur)} (h : spec_l1Cur_pick a0 a1 = some r) {F : List It} {H : Heap} (hS : Own H (⟨.ptr i0 w0 0 0, 3, [.agg [.fz (a0.Code.map (AV.int .u8)), .int .i64 a0.At, .int .u64 a0.Seed]]⟩ :: F)) {P : AV → Heap → Prop} (hP : ∀ H', Own H' (⟨.ptr i0 w0 0 0, 3, [.agg [.fz (r.2.Code.map (AV.int .u8)), .int .i64 r.2.At, .int .u64 r.2.Seed]]⟩ :: F) → P (.int .i64 r.1) H') : ACall C 141 [.ptr i0 w0 0 0, .int .i64 a1] H P := by
  refine acall_of gC (res := [.tmp 4]) (n := 20) rfl rfl rfl rfl fun K0 hK0 => ?_
  simp only [W, Nat.reduceSub, Nat.reduceAdd, List.replicate]
  unfold spec_l1Cur_pick at h
  refine w_seq fun K1 hK1 => ?_
  refine w_reg gC ?_
  try simp only [W, Nat.reduceAdd]
  refine seq_n hK1 ?_
  refine w_seq fun K2 hK2 => ?_
  refine w_seq fun K3 hK3 => ?_
  refine w_reg gC ?_
  try simp only [W, EE, Nat.reduceAdd]
  refine seq_n hK3 ?_
  refine w_if ?_
  simp only [W]
  refine w_cnd h (fun hc h => ?_) (fun hc h => ?_)
  · refine w_seq fun K4 hK4 => ?_
    refine w_reg gC ?_
    try simp only [W, Nat.reduceAdd]
    refine seq_n hK4 ?_
    refine w_ret ?_
    refine seq_r hK2 ?_
    refine fin_r1 hK0 rfl ?_
    try obtain rfl := Option.some.inj h
    exact hP _ hS
  · refine w_skip ?_
    refine seq_n hK2 ?_
    refine w_seq fun K5 hK5 => ?_
    refine w_reg gC ?_
    try simp only [W, Nat.reduceAdd]
    refine w_call h fun b6 hb6 h => ?_
    obtain ⟨b7, b8⟩ := b6
    try dsimp only at h
    refine spec_l1Cur_next_w hb6 hS fun H hS => ?_
    try simp only [W]
    refine seq_n hK5 ?_
    refine w_seq fun K9 hK9 => ?_
    refine w_seq fun K10 hK10 => ?_
    refine w_reg gC ?_
    try simp only [W, EE, Nat.reduceAdd]
    refine seq_n hK10 ?_
    obtain ⟨y15, h, g16⟩ := Option.bind_eq_some_iff.1 h
    refine w_join gC (fun s H => ∃ x11 : Int, ∃ x12 : List Int, ∃ x13 : Int, ∃ x14 : Int, y15 = (x11, x12, x13, x14) ∧ s = [u, .int .i64 a1, u, u, u, .int .i64 x11, u, u, u, u, u, u, u, u, u, u, u, u, u, u] ∧ Own H (⟨.ptr i0 w0 0 0, 3, [.agg [.fz (x12.map (AV.int .u8)), .int .i64 x13, .int .u64 x14]]⟩ :: F)) (fun K17 hK17 => ?_) (fun s H hq => ?_)
    · refine w_seq fun K18 hK18 => ?_
      refine w_if ?_
      simp only [W]
      refine w_cnd h (fun hc h => ?_) (fun hc h => ?_)
      · refine w_reg gC ?_
        try simp only [W, EE, Nat.reduceAdd]
        refine w_call h fun b19 hb19 h => ?_
        obtain ⟨b20, b21⟩ := b19
        try dsimp only at h
        refine spec_l1Cur_next_w hb19 hS fun H hS => ?_
        try simp only [W, EE]
        refine seq_n hK18 ?_
        refine w_kill ?_
        exact cut_n hK17 ⟨_, _, _, _, (Option.some.inj h).symm, rfl, hS⟩
      · refine w_skip ?_
        refine seq_n hK18 ?_
        refine w_kill ?_
        exact cut_n hK17 ⟨_, _, _, _, (Option.some.inj h).symm, rfl, hS⟩
    · obtain ⟨x11, x12, x13, x14, rfl, rfl, hS⟩ := hq
      replace h := g16
      try dsimp only at h
      refine seq_n hK9 ?_
      refine w_seq fun K22 hK22 => ?_
      refine w_reg gC ?_
      try simp only [W, EE, Nat.reduceAdd]
      refine w_num _ h fun x23 hx23 h => ?_
      try simp only [W]
      refine seq_n hK22 ?_
      refine w_ret ?_
      refine fin_r1 hK0 rfl ?_
      try obtain rfl := Option.some.inj h
      exact hP _ hS
theorem spec_l1Cur_one_w {a0 : L1Cur} {a1 : Int} {i0 : Nat} {w0 : Nat} {r : (Bool × L1Cur)} (h : spec_l1Cur_one a0 a1 = some r) {F : List It} {H : Heap} (hS : Own H (⟨.ptr i0 w0 0 0, 3, [.agg [.fz (a0.Code.map (AV.int .u8)), .int .i64 a0.At, .int .u64 a0.Seed]]⟩ :: F)) {P : AV → Heap → Prop} (hP : ∀ H', Own H' (⟨.ptr i0 w0 0 0, 3, [.agg [.fz (r.2.Code.map (AV.int .u8)), .int .i64 r.2.At, .int .u64 r.2.Seed]]⟩ :: F) → P (.bool r.1) H') : ACall C 142 [.ptr i0 w0 0 0, .int .i64 a1] H P := by
  refine acall_of gC (res := [.tmp 4]) (n := 9) rfl rfl rfl rfl fun K0 hK0 => ?_
  simp only [W, Nat.reduceSub, Nat.reduceAdd, List.replicate]
  unfold spec_l1Cur_one at h
  refine w_seq fun K1 hK1 => ?_
  refine w_reg gC ?_
  try simp only [W, Nat.reduceAdd]
  refine seq_n hK1 ?_
  refine w_seq fun K2 hK2 => ?_
  refine w_reg gC ?_
  try simp only [W, Nat.reduceAdd]
  refine w_call h fun b3 hb3 h => ?_
  obtain ⟨b4, b5⟩ := b3
  try dsimp only at h
  refine spec_l1Cur_pick_w hb3 hS fun H hS => ?_
  try simp only [W, EE]
  refine seq_n hK2 ?_
  refine w_ret ?_
  refine fin_r1 hK0 rfl ?_
  try obtain rfl := Option.some.inj h
  exact hP _ hS
theorem spec_l1Cur_among_w {a0 : L1Cur} {a1 : List Int} {i0 : Nat} {w0 : Nat} {r : (Int × L1Cur)} (h : spec_l1Cur_among a0 a1 = some r) {F : List It} {H : Heap} (hS : Own H (⟨.ptr i0 w0 0 0, 3, [.agg [.fz (a0.Code.map (AV.int .u8)), .int .i64 a0.At, .int .u64 a0.Seed]]⟩ :: F)) {P : AV → Heap → Prop} (hP : ∀ H', Own H' (⟨.ptr i0 w0 0 0, 3, [.agg [.fz (r.2.Code.map (AV.int .u8)), .int .i64 r.2.At, .int .u64 r.2.Seed]]⟩ :: F) → P (.int .i64 r.1) H') : ACall C 143 [.ptr i0 w0 0 0, .fz (a1.map (AV.int .i64))] H P := by
  refine acall_of gC (res := [.tmp 4]) (n := 12) rfl rfl rfl rfl fun K0 hK0 => ?_
  simp only [W, Nat.reduceSub, Nat.reduceAdd, List.replicate]
  unfold spec_l1Cur_among at h
  refine w_seq fun K1 hK1 => ?_
  refine w_reg gC ?_
  try simp only [W, Nat.reduceAdd]
  refine seq_n hK1 ?_
  refine w_seq fun K2 hK2 => ?_
  refine w_reg gC ?_
  try simp only [W, EE, Nat.reduceAdd]
  refine w_call h fun b3 hb3 h => ?_
  obtain ⟨b4, b5⟩ := b3
  try dsimp only at h
  refine spec_l1Cur_pick_w hb3 hS fun H hS => ?_
  try simp only [W, EE]
  refine w_fz rfl rfl rfl (fun _ => rfl) h fun b6 hb6 h => ?_
  try simp only [W, EE]
  refine seq_n hK2 ?_
  refine w_ret ?_
  refine fin_r1 hK0 rfl ?_
  try obtain rfl := Option.some.inj h
  exact hP _ hS
theorem spec_l1Cur_ways_w {a0 : L1Cur} {i0 : Nat} {w0 : Nat} {r : (List Way × L1Cur)} (h : spec_l1Cur_ways a0 = some r) {F : List It} {H : Heap} (hS : Own H (⟨.ptr i0 w0 0 0, 3, [.agg [.fz (a0.Code.map (AV.int .u8)), .int .i64 a0.At, .int .u64 a0.Seed]]⟩ :: F)) {P : AV → Heap → Prop} (hP : ∀ v71 : AV, isSl v71 → ∀ H', Own H' (⟨v71, 2, r.1.map e_Way⟩ :: ⟨.ptr i0 w0 0 0, 3, [.agg [.fz (r.2.Code.map (AV.int .u8)), .int .i64 r.2.At, .int .u64 r.2.Seed]]⟩ :: F) → P (v71) H') : ACall C 140 [.ptr i0 w0 0 0] H P := by
  refine acall_of gC (res := [.tmp 2]) (n := 33) rfl rfl rfl rfl fun K0 hK0 => ?_
  simp only [W, Nat.reduceSub, Nat.reduceAdd, List.replicate]
  unfold spec_l1Cur_ways at h
  refine w_seq fun K1 hK1 => ?_
  refine w_reg gC ?_
  try simp only [W, Nat.reduceAdd]
  refine seq_n hK1 ?_
  refine w_seq fun K2 hK2 => ?_
  refine w_reg gC ?_
  try simp only [W, Nat.reduceAdd]
  refine seq_n hK2 ?_
  refine w_seq fun K3 hK3 => ?_
  refine w_seq fun K4 hK4 => ?_
  refine w_reg gC ?_
  try simp only [W, Nat.reduceAdd]
  refine w_call h fun b5 hb5 h => ?_
  obtain ⟨b6, b7⟩ := b5
  try dsimp only at h
  refine spec_l1Cur_pick_w hb5 hS fun H hS => ?_
  try simp only [W, EE]
  refine seq_n hK4 ?_
  obtain ⟨y20, hw21, g27⟩ := Option.bind_eq_some_iff.1 h
  refine w_join gC (fun s H => ∃ x15 : List Way, ∃ x17 : List Int, ∃ x18 : Int, ∃ x19 : Int, y20 = (x15, x17, x18, x19) ∧ ∃ v16 : AV, isSl v16 ∧ s = [.ptr i0 w0 0 0, u, u, v16, u, u, u, u, u, u, u, u, u, u, u, u, u, u, u, u, u, u, u, u, u, u, u, u, u, u, u, u, u] ∧ Own H (⟨v16, 2, x15.map e_Way⟩ :: ⟨.ptr i0 w0 0 0, 3, [.agg [.fz (x17.map (AV.int .u8)), .int .i64 x18, .int .u64 x19]]⟩ :: F)) (fun K22 hK22 => ?_) (fun s H hq => ?_)
  · refine w_blk fun K23 hK23 => ?_
    refine w_loop gC hw21 (fun x s H => match x with | (x8, x11, x12, x13, x14) => ∃ v9 : AV, isSl v9 ∧ s = [.ptr i0 w0 0 0, u, u, v9, .int .i64 x11, u, u, u, u, u, u, u, u, u, u, u, u, u, u, u, u, u, u, u, u, u, u, u, u, u, u, u, u] ∧ Own H (⟨v9, 2, x8.map e_Way⟩ :: ⟨.ptr i0 w0 0 0, 3, [.agg [.fz (x12.map (AV.int .u8)), .int .i64 x13, .int .u64 x14]]⟩ :: F)) ⟨_, isSl_nil, rfl, (hS.nil_ 2)⟩ (fun x y26 s H h hd25 hi K24 hK24 => ?_)
    obtain ⟨x8, x11, x12, x13, x14⟩ := x
    try dsimp only at hi
    obtain ⟨v9, qv9, rfl, hS⟩ := hi
    simp only [spec_l1Cur_ways_l0] at h
    refine w_seq fun K28 hK28 => ?_
    refine w_seq fun K29 hK29 => ?_
    refine w_reg gC ?_
    try simp only [W, EE, Nat.reduceAdd]
    refine seq_n hK29 ?_
    refine w_if ?_
    simp only [W]
    refine w_cnd h (fun hc h => ?_) (fun hc h => ?_)
    · refine w_skip ?_
      refine seq_n hK28 ?_
      refine w_seq fun K30 hK30 => ?_
      refine w_blk fun K31 hK31 => ?_
      refine w_reg gC ?_
      try simp only [W, Nat.reduceAdd]
      refine w_call h fun b32 hb32 h => ?_
      obtain ⟨b33, b34⟩ := b32
      try dsimp only at h
      refine spec_l1Cur_pick_w hb32 (hS.sel 2 [1, 0] (by decide)) fun H hS => ?_
      try simp only [W]
      refine w_call h fun b35 hb35 h => ?_
      obtain ⟨b36, b37⟩ := b35
      try dsimp only at h
      refine spec_l1Cur_pick_w hb35 hS fun H hS => ?_
      try simp only [W, EE]
      refine w_bld rfl rfl rfl rfl rfl ?_
      try simp only [W]
      refine w_lit (el := ([(⟨b33, (IntKind.i64.wrap (1 + b36))⟩ : Way)] : List Way).map e_Way) hS rfl rfl rfl rfl rfl rfl rfl fun v38 H qv38 hS => ?_
      try simp only [W, EE]
      refine w_appV (l := x8) (c := e_Way) 2 hS rfl qv9 rfl rfl rfl (hS.elems 0 rfl qv38) (fun _ => rfl) rfl h fun v41 H x40 qv41 hm h hS => ?_
      try simp only [W]
      refine blk_n0 hK31 ?_
      refine seq_n hK30 ?_
      refine w_reg gC ?_
      try simp only [W, EE, Nat.reduceAdd]
      exact lp_n hK24 h ⟨_, qv41, rfl, (hS.sel 3 [2, 1] (by decide))⟩
    · refine w_exit ?_
      refine seq_x hK28 ?_
      try obtain rfl := Option.some.inj h
      obtain rfl := hd25 _ rfl
      have h : (some (x8, x12, x13, x14) : Option ((List Way) × (List Int) × Int × Int)) = some (x8, x12, x13, x14) := rfl
      refine lp_x hK24 ?_
      refine blk_e hK23 ?_
      exact cut_n hK22 ⟨_, _, _, _, (Option.some.inj h).symm, _, qv9, rfl, hS⟩
  · obtain ⟨x15, x17, x18, x19, rfl, v16, qv16, rfl, hS⟩ := hq
    replace h := g27
    try dsimp only at h
    refine seq_n hK3 ?_
    refine w_seq fun K45 hK45 => ?_
    refine w_seq fun K46 hK46 => ?_
    refine w_reg gC ?_
    try simp only [W, Nat.reduceAdd]
    refine w_call h fun b47 hb47 h => ?_
    obtain ⟨b48, b49⟩ := b47
    try dsimp only at h
    refine spec_l1Cur_one_w hb47 (hS.sel 2 [1, 0] (by decide)) fun H hS => ?_
    try simp only [W]
    refine seq_n hK46 ?_
    obtain ⟨y54, h, g55⟩ := Option.bind_eq_some_iff.1 h
    refine w_join gC (fun s H => ∃ x50 : List Way, ∃ x51 : List Int, ∃ x52 : Int, ∃ x53 : Int, y54 = (x50, x51, x52, x53) ∧ s = [u, u, u, v16, u, u, u, u, u, u, u, u, u, u, u, u, u, u, u, u, u, u, u, u, u, u, u, u, u, u, u, u, u] ∧ Own H (⟨v16, 2, x50.map e_Way⟩ :: ⟨.ptr i0 w0 0 0, 3, [.agg [.fz (x51.map (AV.int .u8)), .int .i64 x52, .int .u64 x53]]⟩ :: F)) (fun K56 hK56 => ?_) (fun s H hq => ?_)
    · refine w_seq fun K57 hK57 => ?_
      refine w_if ?_
      simp only [W]
      refine w_cnd h (fun hc h => ?_) (fun hc h => ?_)
      · refine w_regF (fz := [(3, [([25], [.sl [.sc]])]), (6, [([28], [.sl [.sc]])])]) gC ?_
        try simp only [W, Nat.reduceAdd, Nat.reduceBEq]
        refine w_lit (el := ([-1, 100, 101] : List Int).map (AV.int .i64)) hS rfl rfl rfl rfl rfl rfl rfl fun v58 H qv58 hS => ?_
        try simp only [W, Nat.reduceAdd]
        refine FZ_own 0 hS rfl qv58 rfl (fun _ _ => by simp [takeE, takeT, plainA]) (fun _ => rfl) fun H hsame hS => ?_
        try simp only [W]
        refine w_call h fun b60 hb60 h => ?_
        obtain ⟨b61, b62⟩ := b60
        try dsimp only at h
        refine spec_l1Cur_among_w hb60 hS fun H hS => ?_
        try simp only [W, Nat.reduceAdd, Nat.reduceBEq]
        refine w_lit (el := ([0, 1, 20, 21] : List Int).map (AV.int .i64)) hS rfl rfl rfl rfl rfl rfl rfl fun v63 H qv63 hS => ?_
        try simp only [W, Nat.reduceAdd, Nat.reduceBEq]
        refine FZ_own 0 hS rfl qv63 rfl (fun _ _ => by simp [takeE, takeT, plainA]) (fun _ => rfl) fun H hsame hS => ?_
        try simp only [W]
        refine w_call h fun b65 hb65 h => ?_
        obtain ⟨b66, b67⟩ := b65
        try dsimp only at h
        refine spec_l1Cur_among_w hb65 hS fun H hS => ?_
        try simp only [W, EE, Nat.reduceAdd, Nat.reduceBEq]
        refine w_bld rfl rfl rfl rfl rfl ?_
        try simp only [W, EE, Nat.reduceAdd, Nat.reduceBEq]
        refine w_ow 1 hS rfl rfl rfl rfl rfl h (fun b68 in69 wn69 on69 hb68 h en69 => ?_) qv16.ne
        obtain ⟨kn69, hbn69, hen69⟩ := hS.elem 1 rfl en69 hb68
        try simp only [W, Nat.reduceAdd, Nat.reduceBEq]
        refine w_ste (a := .agg [.int .i64 b61, .int .i64 b66]) (y' := (⟨b61, b66⟩ : Way)) 1 hS rfl en69 hb68 rfl rfl rfl rfl rfl rfl rfl fun H hS => ?_
        try simp only [W, Nat.reduceAdd]
        refine seq_n hK57 ?_
        refine w_kill ?_
        exact cut_n hK56 ⟨_, _, _, _, (Option.some.inj h).symm, rfl, (hS.sel 2 [1, 0] (by decide))⟩
      · refine w_skip ?_
        refine seq_n hK57 ?_
        refine w_kill ?_
        exact cut_n hK56 ⟨_, _, _, _, (Option.some.inj h).symm, rfl, (hS.sel 2 [1, 0] (by decide))⟩
    · obtain ⟨x50, x51, x52, x53, rfl, rfl, hS⟩ := hq
      replace h := g55
      try dsimp only at h
      refine seq_n hK45 ?_
      refine w_seq fun K70 hK70 => ?_
      refine w_reg gC ?_
      try simp only [W, Nat.reduceAdd]
      refine seq_n hK70 ?_
      refine w_ret ?_
      refine fin_r1 hK0 rfl ?_
      try obtain rfl := Option.some.inj h
      exact hP _ qv16 _ hS
theorem spec_DrawLastArrival_w {a0 : List Int} {r : (List Way × List Int)} (h : spec_DrawLastArrival a0 = some r) {F : List It} {H : Heap} (hS : Own H (F)) {P : AV → Heap → Prop} (hP : ∀ v66 : AV, isSl v66 → ∀ v68 : AV, isSl v68 → ∀ H', Own H' (⟨v66, 2, r.1.map e_Way⟩ :: ⟨v68, 1, r.2.map (AV.int .i64)⟩ :: F) → P (.tup [v66, v68]) H') : ACall C 15 [.fz (a0.map (AV.int .u8))] H P := by
  refine acall_of gC (res := [.tmp 2, .tmp 3]) (n := 31) rfl rfl rfl rfl fun K0 hK0 => ?_
  simp only [W, Nat.reduceSub, Nat.reduceAdd, List.replicate]
  unfold spec_DrawLastArrival at h
  refine w_seq fun K1 hK1 => ?_
  refine w_reg gC ?_
  try simp only [W, Nat.reduceAdd]
  refine seq_n hK1 ?_
  refine w_seq fun K2 hK2 => ?_
  refine w_reg gC ?_
  try simp only [W, EE, Nat.reduceAdd]
  refine w_bld rfl rfl rfl rfl rfl ?_
  try simp only [W]
  refine w_box hS rfl rfl rfl rfl fun ip3 wp3 H hS => ?_
  try simp only [W]
  refine seq_n hK2 ?_
  refine w_seq fun K5 hK5 => ?_
  refine w_reg gC ?_
  try simp only [W, Nat.reduceAdd]
  refine w_call h fun b6 hb6 h => ?_
  obtain ⟨b7, b8⟩ := b6
  try dsimp only at h
  refine spec_l1Cur_ways_w hb6 hS fun v9 qv9 H hS => ?_
  try simp only [W]
  refine seq_n hK5 ?_
  refine w_seq fun K11 hK11 => ?_
  refine w_reg gC ?_
  try simp only [W, Nat.reduceAdd]
  refine seq_n hK11 ?_
  refine w_seq fun K12 hK12 => ?_
  refine w_seq fun K13 hK13 => ?_
  refine w_reg gC ?_
  try simp only [W, EE, Nat.reduceAdd]
  refine w_len 0 hS rfl qv9 rfl ?_
  try simp only [W]
  refine seq_n hK13 ?_
  obtain ⟨y26, hw27, g33⟩ := Option.bind_eq_some_iff.1 h
  refine w_join gC (fun s H => ∃ x21 : List Int, ∃ x23 : List Int, ∃ x24 : Int, ∃ x25 : Int, y26 = (x21, x23, x24, x25) ∧ ∃ v22 : AV, isSl v22 ∧ s = [u, u, u, u, .ptr ip3 wp3 0 0, v9, v22, u, u, u, u, u, u, u, u, u, u, u, u, u, u, u, u, u, u, u, u, u, u, u, u] ∧ Own H (⟨v9, 2, b7.map e_Way⟩ :: ⟨v22, 1, x21.map (AV.int .i64)⟩ :: ⟨.ptr ip3 wp3 0 0, 3, [.agg [.fz (x23.map (AV.int .u8)), .int .i64 x24, .int .u64 x25]]⟩ :: F)) (fun K28 hK28 => ?_) (fun s H hq => ?_)
  · refine w_blk fun K29 hK29 => ?_
    refine w_loop gC hw27 (fun x s H => match x with | (x14, x17, x18, x19, x20) => ∃ v15 : AV, isSl v15 ∧ s = [u, u, u, u, .ptr ip3 wp3 0 0, v9, v15, u, u, u, u, u, u, .int .i64 (b7.length : Int), .int .i64 x17, u, u, u, u, u, u, u, u, u, u, u, u, u, u, u, u] ∧ Own H (⟨v9, 2, b7.map e_Way⟩ :: ⟨v15, 1, x14.map (AV.int .i64)⟩ :: ⟨.ptr ip3 wp3 0 0, 3, [.agg [.fz (x18.map (AV.int .u8)), .int .i64 x19, .int .u64 x20]]⟩ :: F)) ⟨_, isSl_nil, rfl, ((hS.nil_ 1).sel 3 [1, 0, 2] (by decide))⟩ (fun x y32 s H h hd31 hi K30 hK30 => ?_)
    obtain ⟨x14, x17, x18, x19, x20⟩ := x
    try dsimp only at hi
    obtain ⟨v15, qv15, rfl, hS⟩ := hi
    simp only [spec_DrawLastArrival_l0] at h
    refine w_seq fun K34 hK34 => ?_
    refine w_reg gC ?_
    try simp only [W, EE, Nat.reduceAdd]
    refine seq_n hK34 ?_
    refine w_seq fun K35 hK35 => ?_
    refine w_if ?_
    simp only [W]
    refine w_cnd h (fun hc h => ?_) (fun hc h => ?_)
    · refine w_skip ?_
      refine seq_n hK35 ?_
      refine w_seq fun K36 hK36 => ?_
      refine w_blk fun K37 hK37 => ?_
      refine w_reg gC ?_
      try simp only [W, Nat.reduceAdd]
      refine w_call h fun b38 hb38 h => ?_
      obtain ⟨b39, b40⟩ := b38
      try dsimp only at h
      refine spec_l1Cur_pick_w hb38 (hS.sel 3 [2, 0, 1] (by decide)) fun H hS => ?_
      try simp only [W]
      refine w_lit (el := ([b39] : List Int).map (AV.int .i64)) hS rfl rfl rfl rfl rfl rfl rfl fun v41 H qv41 hS => ?_
      try simp only [W, EE]
      refine w_appV (l := x14) (c := (AV.int .i64)) 3 hS rfl qv15 rfl rfl rfl (hS.elems 0 rfl qv41) (fun _ => rfl) rfl h fun v44 H x43 qv44 hm h hS => ?_
      try simp only [W]
      refine blk_n0 hK37 ?_
      refine seq_n hK36 ?_
      refine w_reg gC ?_
      try simp only [W, EE, Nat.reduceAdd]
      exact lp_n hK30 h ⟨_, qv44, rfl, (hS.sel 4 [2, 3, 1] (by decide))⟩
    · refine w_exit ?_
      refine seq_x hK35 ?_
      try obtain rfl := Option.some.inj h
      obtain rfl := hd31 _ rfl
      have h : (some (x14, x18, x19, x20) : Option ((List Int) × (List Int) × Int × Int)) = some (x14, x18, x19, x20) := rfl
      refine lp_x hK30 ?_
      refine blk_e hK29 ?_
      exact cut_n hK28 ⟨_, _, _, _, (Option.some.inj h).symm, _, qv15, rfl, hS⟩
  · obtain ⟨x21, x23, x24, x25, rfl, v22, qv22, rfl, hS⟩ := hq
    replace h := g33
    try dsimp only at h
    refine seq_n hK12 ?_
    refine w_seq fun K48 hK48 => ?_
    refine w_seq fun K49 hK49 => ?_
    refine w_reg gC ?_
    try simp only [W, Nat.reduceAdd]
    refine w_call h fun b50 hb50 h => ?_
    obtain ⟨b51, b52⟩ := b50
    try dsimp only at h
    refine spec_l1Cur_one_w hb50 (hS.sel 3 [2, 0, 1] (by decide)) fun H hS => ?_
    try simp only [W]
    refine seq_n hK49 ?_
    obtain ⟨y54, h, g55⟩ := Option.bind_eq_some_iff.1 h
    refine w_join gC (fun s H => ∃ x53 : List Int, y54 = (x53) ∧ s = [u, u, u, u, u, v9, v22, u, u, u, u, u, u, u, u, u, u, u, u, u, u, u, u, u, u, u, u, u, u, u, u] ∧ Own H (⟨v9, 2, b7.map e_Way⟩ :: ⟨v22, 1, x53.map (AV.int .i64)⟩ :: F)) (fun K56 hK56 => ?_) (fun s H hq => ?_)
    · refine w_seq fun K57 hK57 => ?_
      refine w_if ?_
      simp only [W]
      refine w_cnd h (fun hc h => ?_) (fun hc h => ?_)
      · refine w_regF (fz := [(3, [([26], [.sl [.sc]])])]) gC ?_
        try simp only [W, Nat.reduceAdd, Nat.reduceBEq]
        refine w_lit (el := ([-1, 40, 41] : List Int).map (AV.int .i64)) hS rfl rfl rfl rfl rfl rfl rfl fun v58 H qv58 hS => ?_
        try simp only [W, Nat.reduceAdd]
        refine FZ_own 0 hS rfl qv58 rfl (fun _ _ => by simp [takeE, takeT, plainA]) (fun _ => rfl) fun H hsame hS => ?_
        try simp only [W]
        refine w_call h fun b60 hb60 h => ?_
        obtain ⟨b61, b62⟩ := b60
        try dsimp only at h
        refine spec_l1Cur_among_w hb60 hS fun H hS => ?_
        try simp only [W, EE, Nat.reduceAdd, Nat.reduceBEq]
        refine w_ow 2 hS rfl rfl rfl rfl rfl h (fun b63 in64 wn64 on64 hb63 h en64 => ?_) qv22.ne
        obtain ⟨kn64, hbn64, hen64⟩ := hS.elem 2 rfl en64 hb63
        try simp only [W, Nat.reduceAdd, Nat.reduceBEq]
        refine w_ste (a := .int .i64 b61) (y' := b61) 2 hS rfl en64 hb63 rfl rfl rfl rfl rfl rfl rfl fun H hS => ?_
        try simp only [W, Nat.reduceAdd]
        refine seq_n hK57 ?_
        refine w_kill ?_
        exact cut_n hK56 ⟨_, (Option.some.inj h).symm, rfl, (hS.sel 3 [1, 2] (by decide))⟩
      · refine w_skip ?_
        refine seq_n hK57 ?_
        refine w_kill ?_
        exact cut_n hK56 ⟨_, (Option.some.inj h).symm, rfl, (hS.sel 3 [1, 2] (by decide))⟩
    · obtain ⟨x53, ey, rfl, hS⟩ := hq; obtain rfl := ey.symm
      replace h := g55
      try dsimp only at h
      refine seq_n hK48 ?_
      refine w_seq fun K65 hK65 => ?_
      refine w_reg gC ?_
      try simp only [W, Nat.reduceAdd]
      refine seq_n hK65 ?_
      refine w_ret ?_
      refine fin_r2 hK0 rfl rfl ?_
      try obtain rfl := Option.some.inj h
      exact hP _ qv9 _ qv22 _ hS
theorem impl_in_w {a0 : Int} {a1 : Int} {a2 : Int} {r : (Bool)} (h : impl_in a0 a1 a2 = some r) {F : List It} {H : Heap} (hS : Own H (F)) {P : AV → Heap → Prop} (hP : ∀ H', Own H' (F) → P (.bool r) H') : ACall C 147 [.int .i64 a0, .int .i64 a1, .int .i64 a2] H P := by
  refine acall_of gC (res := [.tmp 6]) (n := 15) rfl rfl rfl rfl fun K0 hK0 => ?_
  simp only [W, Nat.reduceSub, Nat.reduceAdd, List.replicate]
  unfold impl_in at h
  refine w_seq fun K1 hK1 => ?_
  refine w_reg gC ?_
  try simp only [W, Nat.reduceAdd]
  refine seq_n hK1 ?_
  refine w_seq fun K2 hK2 => ?_
  refine w_reg gC ?_
  try simp only [W, EE, Nat.reduceAdd]
  refine w_grdT h (fun hc h => ?_) (fun hc h => ?_)
  · try simp only [W, EE, reduceIte, hc]
    refine seq_n hK2 ?_
    refine w_ret ?_
    refine fin_r1 hK0 rfl ?_
    try obtain rfl := Option.some.inj h
    exact hP _ hS
  · try simp only [W, hc]
    refine seq_n hK2 ?_
    refine w_ret ?_
    refine fin_r1 hK0 rfl ?_
    try obtain rfl := Option.some.inj h
    exact hP _ hS
theorem slices_IndexFunc_impl_Way_w {a0 : List Way} {g1 : Way → Option Bool} {f1 : FuncId} {c1 : List AV} {r : (Int)} (h : slices_IndexFunc_impl_Way a0 g1 = some r) {F : List It} {H : Heap} (hg1 : ∀ {x0 : Way} {r : Bool}, g1 x0 = some r → ∀ (L : List It) (n : Nat), L.drop n = F → ∀ (H : Heap), Own H L → ∀ (P : AV → Heap → Prop), (∀ H', Own H' L → P (.bool r) H') → ACall C f1 ([.agg [.int .i64 x0.Delay, .int .i64 x0.Every]] ++ c1) H P) (hS : Own H (F)) {P : AV → Heap → Prop} (hP : ∀ H', Own H' (F) → P (.int .i64 r) H') : ACall C 272 [.fz (a0.map e_Way), .fn f1 c1] H P := by
  refine acall_of gC (res := [.tmp 4]) (n := 19) rfl rfl rfl rfl fun K0 hK0 => ?_
  simp only [W, Nat.reduceSub, Nat.reduceAdd, List.replicate]
  unfold slices_IndexFunc_impl_Way at h
  refine w_seq fun K1 hK1 => ?_
  refine w_reg gC ?_
  try simp only [W, Nat.reduceAdd]
  refine seq_n hK1 ?_
  refine w_seq fun K2 hK2 => ?_
  refine w_seq fun K3 hK3 => ?_
  refine w_reg gC ?_
  try simp only [W, EE, Nat.reduceAdd]
  refine seq_n hK3 ?_
  obtain ⟨y5, hw6, g12⟩ := Option.bind_eq_some_iff.1 h
  refine w_join gC (fun s H => y5 = LR.next () ∧ s = [u, u, u, u, u, u, u, u, u, u, u, u, u, u, u, u, u, u, u] ∧ Own H (F)) (fun K7 hK7 => ?_) (fun s H hq => ?_)
  · refine w_blk fun K8 hK8 => ?_
    refine w_loop gC hw6 (fun x s H => s = [.fz (a0.map e_Way), .fn f1 c1, u, u, u, u, u, .int .i64 (a0.length : Int), .int .i64 x, u, u, u, u, u, u, u, u, u, u] ∧ Own H (F)) ⟨rfl, hS⟩ (fun x4 y11 s H h hd10 hi K9 hK9 => ?_)
    skip
    try dsimp only at hi
    obtain ⟨rfl, hS⟩ := hi
    simp only [slices_IndexFunc_impl_Way_l0] at h
    refine w_seq fun K13 hK13 => ?_
    refine w_reg gC ?_
    try simp only [W, EE, Nat.reduceAdd]
    refine seq_n hK13 ?_
    refine w_seq fun K14 hK14 => ?_
    refine w_if ?_
    simp only [W]
    refine w_cnd h (fun hc h => ?_) (fun hc h => ?_)
    · refine w_skip ?_
      refine seq_n hK14 ?_
      refine w_seq fun K15 hK15 => ?_
      refine w_blk fun K16 hK16 => ?_
      refine w_seq fun K17 hK17 => ?_
      refine w_reg gC ?_
      try simp only [W, Nat.reduceAdd]
      refine seq_n hK17 ?_
      refine w_seq fun K18 hK18 => ?_
      refine w_reg gC ?_
      try simp only [W, EE, Nat.reduceAdd]
      refine w_fz rfl rfl rfl (fun _ => rfl) h fun b19 hb19 h => ?_
      try simp only [W, EE, EN, reduceIte, Nat.reduceAdd, Nat.reduceLeDiff]
      refine w_call h fun b20 hb20 h => ?_
      refine hg1 hb20 _ 0 rfl _ hS _ fun H hS => ?_
      try simp only [W]
      refine seq_n hK18 ?_
      refine w_if ?_
      simp only [W]
      refine w_cnd h (fun hc h => ?_) (fun hc h => ?_)
      · refine w_seq fun K21 hK21 => ?_
        refine w_reg gC ?_
        try simp only [W, Nat.reduceAdd]
        refine seq_n hK21 ?_
        refine w_ret ?_
        refine blk_r hK16 ?_
        refine seq_r hK15 ?_
        try obtain rfl := Option.some.inj h
        obtain rfl := hd10 _ rfl
        have h : (some (LR.done x4) : Option (LR Unit (Int))) = some (LR.done x4) := rfl
        refine lp_r hK9 ?_
        refine blk_r hK8 ?_
        try obtain rfl := Option.some.inj h
        obtain rfl := Option.some.inj g12
        have h : (some x4 : Option (Int)) = some x4 := rfl
        refine cut_r hK7 ?_
        refine seq_r hK2 ?_
        refine fin_r1 hK0 rfl ?_
        try obtain rfl := Option.some.inj h
        exact hP _ hS
      · refine w_skip ?_
        refine blk_n0 hK16 ?_
        refine seq_n hK15 ?_
        refine w_reg gC ?_
        try simp only [W, EE, Nat.reduceAdd]
        exact lp_n hK9 h ⟨rfl, hS⟩
    · refine w_exit ?_
      refine seq_x hK14 ?_
      try obtain rfl := Option.some.inj h
      obtain rfl := hd10 _ rfl
      have h : (some (LR.next ()) : Option (LR Unit (Int))) = some (LR.next ()) := rfl
      refine lp_x hK9 ?_
      refine blk_e hK8 ?_
      exact cut_n hK7 ⟨(Option.some.inj h).symm, rfl, hS⟩
  · obtain ⟨rfl, rfl, hS⟩ := hq
    replace h := g12
    try dsimp only at h
    refine seq_n hK2 ?_
    refine w_seq fun K28 hK28 => ?_
    refine w_reg gC ?_
    try simp only [W, Nat.reduceAdd]
    refine seq_n hK28 ?_
    refine w_ret ?_
    refine fin_r1 hK0 rfl ?_
    try obtain rfl := Option.some.inj h
    exact hP _ hS
theorem slices_ContainsFunc_impl_Way_w {a0 : List Way} {g1 : Way → Option Bool} {f1 : FuncId} {c1 : List AV} {r : (Bool)} (h : slices_ContainsFunc_impl_Way a0 g1 = some r) {F : List It} {H : Heap} (hg1 : ∀ {x0 : Way} {r : Bool}, g1 x0 = some r → ∀ (L : List It) (n : Nat), L.drop n = F → ∀ (H : Heap), Own H L → ∀ (P : AV → Heap → Prop), (∀ H', Own H' L → P (.bool r) H') → ACall C f1 ([.agg [.int .i64 x0.Delay, .int .i64 x0.Every]] ++ c1) H P) (hS : Own H (F)) {P : AV → Heap → Prop} (hP : ∀ H', Own H' (F) → P (.bool r) H') : ACall C 253 [.fz (a0.map e_Way), .fn f1 c1] H P := by
  refine acall_of gC (res := [.tmp 4]) (n := 9) rfl rfl rfl rfl fun K0 hK0 => ?_
  simp only [W, Nat.reduceSub, Nat.reduceAdd, List.replicate]
  unfold slices_ContainsFunc_impl_Way at h
  refine w_seq fun K1 hK1 => ?_
  refine w_reg gC ?_
  try simp only [W, Nat.reduceAdd]
  refine seq_n hK1 ?_
  refine w_seq fun K2 hK2 => ?_
  refine w_reg gC ?_
  try simp only [W, Nat.reduceAdd]
  refine w_call h fun b3 hb3 h => ?_
  refine slices_IndexFunc_impl_Way_w hb3 hg1 hS fun H hS => ?_
  try simp only [W, EE]
  refine seq_n hK2 ?_
  refine w_ret ?_
  refine fin_r1 hK0 rfl ?_
  try obtain rfl := Option.some.inj h
  exact hP _ hS
theorem impl_areWays_1_w {a0 : Way} {r : (Bool)} (h : impl_areWays_1 a0 = some r) {F : List It} {H : Heap} (hS : Own H (F)) {P : AV → Heap → Prop} (hP : ∀ H', Own H' (F) → P (.bool r) H') : ACall C 254 [.agg [.int .i64 a0.Delay, .int .i64 a0.Every]] H P := by
  refine acall_of gC (res := [.tmp 2]) (n := 13) rfl rfl rfl rfl fun K0 hK0 => ?_
  simp only [W, Nat.reduceSub, Nat.reduceAdd, List.replicate]
  unfold impl_areWays_1 at h
  refine w_seq fun K1 hK1 => ?_
  refine w_reg gC ?_
  try simp only [W, Nat.reduceAdd]
  refine w_box hS rfl rfl rfl rfl fun ip2 wp2 H hS => ?_
  try simp only [W]
  refine seq_n hK1 ?_
  refine w_seq fun K4 hK4 => ?_
  refine w_reg gC ?_
  try simp only [W, EE, Nat.reduceAdd, Nat.reduceBEq, hS.var 0 rfl]
  refine w_call h fun b5 hb5 h => ?_
  refine impl_in_w hb5 hS fun H hS => ?_
  try simp only [W]
  refine w_grdT h (fun hc h => ?_) (fun hc h => ?_)
  · try simp only [W, hc]
    refine seq_n hK4 ?_
    refine w_ret ?_
    refine fin_r1 hK0 rfl ?_
    try obtain rfl := Option.some.inj h
    exact hP _ (hS.sel 1 [] (by decide))
  · try simp only [W, EE, Nat.reduceAdd, Nat.reduceBEq, hS.var 0 rfl, hc]
    refine w_call h fun b6 hb6 h => ?_
    refine impl_in_w hb6 hS fun H hS => ?_
    try simp only [W, reduceIte, Bool.false_eq_true]
    refine seq_n hK4 ?_
    refine w_ret ?_
    refine fin_r1 hK0 rfl ?_
    try obtain rfl := Option.some.inj h
    exact hP _ (hS.sel 1 [] (by decide))
theorem impl_areWays_w {a0 : List Way} {r : (Bool)} (h : impl_areWays a0 = some r) {F : List It} {H : Heap} (hS : Own H (F)) {P : AV → Heap → Prop} (hP : ∀ H', Own H' (F) → P (.bool r) H') : ACall C 144 [.fz (a0.map e_Way)] H P := by
  refine acall_of gC (res := [.tmp 2]) (n := 11) rfl rfl rfl rfl fun K0 hK0 => ?_
  simp only [W, Nat.reduceSub, Nat.reduceAdd, List.replicate]
  unfold impl_areWays at h
  refine w_seq fun K1 hK1 => ?_
  refine w_reg gC ?_
  try simp only [W, Nat.reduceAdd]
  refine seq_n hK1 ?_
  refine w_seq fun K2 hK2 => ?_
  refine w_reg gC ?_
  try simp only [W, EE, Nat.reduceAdd]
  refine w_call h fun b3 hb3 h => ?_
  refine impl_in_w hb3 hS fun H hS => ?_
  try simp only [W]
  refine w_grdT h (fun hc h => ?_) (fun hc h => ?_)
  · try simp only [W, hc]
    refine w_call h fun b4 hb4 h => ?_
    refine slices_ContainsFunc_impl_Way_w hb4 (fun h _ n hL _ hS _ hP => impl_areWays_1_w h hS hP) hS fun H hS => ?_
    try simp only [W, reduceIte]
    refine seq_n hK2 ?_
    refine w_ret ?_
    refine fin_r1 hK0 rfl ?_
    try obtain rfl := Option.some.inj h
    exact hP _ hS
  · try simp only [W, hc]
    refine seq_n hK2 ?_
    refine w_ret ?_
    refine fin_r1 hK0 rfl ?_
    try obtain rfl := Option.some.inj h
    exact hP _ hS
theorem slices_IndexFunc_int_w {a0 : List Int} {g1 : Int → Option Bool} {f1 : FuncId} {c1 : List AV} {r : (Int)} (h : slices_IndexFunc_int a0 g1 = some r) {F : List It} {H : Heap} (hg1 : ∀ {x0 : Int} {r : Bool}, g1 x0 = some r → ∀ (L : List It) (n : Nat), L.drop n = F → ∀ (H : Heap), Own H L → ∀ (P : AV → Heap → Prop), (∀ H', Own H' L → P (.bool r) H') → ACall C f1 ([.int .i64 x0] ++ c1) H P) (hS : Own H (F)) {P : AV → Heap → Prop} (hP : ∀ H', Own H' (F) → P (.int .i64 r) H') : ACall C 255 [.fz (a0.map (AV.int .i64)), .fn f1 c1] H P := by
  refine acall_of gC (res := [.tmp 4]) (n := 19) rfl rfl rfl rfl fun K0 hK0 => ?_
  simp only [W, Nat.reduceSub, Nat.reduceAdd, List.replicate]
  unfold slices_IndexFunc_int at h
  refine w_seq fun K1 hK1 => ?_
  refine w_reg gC ?_
  try simp only [W, Nat.reduceAdd]
  refine seq_n hK1 ?_
  refine w_seq fun K2 hK2 => ?_
  refine w_seq fun K3 hK3 => ?_
  refine w_reg gC ?_
  try simp only [W, EE, Nat.reduceAdd]
  refine seq_n hK3 ?_
  obtain ⟨y5, hw6, g12⟩ := Option.bind_eq_some_iff.1 h
  refine w_join gC (fun s H => y5 = LR.next () ∧ s = [u, u, u, u, u, u, u, u, u, u, u, u, u, u, u, u, u, u, u] ∧ Own H (F)) (fun K7 hK7 => ?_) (fun s H hq => ?_)
  · refine w_blk fun K8 hK8 => ?_
    refine w_loop gC hw6 (fun x s H => s = [.fz (a0.map (AV.int .i64)), .fn f1 c1, u, u, u, u, u, .int .i64 (a0.length : Int), .int .i64 x, u, u, u, u, u, u, u, u, u, u] ∧ Own H (F)) ⟨rfl, hS⟩ (fun x4 y11 s H h hd10 hi K9 hK9 => ?_)
    skip
    try dsimp only at hi
    obtain ⟨rfl, hS⟩ := hi
    simp only [slices_IndexFunc_int_l0] at h
    refine w_seq fun K13 hK13 => ?_
    refine w_reg gC ?_
    try simp only [W, EE, Nat.reduceAdd]
    refine seq_n hK13 ?_
    refine w_seq fun K14 hK14 => ?_
    refine w_if ?_
    simp only [W]
    refine w_cnd h (fun hc h => ?_) (fun hc h => ?_)
    · refine w_skip ?_
      refine seq_n hK14 ?_
      refine w_seq fun K15 hK15 => ?_
      refine w_blk fun K16 hK16 => ?_
      refine w_seq fun K17 hK17 => ?_
      refine w_reg gC ?_
      try simp only [W, Nat.reduceAdd]
      refine seq_n hK17 ?_
      refine w_seq fun K18 hK18 => ?_
      refine w_reg gC ?_
      try simp only [W, EE, Nat.reduceAdd]
      refine w_fz rfl rfl rfl (fun _ => rfl) h fun b19 hb19 h => ?_
      try simp only [W, EE]
      refine w_call h fun b20 hb20 h => ?_
      refine hg1 hb20 _ 0 rfl _ hS _ fun H hS => ?_
      try simp only [W]
      refine seq_n hK18 ?_
      refine w_if ?_
      simp only [W]
      refine w_cnd h (fun hc h => ?_) (fun hc h => ?_)
      · refine w_seq fun K21 hK21 => ?_
        refine w_reg gC ?_
        try simp only [W, Nat.reduceAdd]
        refine seq_n hK21 ?_
        refine w_ret ?_
        refine blk_r hK16 ?_
        refine seq_r hK15 ?_
        try obtain rfl := Option.some.inj h
        obtain rfl := hd10 _ rfl
        have h : (some (LR.done x4) : Option (LR Unit (Int))) = some (LR.done x4) := rfl
        refine lp_r hK9 ?_
        refine blk_r hK8 ?_
        try obtain rfl := Option.some.inj h
        obtain rfl := Option.some.inj g12
        have h : (some x4 : Option (Int)) = some x4 := rfl
        refine cut_r hK7 ?_
        refine seq_r hK2 ?_
        refine fin_r1 hK0 rfl ?_
        try obtain rfl := Option.some.inj h
        exact hP _ hS
      · refine w_skip ?_
        refine blk_n0 hK16 ?_
        refine seq_n hK15 ?_
        refine w_reg gC ?_
        try simp only [W, EE, Nat.reduceAdd]
        exact lp_n hK9 h ⟨rfl, hS⟩
    · refine w_exit ?_
      refine seq_x hK14 ?_
      try obtain rfl := Option.some.inj h
      obtain rfl := hd10 _ rfl
      have h : (some (LR.next ()) : Option (LR Unit (Int))) = some (LR.next ()) := rfl
      refine lp_x hK9 ?_
      refine blk_e hK8 ?_
      exact cut_n hK7 ⟨(Option.some.inj h).symm, rfl, hS⟩
  · obtain ⟨rfl, rfl, hS⟩ := hq
    replace h := g12
    try dsimp only at h
    refine seq_n hK2 ?_
    refine w_seq fun K28 hK28 => ?_
    refine w_reg gC ?_
    try simp only [W, Nat.reduceAdd]
    refine seq_n hK28 ?_
    refine w_ret ?_
    refine fin_r1 hK0 rfl ?_
    try obtain rfl := Option.some.inj h
    exact hP _ hS
theorem slices_ContainsFunc_int_w {a0 : List Int} {g1 : Int → Option Bool} {f1 : FuncId} {c1 : List AV} {r : (Bool)} (h : slices_ContainsFunc_int a0 g1 = some r) {F : List It} {H : Heap} (hg1 : ∀ {x0 : Int} {r : Bool}, g1 x0 = some r → ∀ (L : List It) (n : Nat), L.drop n = F → ∀ (H : Heap), Own H L → ∀ (P : AV → Heap → Prop), (∀ H', Own H' L → P (.bool r) H') → ACall C f1 ([.int .i64 x0] ++ c1) H P) (hS : Own H (F)) {P : AV → Heap → Prop} (hP : ∀ H', Own H' (F) → P (.bool r) H') : ACall C 145 [.fz (a0.map (AV.int .i64)), .fn f1 c1] H P := by
  refine acall_of gC (res := [.tmp 4]) (n := 9) rfl rfl rfl rfl fun K0 hK0 => ?_
  simp only [W, Nat.reduceSub, Nat.reduceAdd, List.replicate]
  unfold slices_ContainsFunc_int at h
  refine w_seq fun K1 hK1 => ?_
  refine w_reg gC ?_
  try simp only [W, Nat.reduceAdd]
  refine seq_n hK1 ?_
  refine w_seq fun K2 hK2 => ?_
  refine w_reg gC ?_
  try simp only [W, Nat.reduceAdd]
  refine w_call h fun b3 hb3 h => ?_
  refine slices_IndexFunc_int_w hb3 hg1 hS fun H hS => ?_
  try simp only [W, EE]
  refine seq_n hK2 ?_
  refine w_ret ?_
  refine fin_r1 hK0 rfl ?_
  try obtain rfl := Option.some.inj h
  exact hP _ hS
theorem impl_LastArrival_1_w {a0 : Int} {r : (Bool)} (h : impl_LastArrival_1 a0 = some r) {F : List It} {H : Heap} (hS : Own H (F)) {P : AV → Heap → Prop} (hP : ∀ H', Own H' (F) → P (.bool r) H') : ACall C 146 [.int .i64 a0] H P := by
  refine acall_of gC (res := [.tmp 2]) (n := 6) rfl rfl rfl rfl fun K0 hK0 => ?_
  simp only [W, Nat.reduceSub, Nat.reduceAdd, List.replicate]
  unfold impl_LastArrival_1 at h
  refine w_seq fun K1 hK1 => ?_
  refine w_reg gC ?_
  try simp only [W, Nat.reduceAdd]
  refine seq_n hK1 ?_
  refine w_seq fun K2 hK2 => ?_
  refine w_reg gC ?_
  try simp only [W, Nat.reduceAdd]
  refine w_call h fun b3 hb3 h => ?_
  refine impl_in_w hb3 hS fun H hS => ?_
  try simp only [W]
  refine seq_n hK2 ?_
  refine w_ret ?_
  refine fin_r1 hK0 rfl ?_
  try obtain rfl := Option.some.inj h
  exact hP _ hS
theorem impl_last_w {a0 : List Way} {a1 : List Int} {r : (Int)} (h : impl_last a0 a1 = some r) {F : List It} {H : Heap} (hS : Own H (F)) {P : AV → Heap → Prop} (hP : ∀ H', Own H' (F) → P (.int .i64 r) H') : ACall C 148 [.fz (a0.map e_Way), .fz (a1.map (AV.int .i64))] H P := by
  refine acall_of gC (res := [.tmp 4]) (n := 35) rfl rfl rfl rfl fun K0 hK0 => ?_
  simp only [W, Nat.reduceSub, Nat.reduceAdd, List.replicate]
  unfold impl_last at h
  refine w_seq fun K1 hK1 => ?_
  refine w_reg gC ?_
  try simp only [W, Nat.reduceAdd]
  refine seq_n hK1 ?_
  refine w_seq fun K2 hK2 => ?_
  refine w_reg gC ?_
  try simp only [W, Nat.reduceAdd]
  refine seq_n hK2 ?_
  refine w_seq fun K3 hK3 => ?_
  refine w_seq fun K4 hK4 => ?_
  refine w_reg gC ?_
  try simp only [W, EE, Nat.reduceAdd]
  refine seq_n hK4 ?_
  obtain ⟨y8, hw9, g15⟩ := Option.bind_eq_some_iff.1 h
  refine w_join gC (fun s H => ∃ x7 : Int, y8 = (x7) ∧ s = [u, u, u, u, u, .int .i64 x7, u, u, u, u, u, u, u, u, u, u, u, u, u, u, u, u, u, u, u, u, u, u, u, u, u, u, u, u, u] ∧ Own H (F)) (fun K10 hK10 => ?_) (fun s H hq => ?_)
  · refine w_blk fun K11 hK11 => ?_
    refine w_loop gC hw9 (fun x s H => match x with | (x5, x6) => s = [u, .fz (a1.map (AV.int .i64)), u, u, u, .int .i64 x5, u, u, .fz (a0.map e_Way), .int .i64 (a0.length : Int), .int .i64 x6, u, u, u, u, u, u, u, u, u, u, u, u, u, u, u, u, u, u, u, u, u, u, u, u] ∧ Own H (F)) ⟨rfl, hS⟩ (fun x y14 s H h hd13 hi K12 hK12 => ?_)
    obtain ⟨x5, x6⟩ := x
    try dsimp only at hi
    obtain ⟨rfl, hS⟩ := hi
    simp only [impl_last_l0] at h
    refine w_seq fun K16 hK16 => ?_
    refine w_reg gC ?_
    try simp only [W, EE, Nat.reduceAdd]
    refine seq_n hK16 ?_
    refine w_seq fun K17 hK17 => ?_
    refine w_if ?_
    simp only [W]
    refine w_cnd h (fun hc h => ?_) (fun hc h => ?_)
    · refine w_skip ?_
      refine seq_n hK17 ?_
      refine w_seq fun K18 hK18 => ?_
      obtain ⟨y21, h, g22⟩ := Option.bind_eq_some_iff.1 h
      refine w_join gC (fun s H => ∃ x20 : Int, y21 = (x20) ∧ s = [u, .fz (a1.map (AV.int .i64)), u, u, u, .int .i64 x20, u, u, .fz (a0.map e_Way), .int .i64 (a0.length : Int), .int .i64 x6, u, u, u, u, u, u, u, u, u, u, u, u, u, u, u, u, u, u, u, u, u, u, u, u] ∧ Own H (F)) (fun K23 hK23 => ?_) (fun s H hq => ?_)
      · refine w_blk fun K19 hK19 => ?_
        refine w_seq fun K24 hK24 => ?_
        refine w_reg gC ?_
        try simp only [W, EE, Nat.reduceAdd]
        refine w_fz rfl rfl rfl (fun _ => rfl) h fun b25 hb25 h => ?_
        try simp only [W, EE, EN, reduceIte, Nat.reduceAdd, Nat.reduceLeDiff]
        refine w_alloc hS rfl rfl fun ip26 wp26 H hS => ?_
        try simp only [W]
        refine w_stv (a := .agg [.int .i64 b25.Delay, .int .i64 b25.Every]) (y' := .agg [.int .i64 b25.Delay, .int .i64 b25.Every]) 0 hS rfl rfl rfl rfl rfl rfl rfl rfl fun H hS => ?_
        try simp only [W]
        refine seq_n hK24 ?_
        refine w_seq fun K28 hK28 => ?_
        refine w_reg gC ?_
        try simp only [W, EE, Nat.reduceAdd]
        refine w_fz rfl rfl rfl (fun _ => rfl) h fun b29 hb29 h => ?_
        try simp only [W, EE]
        refine seq_n hK28 ?_
        obtain ⟨y31, h, g32⟩ := Option.bind_eq_some_iff.1 h
        refine w_join gC (fun s H => ∃ x30 : Int, y31 = (x30) ∧ s = [u, .fz (a1.map (AV.int .i64)), u, u, u, .int .i64 x30, u, u, .fz (a0.map e_Way), .int .i64 (a0.length : Int), .int .i64 x6, u, u, u, u, u, u, u, u, u, u, u, u, u, u, u, u, u, u, u, u, u, u, u, u] ∧ Own H (F)) (fun K33 hK33 => ?_) (fun s H hq => ?_)
        · refine w_seq fun K34 hK34 => ?_
          refine w_if ?_
          simp only [W]
          refine w_cnd h (fun hc h => ?_) (fun hc h => ?_)
          · refine w_draw0 gC (by kernel_rfl) ?_
            try simp only [W, EE, Nat.reduceAdd, Nat.reduceBEq, hS.var 0 rfl]
            refine w_fz rfl rfl rfl (fun _ => rfl) h fun b35 hb35 h => ?_
            try simp only [W, EE]
            refine seq_n hK34 ?_
            refine w_kill ?_
            exact cut_n hK33 ⟨_, (Option.some.inj h).symm, rfl, (hS.sel 1 [] (by decide))⟩
          · refine w_skip ?_
            refine seq_n hK34 ?_
            refine w_kill ?_
            exact cut_n hK33 ⟨_, (Option.some.inj h).symm, rfl, (hS.sel 1 [] (by decide))⟩
        · obtain ⟨x30, ey, rfl, hS⟩ := hq; obtain rfl := ey.symm
          replace h := g32
          try dsimp only at h
          refine blk_n hK19 ?_
          exact cut_n hK23 ⟨_, (Option.some.inj h).symm, rfl, hS⟩
      · obtain ⟨x20, ey, rfl, hS⟩ := hq; obtain rfl := ey.symm
        replace h := g22
        try dsimp only at h
        refine seq_n hK18 ?_
        refine w_reg gC ?_
        try simp only [W, EE, Nat.reduceAdd]
        exact lp_n hK12 h ⟨rfl, hS⟩
    · refine w_exit ?_
      refine seq_x hK17 ?_
      try obtain rfl := Option.some.inj h
      obtain rfl := hd13 _ rfl
      have h : (some (x5) : Option (Int)) = some (x5) := rfl
      refine lp_x hK12 ?_
      refine blk_e hK11 ?_
      exact cut_n hK10 ⟨_, (Option.some.inj h).symm, rfl, hS⟩
  · obtain ⟨x7, ey, rfl, hS⟩ := hq; obtain rfl := ey.symm
    replace h := g15
    try dsimp only at h
    refine seq_n hK3 ?_
    refine w_seq fun K38 hK38 => ?_
    refine w_reg gC ?_
    try simp only [W, Nat.reduceAdd]
    refine seq_n hK38 ?_
    refine w_ret ?_
    refine fin_r1 hK0 rfl ?_
    try obtain rfl := Option.some.inj h
    exact hP _ hS
theorem impl_LastArrival_w {a0 : List Way} {a1 : List Int} {r : (Int × Bool)} (h : impl_LastArrival a0 a1 = some r) {F : List It} {H : Heap} (hS : Own H (F)) {P : AV → Heap → Prop} (hP : ∀ H', Own H' (F) → P (.tup [.int .i64 r.1, .bool r.2]) H') : ACall C 16 [.fz (a0.map e_Way), .fz (a1.map (AV.int .i64))] H P := by
  refine acall_of gC (res := [.tmp 4, .tmp 5]) (n := 23) rfl rfl rfl rfl fun K0 hK0 => ?_
  simp only [W, Nat.reduceSub, Nat.reduceAdd, List.replicate]
  unfold impl_LastArrival at h
  refine w_seq fun K1 hK1 => ?_
  refine w_reg gC ?_
  try simp only [W, Nat.reduceAdd]
  refine seq_n hK1 ?_
  refine w_seq fun K2 hK2 => ?_
  refine w_seq fun K3 hK3 => ?_
  obtain ⟨y5, h, g6⟩ := Option.bind_eq_some_iff.1 h
  refine w_join gC (fun s H => ∃ x4 : Bool, y5 = (x4) ∧ s = [.fz (a0.map e_Way), .fz (a1.map (AV.int .i64)), u, u, u, u, u, u, u, u, u, u, u, u, u, u, u, u, u, .bool x4, u, u, u] ∧ Own H (F)) (fun K7 hK7 => ?_) (fun s H hq => ?_)
  · refine w_seq fun K8 hK8 => ?_
    refine w_reg gC ?_
    try simp only [W, Nat.reduceAdd]
    refine w_call h fun b9 hb9 h => ?_
    refine impl_areWays_w hb9 hS fun H hS => ?_
    try simp only [W]
    refine w_grdT h (fun hc h => ?_) (fun hc h => ?_)
    · try simp only [W, hc]
      refine seq_n hK8 ?_
      refine w_kill ?_
      exact cut_n hK7 ⟨_, (Option.some.inj h).symm, rfl, hS⟩
    · try simp only [W, EE, reduceIte, Bool.false_eq_true, hc]
      refine w_grdT h (fun hc h => ?_) (fun hc h => ?_)
      · try simp only [W, hc]
        refine seq_n hK8 ?_
        refine w_kill ?_
        exact cut_n hK7 ⟨_, (Option.some.inj h).symm, rfl, hS⟩
      · try simp only [W, hc]
        refine w_call h fun b10 hb10 h => ?_
        refine slices_ContainsFunc_int_w hb10 (fun h _ n hL _ hS _ hP => impl_LastArrival_1_w h hS hP) hS fun H hS => ?_
        try simp only [W, reduceIte, Bool.false_eq_true]
        refine seq_n hK8 ?_
        refine w_kill ?_
        exact cut_n hK7 ⟨_, (Option.some.inj h).symm, rfl, hS⟩
  · obtain ⟨x4, ey, rfl, hS⟩ := hq; obtain rfl := ey.symm
    replace h := g6
    try dsimp only at h
    refine seq_n hK3 ?_
    refine w_if ?_
    simp only [W]
    refine w_cnd h (fun hc h => ?_) (fun hc h => ?_)
    · refine w_seq fun K11 hK11 => ?_
      refine w_reg gC ?_
      try simp only [W, Nat.reduceAdd]
      refine seq_n hK11 ?_
      refine w_ret ?_
      refine seq_r hK2 ?_
      refine fin_r2 hK0 rfl rfl ?_
      try obtain rfl := Option.some.inj h
      exact hP _ hS
    · refine w_skip ?_
      refine seq_n hK2 ?_
      refine w_seq fun K12 hK12 => ?_
      refine w_reg gC ?_
      try simp only [W, Nat.reduceAdd]
      refine w_call h fun b13 hb13 h => ?_
      refine impl_last_w hb13 hS fun H hS => ?_
      try simp only [W]
      refine seq_n hK12 ?_
      refine w_ret ?_
      refine fin_r2 hK0 rfl rfl ?_
      try obtain rfl := Option.some.inj h
      exact hP _ hS
theorem spec_l1In_w {a0 : Int} {a1 : Int} {a2 : Int} {r : (Bool)} (h : spec_l1In a0 a1 a2 = some r) {F : List It} {H : Heap} (hS : Own H (F)) {P : AV → Heap → Prop} (hP : ∀ H', Own H' (F) → P (.bool r) H') : ACall C 153 [.int .i64 a0, .int .i64 a1, .int .i64 a2] H P := by
  refine acall_of gC (res := [.tmp 6]) (n := 15) rfl rfl rfl rfl fun K0 hK0 => ?_
  simp only [W, Nat.reduceSub, Nat.reduceAdd, List.replicate]
  unfold spec_l1In at h
  refine w_seq fun K1 hK1 => ?_
  refine w_reg gC ?_
  try simp only [W, Nat.reduceAdd]
  refine seq_n hK1 ?_
  refine w_seq fun K2 hK2 => ?_
  refine w_reg gC ?_
  try simp only [W, EE, Nat.reduceAdd]
  refine w_grdT h (fun hc h => ?_) (fun hc h => ?_)
  · try simp only [W, EE, reduceIte, hc]
    refine seq_n hK2 ?_
    refine w_ret ?_
    refine fin_r1 hK0 rfl ?_
    try obtain rfl := Option.some.inj h
    exact hP _ hS
  · try simp only [W, hc]
    refine seq_n hK2 ?_
    refine w_ret ?_
    refine fin_r1 hK0 rfl ?_
    try obtain rfl := Option.some.inj h
    exact hP _ hS
theorem spec_l14Ways_w {a0 : List Way} {r : (Bool)} (h : spec_l14Ways a0 = some r) {F : List It} {H : Heap} (hS : Own H (F)) {P : AV → Heap → Prop} (hP : ∀ H', Own H' (F) → P (.bool r) H') : ACall C 149 [.fz (a0.map e_Way)] H P := by
  refine acall_of gC (res := [.tmp 2]) (n := 25) rfl rfl rfl rfl fun K0 hK0 => ?_
  simp only [W, Nat.reduceSub, Nat.reduceAdd, List.replicate]
  unfold spec_l14Ways at h
  refine w_seq fun K1 hK1 => ?_
  refine w_reg gC ?_
  try simp only [W, Nat.reduceAdd]
  refine seq_n hK1 ?_
  refine w_seq fun K2 hK2 => ?_
  refine w_seq fun K3 hK3 => ?_
  refine w_reg gC ?_
  try simp only [W, EE, Nat.reduceAdd]
  refine seq_n hK3 ?_
  obtain ⟨y5, hw6, g12⟩ := Option.bind_eq_some_iff.1 h
  refine w_join gC (fun s H => y5 = LR.next () ∧ s = [.fz (a0.map e_Way), u, u, u, u, u, u, u, u, u, u, u, u, u, u, u, u, u, u, u, u, u, u, u, u] ∧ Own H (F)) (fun K7 hK7 => ?_) (fun s H hq => ?_)
  · refine w_blk fun K8 hK8 => ?_
    refine w_loop gC hw6 (fun x s H => s = [.fz (a0.map e_Way), u, u, u, u, .fz (a0.map e_Way), .int .i64 (a0.length : Int), .int .i64 x, u, u, u, u, u, u, u, u, u, u, u, u, u, u, u, u, u] ∧ Own H (F)) ⟨rfl, hS⟩ (fun x4 y11 s H h hd10 hi K9 hK9 => ?_)
    skip
    try dsimp only at hi
    obtain ⟨rfl, hS⟩ := hi
    simp only [spec_l14Ways_l0] at h
    refine w_seq fun K13 hK13 => ?_
    refine w_reg gC ?_
    try simp only [W, EE, Nat.reduceAdd]
    refine seq_n hK13 ?_
    refine w_seq fun K14 hK14 => ?_
    refine w_if ?_
    simp only [W]
    refine w_cnd h (fun hc h => ?_) (fun hc h => ?_)
    · refine w_skip ?_
      refine seq_n hK14 ?_
      refine w_seq fun K15 hK15 => ?_
      refine w_blk fun K16 hK16 => ?_
      refine w_seq fun K17 hK17 => ?_
      refine w_reg gC ?_
      try simp only [W, EE, Nat.reduceAdd]
      refine w_fz rfl rfl rfl (fun _ => rfl) h fun b18 hb18 h => ?_
      try simp only [W, EE, EN, reduceIte, Nat.reduceAdd, Nat.reduceLeDiff]
      refine w_alloc hS rfl rfl fun ip19 wp19 H hS => ?_
      try simp only [W]
      refine w_stv (a := .agg [.int .i64 b18.Delay, .int .i64 b18.Every]) (y' := .agg [.int .i64 b18.Delay, .int .i64 b18.Every]) 0 hS rfl rfl rfl rfl rfl rfl rfl rfl fun H hS => ?_
      try simp only [W]
      refine seq_n hK17 ?_
      refine w_seq fun K21 hK21 => ?_
      obtain ⟨y23, h, g24⟩ := Option.bind_eq_some_iff.1 h
      refine w_join gC (fun s H => ∃ x22 : Bool, y23 = (x22) ∧ s = [.fz (a0.map e_Way), u, u, u, u, .fz (a0.map e_Way), .int .i64 (a0.length : Int), .int .i64 x4, u, u, u, u, u, u, u, u, u, u, u, u, .bool x22, u, u, u, u] ∧ Own H (F)) (fun K25 hK25 => ?_) (fun s H hq => ?_)
      · refine w_seq fun K26 hK26 => ?_
        refine w_reg gC ?_
        try simp only [W, EE, Nat.reduceAdd, Nat.reduceBEq, hS.var 0 rfl]
        refine w_call h fun b27 hb27 h => ?_
        refine spec_l1In_w hb27 hS fun H hS => ?_
        try simp only [W]
        refine w_grdT h (fun hc h => ?_) (fun hc h => ?_)
        · try simp only [W, hc]
          refine seq_n hK26 ?_
          refine w_kill ?_
          exact cut_n hK25 ⟨_, (Option.some.inj h).symm, rfl, (hS.sel 1 [] (by decide))⟩
        · try simp only [W, EE, Nat.reduceAdd, Nat.reduceBEq, hS.var 0 rfl, hc]
          refine w_call h fun b28 hb28 h => ?_
          refine spec_l1In_w hb28 hS fun H hS => ?_
          try simp only [W, reduceIte, Bool.false_eq_true]
          refine seq_n hK26 ?_
          refine w_kill ?_
          exact cut_n hK25 ⟨_, (Option.some.inj h).symm, rfl, (hS.sel 1 [] (by decide))⟩
      · obtain ⟨x22, ey, rfl, hS⟩ := hq; obtain rfl := ey.symm
        replace h := g24
        try dsimp only at h
        refine seq_n hK21 ?_
        refine w_if ?_
        simp only [W]
        refine w_cnd h (fun hc h => ?_) (fun hc h => ?_)
        · refine w_seq fun K29 hK29 => ?_
          refine w_reg gC ?_
          try simp only [W, Nat.reduceAdd]
          refine seq_n hK29 ?_
          refine w_ret ?_
          refine blk_r hK16 ?_
          refine seq_r hK15 ?_
          try obtain rfl := Option.some.inj h
          obtain rfl := hd10 _ rfl
          have h : (some (LR.done false) : Option (LR Unit (Bool))) = some (LR.done false) := rfl
          refine lp_r hK9 ?_
          refine blk_r hK8 ?_
          try obtain rfl := Option.some.inj h
          obtain rfl := Option.some.inj g12
          have h : (some false : Option (Bool)) = some false := rfl
          refine cut_r hK7 ?_
          refine seq_r hK2 ?_
          refine fin_r1 hK0 rfl ?_
          try obtain rfl := Option.some.inj h
          exact hP _ hS
        · refine w_skip ?_
          refine blk_n0 hK16 ?_
          refine seq_n hK15 ?_
          refine w_reg gC ?_
          try simp only [W, EE, Nat.reduceAdd]
          exact lp_n hK9 h ⟨rfl, hS⟩
    · refine w_exit ?_
      refine seq_x hK14 ?_
      try obtain rfl := Option.some.inj h
      obtain rfl := hd10 _ rfl
      have h : (some (LR.next ()) : Option (LR Unit (Bool))) = some (LR.next ()) := rfl
      refine lp_x hK9 ?_
      refine blk_e hK8 ?_
      exact cut_n hK7 ⟨(Option.some.inj h).symm, rfl, hS⟩
  · obtain ⟨rfl, rfl, hS⟩ := hq
    replace h := g12
    try dsimp only at h
    refine seq_n hK2 ?_
    refine w_seq fun K36 hK36 => ?_
    refine w_reg gC ?_
    try simp only [W, EE, Nat.reduceAdd]
    refine w_call h fun b37 hb37 h => ?_
    refine spec_l1In_w hb37 hS fun H hS => ?_
    try simp only [W]
    refine seq_n hK36 ?_
    refine w_ret ?_
    refine fin_r1 hK0 rfl ?_
    try obtain rfl := Option.some.inj h
    exact hP _ hS
theorem spec_l1All_w {a0 : List Int} {a1 : Int} {a2 : Int} {r : (Bool)} (h : spec_l1All a0 a1 a2 = some r) {F : List It} {H : Heap} (hS : Own H (F)) {P : AV → Heap → Prop} (hP : ∀ H', Own H' (F) → P (.bool r) H') : ACall C 150 [.fz (a0.map (AV.int .i64)), .int .i64 a1, .int .i64 a2] H P := by
  refine acall_of gC (res := [.tmp 6]) (n := 21) rfl rfl rfl rfl fun K0 hK0 => ?_
  simp only [W, Nat.reduceSub, Nat.reduceAdd, List.replicate]
  unfold spec_l1All at h
  refine w_seq fun K1 hK1 => ?_
  refine w_reg gC ?_
  try simp only [W, Nat.reduceAdd]
  refine seq_n hK1 ?_
  refine w_seq fun K2 hK2 => ?_
  refine w_seq fun K3 hK3 => ?_
  refine w_reg gC ?_
  try simp only [W, EE, Nat.reduceAdd]
  refine seq_n hK3 ?_
  obtain ⟨y5, hw6, g12⟩ := Option.bind_eq_some_iff.1 h
  refine w_join gC (fun s H => y5 = LR.next () ∧ s = [u, u, u, u, u, u, u, u, u, u, u, u, u, u, u, u, u, u, u, u, u] ∧ Own H (F)) (fun K7 hK7 => ?_) (fun s H hq => ?_)
  · refine w_blk fun K8 hK8 => ?_
    refine w_loop gC hw6 (fun x s H => s = [u, .int .i64 a1, .int .i64 a2, u, u, u, u, u, u, .fz (a0.map (AV.int .i64)), .int .i64 (a0.length : Int), .int .i64 x, u, u, u, u, u, u, u, u, u] ∧ Own H (F)) ⟨rfl, hS⟩ (fun x4 y11 s H h hd10 hi K9 hK9 => ?_)
    skip
    try dsimp only at hi
    obtain ⟨rfl, hS⟩ := hi
    simp only [spec_l1All_l0] at h
    refine w_seq fun K13 hK13 => ?_
    refine w_reg gC ?_
    try simp only [W, EE, Nat.reduceAdd]
    refine seq_n hK13 ?_
    refine w_seq fun K14 hK14 => ?_
    refine w_if ?_
    simp only [W]
    refine w_cnd h (fun hc h => ?_) (fun hc h => ?_)
    · refine w_skip ?_
      refine seq_n hK14 ?_
      refine w_seq fun K15 hK15 => ?_
      refine w_blk fun K16 hK16 => ?_
      refine w_seq fun K17 hK17 => ?_
      refine w_reg gC ?_
      try simp only [W, EE, Nat.reduceAdd]
      refine w_fz rfl rfl rfl (fun _ => rfl) h fun b18 hb18 h => ?_
      try simp only [W, EE]
      refine seq_n hK17 ?_
      refine w_seq fun K19 hK19 => ?_
      refine w_reg gC ?_
      try simp only [W, Nat.reduceAdd]
      refine w_call h fun b20 hb20 h => ?_
      refine spec_l1In_w hb20 hS fun H hS => ?_
      try simp only [W]
      refine seq_n hK19 ?_
      refine w_if ?_
      simp only [W]
      refine w_cnd h (fun hc h => ?_) (fun hc h => ?_)
      · refine w_seq fun K21 hK21 => ?_
        refine w_reg gC ?_
        try simp only [W, Nat.reduceAdd]
        refine seq_n hK21 ?_
        refine w_ret ?_
        refine blk_r hK16 ?_
        refine seq_r hK15 ?_
        try obtain rfl := Option.some.inj h
        obtain rfl := hd10 _ rfl
        have h : (some (LR.done false) : Option (LR Unit (Bool))) = some (LR.done false) := rfl
        refine lp_r hK9 ?_
        refine blk_r hK8 ?_
        try obtain rfl := Option.some.inj h
        obtain rfl := Option.some.inj g12
        have h : (some false : Option (Bool)) = some false := rfl
        refine cut_r hK7 ?_
        refine seq_r hK2 ?_
        refine fin_r1 hK0 rfl ?_
        try obtain rfl := Option.some.inj h
        exact hP _ hS
      · refine w_skip ?_
        refine blk_n0 hK16 ?_
        refine seq_n hK15 ?_
        refine w_reg gC ?_
        try simp only [W, EE, Nat.reduceAdd]
        exact lp_n hK9 h ⟨rfl, hS⟩
    · refine w_exit ?_
      refine seq_x hK14 ?_
      try obtain rfl := Option.some.inj h
      obtain rfl := hd10 _ rfl
      have h : (some (LR.next ()) : Option (LR Unit (Bool))) = some (LR.next ()) := rfl
      refine lp_x hK9 ?_
      refine blk_e hK8 ?_
      exact cut_n hK7 ⟨(Option.some.inj h).symm, rfl, hS⟩
  · obtain ⟨rfl, rfl, hS⟩ := hq
    replace h := g12
    try dsimp only at h
    refine seq_n hK2 ?_
    refine w_seq fun K28 hK28 => ?_
    refine w_reg gC ?_
    try simp only [W, Nat.reduceAdd]
    refine seq_n hK28 ?_
    refine w_ret ?_
    refine fin_r1 hK0 rfl ?_
    try obtain rfl := Option.some.inj h
    exact hP _ hS
theorem spec_l1Most_w {a0 : Int} {a1 : Int} {r : (Int)} (h : spec_l1Most a0 a1 = some r) {F : List It} {H : Heap} (hS : Own H (F)) {P : AV → Heap → Prop} (hP : ∀ H', Own H' (F) → P (.int .i64 r) H') : ACall C 210 [.int .i64 a0, .int .i64 a1] H P := by
  refine acall_of gC (res := [.tmp 4]) (n := 10) rfl rfl rfl rfl fun K0 hK0 => ?_
  simp only [W, Nat.reduceSub, Nat.reduceAdd, List.replicate]
  unfold spec_l1Most at h
  refine w_seq fun K1 hK1 => ?_
  refine w_reg gC ?_
  try simp only [W, Nat.reduceAdd]
  refine seq_n hK1 ?_
  refine w_seq fun K2 hK2 => ?_
  refine w_seq fun K3 hK3 => ?_
  refine w_reg gC ?_
  try simp only [W, EE, Nat.reduceAdd]
  refine seq_n hK3 ?_
  refine w_if ?_
  simp only [W]
  refine w_cnd h (fun hc h => ?_) (fun hc h => ?_)
  · refine w_seq fun K4 hK4 => ?_
    refine w_reg gC ?_
    try simp only [W, Nat.reduceAdd]
    refine seq_n hK4 ?_
    refine w_ret ?_
    refine seq_r hK2 ?_
    refine fin_r1 hK0 rfl ?_
    try obtain rfl := Option.some.inj h
    exact hP _ hS
  · refine w_skip ?_
    refine seq_n hK2 ?_
    refine w_seq fun K5 hK5 => ?_
    refine w_reg gC ?_
    try simp only [W, Nat.reduceAdd]
    refine seq_n hK5 ?_
    refine w_ret ?_
    refine fin_r1 hK0 rfl ?_
    try obtain rfl := Option.some.inj h
    exact hP _ hS
theorem spec_l14Last_w {a0 : List Way} {a1 : List Int} {r : (Int)} (h : spec_l14Last a0 a1 = some r) {F : List It} {H : Heap} (hS : Own H (F)) {P : AV → Heap → Prop} (hP : ∀ H', Own H' (F) → P (.int .i64 r) H') : ACall C 151 [.fz (a0.map e_Way), .fz (a1.map (AV.int .i64))] H P := by
  refine acall_of gC (res := [.tmp 4]) (n := 35) rfl rfl rfl rfl fun K0 hK0 => ?_
  simp only [W, Nat.reduceSub, Nat.reduceAdd, List.replicate]
  unfold spec_l14Last at h
  refine w_seq fun K1 hK1 => ?_
  refine w_reg gC ?_
  try simp only [W, Nat.reduceAdd]
  refine seq_n hK1 ?_
  refine w_seq fun K2 hK2 => ?_
  refine w_reg gC ?_
  try simp only [W, Nat.reduceAdd]
  refine seq_n hK2 ?_
  refine w_seq fun K3 hK3 => ?_
  refine w_seq fun K4 hK4 => ?_
  refine w_reg gC ?_
  try simp only [W, EE, Nat.reduceAdd]
  refine seq_n hK4 ?_
  obtain ⟨y8, hw9, g15⟩ := Option.bind_eq_some_iff.1 h
  refine w_join gC (fun s H => ∃ x7 : Int, y8 = (x7) ∧ s = [u, u, u, u, u, .int .i64 x7, u, u, u, u, u, u, u, u, u, u, u, u, u, u, u, u, u, u, u, u, u, u, u, u, u, u, u, u, u] ∧ Own H (F)) (fun K10 hK10 => ?_) (fun s H hq => ?_)
  · refine w_blk fun K11 hK11 => ?_
    refine w_loop gC hw9 (fun x s H => match x with | (x5, x6) => s = [.fz (a0.map e_Way), u, u, u, u, .int .i64 x5, u, u, .fz (a1.map (AV.int .i64)), .int .i64 (a1.length : Int), .int .i64 x6, u, u, u, u, u, u, u, u, u, u, u, u, u, u, u, u, u, u, u, u, u, u, u, u] ∧ Own H (F)) ⟨rfl, hS⟩ (fun x y14 s H h hd13 hi K12 hK12 => ?_)
    obtain ⟨x5, x6⟩ := x
    try dsimp only at hi
    obtain ⟨rfl, hS⟩ := hi
    simp only [spec_l14Last_l0] at h
    refine w_seq fun K16 hK16 => ?_
    refine w_reg gC ?_
    try simp only [W, EE, Nat.reduceAdd]
    refine seq_n hK16 ?_
    refine w_seq fun K17 hK17 => ?_
    refine w_if ?_
    simp only [W]
    refine w_cnd h (fun hc h => ?_) (fun hc h => ?_)
    · refine w_skip ?_
      refine seq_n hK17 ?_
      refine w_seq fun K18 hK18 => ?_
      obtain ⟨y21, h, g22⟩ := Option.bind_eq_some_iff.1 h
      refine w_join gC (fun s H => ∃ x20 : Int, y21 = (x20) ∧ s = [.fz (a0.map e_Way), u, u, u, u, .int .i64 x20, u, u, .fz (a1.map (AV.int .i64)), .int .i64 (a1.length : Int), .int .i64 x6, u, u, u, u, u, u, u, u, u, u, u, u, u, u, u, u, u, u, u, u, u, u, u, u] ∧ Own H (F)) (fun K23 hK23 => ?_) (fun s H hq => ?_)
      · refine w_blk fun K19 hK19 => ?_
        refine w_seq fun K24 hK24 => ?_
        refine w_reg gC ?_
        try simp only [W, EE, Nat.reduceAdd]
        refine w_fz rfl rfl rfl (fun _ => rfl) h fun b25 hb25 h => ?_
        try simp only [W, EE]
        refine seq_n hK24 ?_
        refine w_seq fun K26 hK26 => ?_
        refine w_reg gC ?_
        try simp only [W, EE, Nat.reduceAdd]
        refine seq_n hK26 ?_
        obtain ⟨y28, h, g29⟩ := Option.bind_eq_some_iff.1 h
        refine w_join gC (fun s H => ∃ x27 : Int, y28 = (x27) ∧ s = [.fz (a0.map e_Way), u, u, u, u, .int .i64 x27, u, u, .fz (a1.map (AV.int .i64)), .int .i64 (a1.length : Int), .int .i64 x6, u, u, u, u, u, u, u, u, u, u, u, u, u, u, u, u, u, u, u, u, u, u, u, u] ∧ Own H (F)) (fun K30 hK30 => ?_) (fun s H hq => ?_)
        · refine w_seq fun K31 hK31 => ?_
          refine w_if ?_
          simp only [W]
          refine w_cnd h (fun hc h => ?_) (fun hc h => ?_)
          · refine w_draw0 gC (by kernel_rfl) ?_
            try simp only [W, EE, Nat.reduceAdd]
            refine w_fz rfl rfl rfl (fun _ => rfl) h fun b32 hb32 h => ?_
            try simp only [W, EE, EN, Nat.reduceAdd, Nat.reduceBEq]
            refine w_fz rfl rfl rfl (fun _ => rfl) h fun b33 hb33 h => ?_
            try simp only [W, EE, EN, Nat.reduceAdd, Nat.reduceBEq]
            refine w_callS (rsh := [[.sc]]) (ys := [.int .i64 x5, .int .i64 (IntKind.i64.wrap (b32.Delay + (IntKind.i64.wrap ((IntKind.i64.wrap (b25 - 1)) * b33.Every))))]) h rfl (by rfl) fun b34 hb34 h => ⟨.int .i64 b34, spec_l1Most_w hb34 (Own.nil _) fun H hS => TV_ok rfl (TV_p rfl (TV_n rfl)), ⟨rfl, rfl, fun _ => rfl⟩, ?_⟩
            try simp only [W]
            refine seq_n hK31 ?_
            refine w_kill ?_
            exact cut_n hK30 ⟨_, (Option.some.inj h).symm, rfl, hS⟩
          · refine w_skip ?_
            refine seq_n hK31 ?_
            refine w_kill ?_
            exact cut_n hK30 ⟨_, (Option.some.inj h).symm, rfl, hS⟩
        · obtain ⟨x27, ey, rfl, hS⟩ := hq; obtain rfl := ey.symm
          replace h := g29
          try dsimp only at h
          refine blk_n hK19 ?_
          exact cut_n hK23 ⟨_, (Option.some.inj h).symm, rfl, hS⟩
      · obtain ⟨x20, ey, rfl, hS⟩ := hq; obtain rfl := ey.symm
        replace h := g22
        try dsimp only at h
        refine seq_n hK18 ?_
        refine w_reg gC ?_
        try simp only [W, EE, Nat.reduceAdd]
        exact lp_n hK12 h ⟨rfl, hS⟩
    · refine w_exit ?_
      refine seq_x hK17 ?_
      try obtain rfl := Option.some.inj h
      obtain rfl := hd13 _ rfl
      have h : (some (x5) : Option (Int)) = some (x5) := rfl
      refine lp_x hK12 ?_
      refine blk_e hK11 ?_
      exact cut_n hK10 ⟨_, (Option.some.inj h).symm, rfl, hS⟩
  · obtain ⟨x7, ey, rfl, hS⟩ := hq; obtain rfl := ey.symm
    replace h := g15
    try dsimp only at h
    refine seq_n hK3 ?_
    refine w_seq fun K37 hK37 => ?_
    refine w_reg gC ?_
    try simp only [W, Nat.reduceAdd]
    refine seq_n hK37 ?_
    refine w_ret ?_
    refine fin_r1 hK0 rfl ?_
    try obtain rfl := Option.some.inj h
    exact hP _ hS
theorem spec_LastArrival_w {a0 : List Way} {a1 : List Int} {r : (Int × Bool)} (h : spec_LastArrival a0 a1 = some r) {F : List It} {H : Heap} (hS : Own H (F)) {P : AV → Heap → Prop} (hP : ∀ H', Own H' (F) → P (.tup [.int .i64 r.1, .bool r.2]) H') : ACall C 17 [.fz (a0.map e_Way), .fz (a1.map (AV.int .i64))] H P := by
  refine acall_of gC (res := [.tmp 4, .tmp 5]) (n := 24) rfl rfl rfl rfl fun K0 hK0 => ?_
  simp only [W, Nat.reduceSub, Nat.reduceAdd, List.replicate]
  unfold spec_LastArrival at h
  refine w_seq fun K1 hK1 => ?_
  refine w_reg gC ?_
  try simp only [W, Nat.reduceAdd]
  refine seq_n hK1 ?_
  refine w_seq fun K2 hK2 => ?_
  refine w_seq fun K3 hK3 => ?_
  obtain ⟨y5, h, g6⟩ := Option.bind_eq_some_iff.1 h
  refine w_join gC (fun s H => ∃ x4 : Bool, y5 = (x4) ∧ s = [.fz (a0.map e_Way), .fz (a1.map (AV.int .i64)), u, u, u, u, u, u, u, u, u, u, u, u, u, u, u, u, u, u, .bool x4, u, u, u] ∧ Own H (F)) (fun K7 hK7 => ?_) (fun s H hq => ?_)
  · refine w_seq fun K8 hK8 => ?_
    refine w_reg gC ?_
    try simp only [W, Nat.reduceAdd]
    refine w_call h fun b9 hb9 h => ?_
    refine spec_l14Ways_w hb9 hS fun H hS => ?_
    try simp only [W]
    refine w_grdT h (fun hc h => ?_) (fun hc h => ?_)
    · try simp only [W, hc]
      refine seq_n hK8 ?_
      refine w_kill ?_
      exact cut_n hK7 ⟨_, (Option.some.inj h).symm, rfl, hS⟩
    · try simp only [W, EE, reduceIte, Bool.false_eq_true, hc]
      refine w_grdT h (fun hc h => ?_) (fun hc h => ?_)
      · try simp only [W, hc]
        refine seq_n hK8 ?_
        refine w_kill ?_
        exact cut_n hK7 ⟨_, (Option.some.inj h).symm, rfl, hS⟩
      · try simp only [W, hc]
        refine w_call h fun b10 hb10 h => ?_
        refine spec_l1All_w hb10 hS fun H hS => ?_
        try simp only [W, reduceIte, Bool.false_eq_true]
        refine seq_n hK8 ?_
        refine w_kill ?_
        exact cut_n hK7 ⟨_, (Option.some.inj h).symm, rfl, hS⟩
  · obtain ⟨x4, ey, rfl, hS⟩ := hq; obtain rfl := ey.symm
    replace h := g6
    try dsimp only at h
    refine seq_n hK3 ?_
    refine w_if ?_
    simp only [W]
    refine w_cnd h (fun hc h => ?_) (fun hc h => ?_)
    · refine w_seq fun K11 hK11 => ?_
      refine w_reg gC ?_
      try simp only [W, Nat.reduceAdd]
      refine seq_n hK11 ?_
      refine w_ret ?_
      refine seq_r hK2 ?_
      refine fin_r2 hK0 rfl rfl ?_
      try obtain rfl := Option.some.inj h
      exact hP _ hS
    · refine w_skip ?_
      refine seq_n hK2 ?_
      refine w_seq fun K12 hK12 => ?_
      refine w_reg gC ?_
      try simp only [W, Nat.reduceAdd]
      refine w_call h fun b13 hb13 h => ?_
      refine spec_l14Last_w hb13 hS fun H hS => ?_
      try simp only [W]
      refine seq_n hK12 ?_
      refine w_ret ?_
      refine fin_r2 hK0 rfl rfl ?_
      try obtain rfl := Option.some.inj h
      exact hP _ hS
theorem laws_sumOf_w {a0 : List Int} {r : (Int)} (h : laws_sumOf a0 = some r) {F : List It} {H : Heap} (hS : Own H (F)) {P : AV → Heap → Prop} (hP : ∀ H', Own H' (F) → P (.int .i64 r) H') : ACall C 18 [.fz (a0.map (AV.int .i64))] H P := by
  refine acall_of gC (res := [.tmp 2]) (n := 17) rfl rfl rfl rfl fun K0 hK0 => ?_
  simp only [W, Nat.reduceSub, Nat.reduceAdd, List.replicate]
  unfold laws_sumOf at h
  refine w_seq fun K1 hK1 => ?_
  refine w_reg gC ?_
  try simp only [W, Nat.reduceAdd]
  refine seq_n hK1 ?_
  refine w_seq fun K2 hK2 => ?_
  refine w_reg gC ?_
  try simp only [W, Nat.reduceAdd]
  refine seq_n hK2 ?_
  refine w_seq fun K3 hK3 => ?_
  refine w_seq fun K4 hK4 => ?_
  refine w_reg gC ?_
  try simp only [W, EE, Nat.reduceAdd]
  refine seq_n hK4 ?_
  obtain ⟨y8, hw9, g15⟩ := Option.bind_eq_some_iff.1 h
  refine w_join gC (fun s H => ∃ x7 : Int, y8 = (x7) ∧ s = [u, u, u, .int .i64 x7, u, u, u, u, u, u, u, u, u, u, u, u, u] ∧ Own H (F)) (fun K10 hK10 => ?_) (fun s H hq => ?_)
  · refine w_blk fun K11 hK11 => ?_
    refine w_loop gC hw9 (fun x s H => match x with | (x5, x6) => s = [u, u, u, .int .i64 x5, u, u, .fz (a0.map (AV.int .i64)), .int .i64 (a0.length : Int), .int .i64 x6, u, u, u, u, u, u, u, u] ∧ Own H (F)) ⟨rfl, hS⟩ (fun x y14 s H h hd13 hi K12 hK12 => ?_)
    obtain ⟨x5, x6⟩ := x
    try dsimp only at hi
    obtain ⟨rfl, hS⟩ := hi
    simp only [laws_sumOf_l0] at h
    refine w_seq fun K16 hK16 => ?_
    refine w_reg gC ?_
    try simp only [W, EE, Nat.reduceAdd]
    refine seq_n hK16 ?_
    refine w_seq fun K17 hK17 => ?_
    refine w_if ?_
    simp only [W]
    refine w_cnd h (fun hc h => ?_) (fun hc h => ?_)
    · refine w_skip ?_
      refine seq_n hK17 ?_
      refine w_seq fun K18 hK18 => ?_
      refine w_blk fun K19 hK19 => ?_
      refine w_seq fun K20 hK20 => ?_
      refine w_reg gC ?_
      try simp only [W, EE, Nat.reduceAdd]
      refine w_fz rfl rfl rfl (fun _ => rfl) h fun b21 hb21 h => ?_
      try simp only [W, EE]
      refine seq_n hK20 ?_
      refine w_reg gC ?_
      try simp only [W, EE, Nat.reduceAdd]
      refine blk_n0 hK19 ?_
      refine seq_n hK18 ?_
      refine w_reg gC ?_
      try simp only [W, EE, Nat.reduceAdd]
      exact lp_n hK12 h ⟨rfl, hS⟩
    · refine w_exit ?_
      refine seq_x hK17 ?_
      try obtain rfl := Option.some.inj h
      obtain rfl := hd13 _ rfl
      have h : (some (x5) : Option (Int)) = some (x5) := rfl
      refine lp_x hK12 ?_
      refine blk_e hK11 ?_
      exact cut_n hK10 ⟨_, (Option.some.inj h).symm, rfl, hS⟩
  · obtain ⟨x7, ey, rfl, hS⟩ := hq; obtain rfl := ey.symm
    replace h := g15
    try dsimp only at h
    refine seq_n hK3 ?_
    refine w_seq fun K24 hK24 => ?_
    refine w_reg gC ?_
    try simp only [W, Nat.reduceAdd]
    refine seq_n hK24 ?_
    refine w_ret ?_
    refine fin_r1 hK0 rfl ?_
    try obtain rfl := Option.some.inj h
    exact hP _ hS
theorem impl_ArriveAll_1_w {a0 : Int} {a1 : List Way} {a2 : List Int} {i1 : Nat} {w1 : Nat} {i2 : Nat} {w2 : Nat} {r : (Int)} (h : impl_ArriveAll_1 a0 a1 a2 = some r) {F : List It} {H : Heap} (hm1 : ⟨.ptr i1 w1 0 0, 1, [.fz (a1.map e_Way)]⟩ ∈ F) (hm2 : ⟨.ptr i2 w2 0 0, 1, [.fz (a2.map (AV.int .i64))]⟩ ∈ F) (hS : Own H (F)) {P : AV → Heap → Prop} (hP : ∀ H', Own H' (F) → P (.int .i64 r) H') : ACall C 152 [.int .i64 a0, .ptr i1 w1 0 0, .ptr i2 w2 0 0] H P := by
  refine acall_of gC (res := [.tmp 4]) (n := 21) rfl rfl rfl rfl fun K0 hK0 => ?_
  simp only [W, Nat.reduceSub, Nat.reduceAdd, List.replicate]
  unfold impl_ArriveAll_1 at h
  refine w_seq fun K1 hK1 => ?_
  refine w_reg gC ?_
  try simp only [W, Nat.reduceAdd]
  refine seq_n hK1 ?_
  refine w_seq fun K2 hK2 => ?_
  refine w_draw0 gC (by kernel_rfl) ?_
  try simp only [W, EE, Nat.reduceAdd, hS.varm hm1]
  refine w_fz rfl rfl rfl (fun _ => rfl) h fun b3 hb3 h => ?_
  try simp only [W, EE, EN, Nat.reduceAdd, Nat.reduceBEq, hS.varm hm1]
  refine w_fz rfl rfl rfl (fun _ => rfl) h fun b4 hb4 h => ?_
  try simp only [W, EE, EN, Nat.reduceAdd, Nat.reduceBEq, hS.varm hm2]
  refine w_fz rfl rfl rfl (fun _ => rfl) h fun b5 hb5 h => ?_
  try simp only [W, EE]
  refine seq_n hK2 ?_
  refine w_ret ?_
  refine fin_r1 hK0 rfl ?_
  try obtain rfl := Option.some.inj h
  exact hP _ hS
theorem impl_ArriveAll_1_wq {a0 : Int} {a1 : List Way} {a2 : List Int} {r : (Int)} (h : impl_ArriveAll_1 a0 a1 a2 = some r) {F : List It} {H : Heap} (hS : Own H (F)) {P : AV → Heap → Prop} (hP : ∀ H', Own H' (F) → P (.int .i64 r) H') : ACall C 152 [.int .i64 a0, .fe (.fz (a1.map e_Way)) 0, .fe (.fz (a2.map (AV.int .i64))) 0] H P := by
  refine acall_of gC (res := [.tmp 4]) (n := 21) rfl rfl rfl rfl fun K0 hK0 => ?_
  simp only [W, Nat.reduceSub, Nat.reduceAdd, List.replicate]
  unfold impl_ArriveAll_1 at h
  refine w_seq fun K1 hK1 => ?_
  refine w_reg gC ?_
  try simp only [W, Nat.reduceAdd]
  refine seq_n hK1 ?_
  refine w_seq fun K2 hK2 => ?_
  refine w_draw0 gC (by kernel_rfl) ?_
  try simp only [W, EE, Nat.reduceAdd]
  refine w_fz rfl rfl rfl (fun _ => rfl) h fun b3 hb3 h => ?_
  try simp only [W, EE, EN, Nat.reduceAdd, Nat.reduceBEq]
  refine w_fz rfl rfl rfl (fun _ => rfl) h fun b4 hb4 h => ?_
  try simp only [W, EE, EN, Nat.reduceAdd, Nat.reduceBEq]
  refine w_fz rfl rfl rfl (fun _ => rfl) h fun b5 hb5 h => ?_
  try simp only [W, EE]
  refine seq_n hK2 ?_
  refine w_ret ?_
  refine fin_r1 hK0 rfl ?_
  try obtain rfl := Option.some.inj h
  exact hP _ hS
theorem impl_ArriveAll_w {a0 : List Way} {a1 : Int} {r : (List Int × Int × Bool)} (h : impl_ArriveAll a0 a1 = some r) {F : List It} {H : Heap} (hS : Own H (F)) {P : AV → Heap → Prop} (hP : ∀ v79 : AV, isSl v79 → ∀ H', Own H' (⟨v79, 1, r.1.map (AV.int .i64)⟩ :: F) → P (.tup [v79, .int .i64 r.2.1, .bool r.2.2]) H') : ACall C 19 [.fz (a0.map e_Way), .int .i64 a1] H P := by
  refine acall_of gC (res := [.tmp 4, .tmp 5, .tmp 6]) (n := 51) rfl rfl rfl rfl fun K0 hK0 => ?_
  simp only [W, Nat.reduceSub, Nat.reduceAdd, List.replicate]
  unfold impl_ArriveAll at h
  refine w_seq fun K1 hK1 => ?_
  refine w_reg gC ?_
  try simp only [W, Nat.reduceAdd]
  refine w_box hS rfl rfl rfl rfl fun ip2 wp2 H hS => ?_
  try simp only [W]
  refine seq_n hK1 ?_
  refine w_seq fun K4 hK4 => ?_
  refine w_seq fun K5 hK5 => ?_
  obtain ⟨y7, h, g8⟩ := Option.bind_eq_some_iff.1 h
  refine w_join gC (fun s H => ∃ x6 : Bool, y7 = (x6) ∧ s = [u, .int .i64 a1, .ptr ip2 wp2 0 0, u, u, u, u, u, u, u, u, u, u, u, u, u, u, u, .bool x6, u, u, u, u, u, u, u, u, u, u, u, u, u, u, u, u, u, u, u, u, u, u, u, u, u, u, u, u, u, u, u, u] ∧ Own H (⟨.ptr ip2 wp2 0 0, 1, [.fz (a0.map e_Way)]⟩ :: F)) (fun K9 hK9 => ?_) (fun s H hq => ?_)
  · refine w_seq fun K10 hK10 => ?_
    refine w_reg gC ?_
    try simp only [W, EE, Nat.reduceAdd, hS.var 0 rfl]
    refine w_call h fun b11 hb11 h => ?_
    refine impl_areWays_w hb11 hS fun H hS => ?_
    try simp only [W]
    refine w_grdT h (fun hc h => ?_) (fun hc h => ?_)
    · try simp only [W, hc]
      refine seq_n hK10 ?_
      refine w_kill ?_
      exact cut_n hK9 ⟨_, (Option.some.inj h).symm, rfl, hS⟩
    · try simp only [W, hc]
      refine w_call h fun b12 hb12 h => ?_
      refine impl_in_w hb12 hS fun H hS => ?_
      try simp only [W, reduceIte, Bool.false_eq_true]
      refine seq_n hK10 ?_
      refine w_kill ?_
      exact cut_n hK9 ⟨_, (Option.some.inj h).symm, rfl, hS⟩
  · obtain ⟨x6, ey, rfl, hS⟩ := hq; obtain rfl := ey.symm
    replace h := g8
    try dsimp only at h
    refine seq_n hK5 ?_
    refine w_if ?_
    simp only [W]
    refine w_cnd h (fun hc h => ?_) (fun hc h => ?_)
    · refine w_seq fun K13 hK13 => ?_
      refine w_reg gC ?_
      try simp only [W, Nat.reduceAdd]
      refine seq_n hK13 ?_
      refine w_ret ?_
      refine seq_r hK4 ?_
      refine fin_r3 hK0 rfl rfl rfl ?_
      try obtain rfl := Option.some.inj h
      exact hP _ isSl_nil _ ((hS.nil_ 1).sel 2 [0] (by decide))
    · refine w_skip ?_
      refine seq_n hK4 ?_
      refine w_seq fun K14 hK14 => ?_
      refine w_reg gC ?_
      try simp only [W, EE, Nat.reduceAdd, hS.var 0 rfl]
      refine w_make (c := (AV.int .i64)) hS rfl rfl rfl rfl rfl rfl h fun v15 H x17 qv15 hm h hS => ?_
      try simp only [W]
      refine w_alloc hS rfl rfl fun ip18 wp18 H hS => ?_
      try simp only [W]
      refine w_stv (a := v15) (y' := v15) 0 hS rfl rfl rfl rfl (by rw [qv15.cells]; rfl) qv15.stora (qv15.wr1 (by simp) (by simp)) (by rw [qv15.cells]; rfl) fun H hS => ?_
      try simp only [W]
      refine seq_n hK14 ?_
      refine w_seq fun K20 hK20 => ?_
      refine w_seq fun K21 hK21 => ?_
      refine w_reg gC ?_
      try simp only [W, Nat.reduceAdd]
      refine seq_n hK21 ?_
      obtain ⟨y25, hw26, g32⟩ := Option.bind_eq_some_iff.1 h
      refine w_join gC (fun s H => ∃ x24 : List Int, y25 = (x24) ∧ s = [u, u, .ptr ip2 wp2 0 0, u, u, u, u, .ptr ip18 wp18 0 0, u, u, u, u, u, u, u, u, u, u, u, u, u, u, u, u, u, u, u, u, u, u, u, u, u, u, u, u, u, u, u, u, u, u, u, u, u, u, u, u, u, u, u] ∧ Own H (⟨v15, 1, x24.map (AV.int .i64)⟩ :: ⟨.ptr ip2 wp2 0 0, 1, [.fz (a0.map e_Way)]⟩ :: ⟨.ptr ip18 wp18 0 0, 1, [v15]⟩ :: F)) (fun K27 hK27 => ?_) (fun s H hq => ?_)
      · refine w_blk fun K28 hK28 => ?_
        refine w_loop gC hw26 (fun x s H => match x with | (x22, x23) => s = [u, u, .ptr ip2 wp2 0 0, u, u, u, u, .ptr ip18 wp18 0 0, u, u, u, u, u, u, u, u, u, u, u, u, u, u, .int .i64 a1, .int .i64 x22, u, u, u, u, u, u, u, u, u, u, u, u, u, u, u, u, u, u, u, u, u, u, u, u, u, u, u] ∧ Own H (⟨v15, 1, x23.map (AV.int .i64)⟩ :: ⟨.ptr ip2 wp2 0 0, 1, [.fz (a0.map e_Way)]⟩ :: ⟨.ptr ip18 wp18 0 0, 1, [v15]⟩ :: F)) ⟨rfl, (hS.sel 3 [1, 2, 0] (by decide))⟩ (fun x y31 s H h hd30 hi K29 hK29 => ?_)
        obtain ⟨x22, x23⟩ := x
        try dsimp only at hi
        obtain ⟨rfl, hS⟩ := hi
        simp only [impl_ArriveAll_l1] at h
        refine w_seq fun K33 hK33 => ?_
        refine w_reg gC ?_
        try simp only [W, EE, Nat.reduceAdd]
        refine seq_n hK33 ?_
        refine w_seq fun K34 hK34 => ?_
        refine w_if ?_
        simp only [W]
        refine w_cnd h (fun hc h => ?_) (fun hc h => ?_)
        · refine w_skip ?_
          refine seq_n hK34 ?_
          refine w_seq fun K35 hK35 => ?_
          refine w_blk fun K36 hK36 => ?_
          refine w_seq fun K37 hK37 => ?_
          refine w_reg gC ?_
          try simp only [W, Nat.reduceAdd]
          refine seq_n hK37 ?_
          refine w_seq fun K38 hK38 => ?_
          refine w_reg gC ?_
          try simp only [W, Nat.reduceAdd]
          refine seq_n hK38 ?_
          refine w_seq fun K39 hK39 => ?_
          refine w_seq fun K40 hK40 => ?_
          refine w_reg gC ?_
          try simp only [W, EE, Nat.reduceAdd, hS.var 1 rfl]
          refine seq_n hK40 ?_
          obtain ⟨y44, hw45, g51⟩ := Option.bind_eq_some_iff.1 h
          refine w_join gC (fun s H => ∃ x43 : Int, y44 = (x43) ∧ s = [u, u, .ptr ip2 wp2 0 0, u, u, u, u, .ptr ip18 wp18 0 0, .int .i64 x43, u, u, u, u, u, u, u, u, u, u, u, u, u, .int .i64 a1, .int .i64 x22, u, u, u, u, u, u, u, u, u, u, u, u, u, u, u, u, u, u, u, u, u, u, u, u, u, u, u] ∧ Own H (⟨v15, 1, x23.map (AV.int .i64)⟩ :: ⟨.ptr ip2 wp2 0 0, 1, [.fz (a0.map e_Way)]⟩ :: ⟨.ptr ip18 wp18 0 0, 1, [v15]⟩ :: F)) (fun K46 hK46 => ?_) (fun s H hq => ?_)
          · refine w_blk fun K47 hK47 => ?_
            refine w_loop gC hw45 (fun x s H => match x with | (x41, x42) => s = [u, u, .ptr ip2 wp2 0 0, u, u, u, u, .ptr ip18 wp18 0 0, .int .i64 x41, .fn 152 [.ptr ip2 wp2 0 0, .ptr ip18 wp18 0 0], u, u, u, u, u, u, u, u, u, u, u, u, .int .i64 a1, .int .i64 x22, u, u, u, .int .i64 (a0.length : Int), .int .i64 x42, u, u, u, u, u, u, u, u, u, u, u, u, u, u, u, u, u, u, u, u, u, u] ∧ Own H (⟨v15, 1, x23.map (AV.int .i64)⟩ :: ⟨.ptr ip2 wp2 0 0, 1, [.fz (a0.map e_Way)]⟩ :: ⟨.ptr ip18 wp18 0 0, 1, [v15]⟩ :: F)) ⟨rfl, hS⟩ (fun x y50 s H h hd49 hi K48 hK48 => ?_)
            obtain ⟨x41, x42⟩ := x
            try dsimp only at hi
            obtain ⟨rfl, hS⟩ := hi
            simp only [impl_ArriveAll_l0] at h
            refine w_seq fun K52 hK52 => ?_
            refine w_reg gC ?_
            try simp only [W, EE, Nat.reduceAdd]
            refine seq_n hK52 ?_
            refine w_seq fun K53 hK53 => ?_
            refine w_if ?_
            simp only [W]
            refine w_cnd h (fun hc h => ?_) (fun hc h => ?_)
            · refine w_skip ?_
              refine seq_n hK53 ?_
              refine w_seq fun K54 hK54 => ?_
              obtain ⟨y57, h, g58⟩ := Option.bind_eq_some_iff.1 h
              refine w_join gC (fun s H => ∃ x56 : Int, y57 = (x56) ∧ s = [u, u, .ptr ip2 wp2 0 0, u, u, u, u, .ptr ip18 wp18 0 0, .int .i64 x56, .fn 152 [.ptr ip2 wp2 0 0, .ptr ip18 wp18 0 0], u, u, u, u, u, u, u, u, u, u, u, u, .int .i64 a1, .int .i64 x22, u, u, u, .int .i64 (a0.length : Int), .int .i64 x42, u, u, u, u, u, u, u, u, u, u, u, u, u, u, u, u, u, u, u, u, u, u] ∧ Own H (⟨v15, 1, x23.map (AV.int .i64)⟩ :: ⟨.ptr ip2 wp2 0 0, 1, [.fz (a0.map e_Way)]⟩ :: ⟨.ptr ip18 wp18 0 0, 1, [v15]⟩ :: F)) (fun K59 hK59 => ?_) (fun s H hq => ?_)
              · refine w_blk fun K55 hK55 => ?_
                refine w_seq fun K60 hK60 => ?_
                refine w_reg gC ?_
                try simp only [W, Nat.reduceAdd]
                refine seq_n hK60 ?_
                refine w_seq fun K61 hK61 => ?_
                refine w_reg gC ?_
                try simp only [W, Nat.reduceAdd]
                refine w_callS (rsh := [[.sc]]) (ys := [.int .i64 x42, .fe (.fz (a0.map e_Way)) 0, .fe (.fz (x23.map (AV.int .i64))) 0]) h rfl (pv_c rfl (pv_c (sn_pt hS 1 rfl rfl) (pv_c (sn_pt hS 2 rfl (sn_ow hS 0 rfl qv15 (fun _ => rfl))) pv_n))) fun b62 hb62 h => ⟨.int .i64 b62, impl_ArriveAll_1_wq hb62 (Own.nil _) fun H hS => TV_ok rfl (TV_p rfl (TV_n rfl)), ⟨rfl, rfl, fun _ => rfl⟩, ?_⟩
                try simp only [W]
                refine w_callS (rsh := [[.sc]]) (ys := [.int .i64 x41, .fe (.fz (a0.map e_Way)) 0, .fe (.fz (x23.map (AV.int .i64))) 0]) h rfl (pv_c rfl (pv_c (sn_pt hS 1 rfl rfl) (pv_c (sn_pt hS 2 rfl (sn_ow hS 0 rfl qv15 (fun _ => rfl))) pv_n))) fun b63 hb63 h => ⟨.int .i64 b63, impl_ArriveAll_1_wq hb63 (Own.nil _) fun H hS => TV_ok rfl (TV_p rfl (TV_n rfl)), ⟨rfl, rfl, fun _ => rfl⟩, ?_⟩
                try simp only [W, EE]
                refine seq_n hK61 ?_
                obtain ⟨y65, h, g66⟩ := Option.bind_eq_some_iff.1 h
                refine w_join gC (fun s H => ∃ x64 : Int, y65 = (x64) ∧ s = [u, u, .ptr ip2 wp2 0 0, u, u, u, u, .ptr ip18 wp18 0 0, .int .i64 x64, .fn 152 [.ptr ip2 wp2 0 0, .ptr ip18 wp18 0 0], u, u, u, u, u, u, u, u, u, u, u, u, .int .i64 a1, .int .i64 x22, u, u, u, .int .i64 (a0.length : Int), .int .i64 x42, u, u, u, u, u, u, u, u, u, u, u, u, u, u, u, u, u, u, u, u, u, u] ∧ Own H (⟨v15, 1, x23.map (AV.int .i64)⟩ :: ⟨.ptr ip2 wp2 0 0, 1, [.fz (a0.map e_Way)]⟩ :: ⟨.ptr ip18 wp18 0 0, 1, [v15]⟩ :: F)) (fun K67 hK67 => ?_) (fun s H hq => ?_)
                · refine w_seq fun K68 hK68 => ?_
                  refine w_if ?_
                  simp only [W]
                  refine w_cnd h (fun hc h => ?_) (fun hc h => ?_)
                  · refine w_reg gC ?_
                    try simp only [W, Nat.reduceAdd]
                    refine seq_n hK68 ?_
                    refine w_kill ?_
                    exact cut_n hK67 ⟨_, (Option.some.inj h).symm, rfl, hS⟩
                  · refine w_skip ?_
                    refine seq_n hK68 ?_
                    refine w_kill ?_
                    exact cut_n hK67 ⟨_, (Option.some.inj h).symm, rfl, hS⟩
                · obtain ⟨x64, ey, rfl, hS⟩ := hq; obtain rfl := ey.symm
                  replace h := g66
                  try dsimp only at h
                  refine blk_n hK55 ?_
                  exact cut_n hK59 ⟨_, (Option.some.inj h).symm, rfl, hS⟩
              · obtain ⟨x56, ey, rfl, hS⟩ := hq; obtain rfl := ey.symm
                replace h := g58
                try dsimp only at h
                refine seq_n hK54 ?_
                refine w_reg gC ?_
                try simp only [W, EE, Nat.reduceAdd]
                exact lp_n hK48 h ⟨rfl, hS⟩
            · refine w_exit ?_
              refine seq_x hK53 ?_
              try obtain rfl := Option.some.inj h
              obtain rfl := hd49 _ rfl
              have h : (some (x41) : Option (Int)) = some (x41) := rfl
              refine lp_x hK48 ?_
              refine blk_e hK47 ?_
              exact cut_n hK46 ⟨_, (Option.some.inj h).symm, rfl, hS⟩
          · obtain ⟨x43, ey, rfl, hS⟩ := hq; obtain rfl := ey.symm
            replace h := g51
            try dsimp only at h
            refine seq_n hK39 ?_
            refine w_reg gC ?_
            try simp only [W, EE, Nat.reduceAdd, hS.var 2 rfl, qv15.rd]
            refine w_ow 0 hS rfl rfl rfl rfl rfl h (fun b71 in72 wn72 on72 hb71 h en72 => ?_) qv15.ne
            obtain ⟨kn72, hbn72, hen72⟩ := hS.elem 0 rfl en72 hb71
            try simp only [W, EE, hbn72, hen72]
            refine w_ow 0 hS rfl rfl rfl rfl rfl h (fun b73 in74 wn74 on74 hb73 h en74 => ?_) qv15.ne
            obtain ⟨kn74, hbn74, hen74⟩ := hS.elem 0 rfl en74 hb73
            try simp only [W]
            refine w_ste (a := .int .i64 (IntKind.i64.wrap (b71 + 1))) (y' := (IntKind.i64.wrap (b71 + 1))) 0 hS rfl en74 hb73 rfl rfl rfl rfl rfl rfl rfl fun H hS => ?_
            try simp only [W]
            refine blk_n0 hK36 ?_
            refine seq_n hK35 ?_
            refine w_reg gC ?_
            try simp only [W, EE, Nat.reduceAdd]
            exact lp_n hK29 h ⟨rfl, hS⟩
        · refine w_exit ?_
          refine seq_x hK34 ?_
          try obtain rfl := Option.some.inj h
          obtain rfl := hd30 _ rfl
          have h : (some (x23) : Option ((List Int))) = some (x23) := rfl
          refine lp_x hK29 ?_
          refine blk_e hK28 ?_
          exact cut_n hK27 ⟨_, (Option.some.inj h).symm, rfl, hS⟩
      · obtain ⟨x24, ey, rfl, hS⟩ := hq; obtain rfl := ey.symm
        replace h := g32
        try dsimp only at h
        refine seq_n hK20 ?_
        refine w_seq fun K77 hK77 => ?_
        refine w_draw0 gC (by kernel_rfl) ?_
        try simp only [W, EE, Nat.reduceAdd, hS.var 2 rfl, hS.var 1 rfl, qv15.rd]
        refine w_callS (rsh := [[.sc]]) (ys := [.fz (a0.map e_Way), .fz (x24.map (AV.int .i64))]) h rfl (pv_c rfl (pv_c (sn_ow hS 0 rfl qv15 (fun _ => rfl)) pv_n)) fun b78 hb78 h => ⟨.int .i64 b78, impl_last_w hb78 (Own.nil _) fun H hS => TV_ok rfl (TV_p rfl (TV_n rfl)), ⟨rfl, rfl, fun _ => rfl⟩, ?_⟩
        try simp only [W]
        refine seq_n hK77 ?_
        refine w_ret ?_
        refine fin_r3 hK0 rfl rfl rfl ?_
        try obtain rfl := Option.some.inj h
        exact hP _ qv15 _ (hS.sel 3 [0] (by decide))
theorem spec_DrawArriveAll_w {a0 : List Int} {r : (List Way × Int)} (h : spec_DrawArriveAll a0 = some r) {F : List It} {H : Heap} (hS : Own H (F)) {P : AV → Heap → Prop} (hP : ∀ v16 : AV, isSl v16 → ∀ H', Own H' (⟨v16, 2, r.1.map e_Way⟩ :: F) → P (.tup [v16, .int .i64 r.2]) H') : ACall C 20 [.fz (a0.map (AV.int .u8))] H P := by
  refine acall_of gC (res := [.tmp 2, .tmp 3]) (n := 13) rfl rfl rfl rfl fun K0 hK0 => ?_
  simp only [W, Nat.reduceSub, Nat.reduceAdd, List.replicate]
  unfold spec_DrawArriveAll at h
  refine w_seq fun K1 hK1 => ?_
  refine w_reg gC ?_
  try simp only [W, Nat.reduceAdd]
  refine seq_n hK1 ?_
  refine w_seq fun K2 hK2 => ?_
  refine w_reg gC ?_
  try simp only [W, EE, Nat.reduceAdd]
  refine w_bld rfl rfl rfl rfl rfl ?_
  try simp only [W]
  refine w_box hS rfl rfl rfl rfl fun ip3 wp3 H hS => ?_
  try simp only [W]
  refine seq_n hK2 ?_
  refine w_seq fun K5 hK5 => ?_
  refine w_regF (fz := [(4, [([11], [.sl [.sc]])])]) gC ?_
  try simp only [W, Nat.reduceAdd, Nat.reduceBEq]
  refine w_call h fun b6 hb6 h => ?_
  obtain ⟨b7, b8⟩ := b6
  try dsimp only at h
  refine spec_l1Cur_ways_w hb6 hS fun v9 qv9 H hS => ?_
  try simp only [W, Nat.reduceAdd, Nat.reduceBEq]
  refine w_lit (el := ([-1, 0, 1, 5, 12, 40, 41] : List Int).map (AV.int .i64)) hS rfl rfl rfl rfl rfl rfl rfl fun v11 H qv11 hS => ?_
  try simp only [W, Nat.reduceAdd]
  refine FZ_own 0 hS rfl qv11 rfl (fun _ _ => by simp [takeE, takeT, plainA]) (fun _ => rfl) fun H hsame hS => ?_
  try simp only [W]
  refine w_call h fun b13 hb13 h => ?_
  obtain ⟨b14, b15⟩ := b13
  try dsimp only at h
  refine spec_l1Cur_among_w hb13 (hS.sel 2 [1, 0] (by decide)) fun H hS => ?_
  try simp only [W, Nat.reduceAdd, Nat.reduceBEq]
  refine seq_n hK5 ?_
  refine w_ret ?_
  refine fin_r2 hK0 rfl rfl ?_
  try obtain rfl := Option.some.inj h
  exact hP _ qv9 _ (hS.sel 2 [1] (by decide))
theorem spec_l14Arrive_w {a0 : List Way} {a1 : Int} {r : (List Int)} (h : spec_l14Arrive a0 a1 = some r) {F : List It} {H : Heap} (hS : Own H (F)) {P : AV → Heap → Prop} (hP : ∀ v71 : AV, isSl v71 → ∀ H', Own H' (⟨v71, 1, r.map (AV.int .i64)⟩ :: F) → P (v71) H') : ACall C 154 [.fz (a0.map e_Way), .int .i64 a1] H P := by
  refine acall_of gC (res := [.tmp 4]) (n := 58) rfl rfl rfl rfl fun K0 hK0 => ?_
  simp only [W, Nat.reduceSub, Nat.reduceAdd, List.replicate]
  unfold spec_l14Arrive at h
  refine w_seq fun K1 hK1 => ?_
  refine w_reg gC ?_
  try simp only [W, Nat.reduceAdd]
  refine seq_n hK1 ?_
  refine w_seq fun K2 hK2 => ?_
  refine w_reg gC ?_
  try simp only [W, EE, Nat.reduceAdd]
  refine w_make (c := (AV.int .i64)) hS rfl rfl rfl rfl rfl rfl h fun v3 H x5 qv3 hm h hS => ?_
  try simp only [W]
  refine seq_n hK2 ?_
  refine w_seq fun K6 hK6 => ?_
  obtain ⟨y10, hw11, g17⟩ := Option.bind_eq_some_iff.1 h
  refine w_join gC (fun s H => ∃ x9 : List Int, y10 = (x9) ∧ s = [u, u, u, u, u, v3, u, u, u, u, u, u, u, u, u, u, u, u, u, u, u, u, u, u, u, u, u, u, u, u, u, u, u, u, u, u, u, u, u, u, u, u, u, u, u, u, u, u, u, u, u, u, u, u, u, u, u, u] ∧ Own H (⟨v3, 1, x9.map (AV.int .i64)⟩ :: F)) (fun K12 hK12 => ?_) (fun s H hq => ?_)
  · refine w_blk fun K13 hK13 => ?_
    refine w_loop gC hw11 (fun x s H => match x with | (x7, x8) => s = [.fz (a0.map e_Way), .int .i64 x7, u, u, u, v3, u, u, u, u, u, u, u, u, u, u, u, u, u, u, u, u, u, u, u, u, u, u, u, u, u, u, u, u, u, u, u, u, u, u, u, u, u, u, u, u, u, u, u, u, u, u, u, u, u, u, u, u] ∧ Own H (⟨v3, 1, x8.map (AV.int .i64)⟩ :: F)) ⟨rfl, hS⟩ (fun x y16 s H h hd15 hi K14 hK14 => ?_)
    obtain ⟨x7, x8⟩ := x
    try dsimp only at hi
    obtain ⟨rfl, hS⟩ := hi
    simp only [spec_l14Arrive_l1] at h
    refine w_seq fun K18 hK18 => ?_
    refine w_seq fun K19 hK19 => ?_
    refine w_reg gC ?_
    try simp only [W, EE, Nat.reduceAdd]
    refine seq_n hK19 ?_
    refine w_if ?_
    simp only [W]
    refine w_cnd h (fun hc h => ?_) (fun hc h => ?_)
    · refine w_skip ?_
      refine seq_n hK18 ?_
      refine w_seq fun K20 hK20 => ?_
      refine w_blk fun K21 hK21 => ?_
      refine w_seq fun K22 hK22 => ?_
      refine w_reg gC ?_
      try simp only [W, Nat.reduceAdd]
      refine seq_n hK22 ?_
      refine w_seq fun K23 hK23 => ?_
      refine w_seq fun K24 hK24 => ?_
      refine w_reg gC ?_
      try simp only [W, EE, Nat.reduceAdd]
      refine seq_n hK24 ?_
      obtain ⟨y28, hw29, g35⟩ := Option.bind_eq_some_iff.1 h
      refine w_join gC (fun s H => ∃ x27 : Int, y28 = (x27) ∧ s = [.fz (a0.map e_Way), .int .i64 x7, u, u, u, v3, .int .i64 x27, u, u, u, u, u, u, u, u, u, u, u, u, u, u, u, u, u, u, u, u, u, u, u, u, u, u, u, u, u, u, u, u, u, u, u, u, u, u, u, u, u, u, u, u, u, u, u, u, u, u, u] ∧ Own H (⟨v3, 1, x8.map (AV.int .i64)⟩ :: F)) (fun K30 hK30 => ?_) (fun s H hq => ?_)
      · refine w_blk fun K31 hK31 => ?_
        refine w_loop gC hw29 (fun x s H => match x with | (x25, x26) => s = [.fz (a0.map e_Way), .int .i64 x7, u, u, u, v3, .int .i64 x25, u, u, u, u, u, u, u, u, u, u, .fz (a0.map e_Way), .int .i64 (a0.length : Int), .int .i64 x26, u, u, u, u, u, u, u, u, u, u, u, u, u, u, u, u, u, u, u, u, u, u, u, u, u, u, u, u, u, u, u, u, u, u, u, u, u, u] ∧ Own H (⟨v3, 1, x8.map (AV.int .i64)⟩ :: F)) ⟨rfl, hS⟩ (fun x y34 s H h hd33 hi K32 hK32 => ?_)
        obtain ⟨x25, x26⟩ := x
        try dsimp only at hi
        obtain ⟨rfl, hS⟩ := hi
        simp only [spec_l14Arrive_l0] at h
        refine w_seq fun K36 hK36 => ?_
        refine w_reg gC ?_
        try simp only [W, EE, Nat.reduceAdd]
        refine seq_n hK36 ?_
        refine w_seq fun K37 hK37 => ?_
        refine w_if ?_
        simp only [W]
        refine w_cnd h (fun hc h => ?_) (fun hc h => ?_)
        · refine w_skip ?_
          refine seq_n hK37 ?_
          refine w_seq fun K38 hK38 => ?_
          obtain ⟨y41, h, g42⟩ := Option.bind_eq_some_iff.1 h
          refine w_join gC (fun s H => ∃ x40 : Int, y41 = (x40) ∧ s = [.fz (a0.map e_Way), .int .i64 x7, u, u, u, v3, .int .i64 x40, u, u, u, u, u, u, u, u, u, u, .fz (a0.map e_Way), .int .i64 (a0.length : Int), .int .i64 x26, u, u, u, u, u, u, u, u, u, u, u, u, u, u, u, u, u, u, u, u, u, u, u, u, u, u, u, u, u, u, u, u, u, u, u, u, u, u] ∧ Own H (⟨v3, 1, x8.map (AV.int .i64)⟩ :: F)) (fun K43 hK43 => ?_) (fun s H hq => ?_)
          · refine w_blk fun K39 hK39 => ?_
            refine w_seq fun K44 hK44 => ?_
            refine w_reg gC ?_
            try simp only [W, EE, Nat.reduceAdd]
            refine w_fz rfl rfl rfl (fun _ => rfl) h fun b45 hb45 h => ?_
            try simp only [W, EE, EN, reduceIte, Nat.reduceAdd, Nat.reduceLeDiff]
            refine w_alloc hS rfl rfl fun ip46 wp46 H hS => ?_
            try simp only [W]
            refine w_stv (a := .agg [.int .i64 b45.Delay, .int .i64 b45.Every]) (y' := .agg [.int .i64 b45.Delay, .int .i64 b45.Every]) 0 hS rfl rfl rfl rfl rfl rfl rfl rfl fun H hS => ?_
            try simp only [W]
            refine seq_n hK44 ?_
            refine w_seq fun K48 hK48 => ?_
            refine w_reg gC ?_
            try simp only [W, EE, Nat.reduceAdd]
            refine w_fz rfl rfl rfl (fun _ => rfl) h fun b49 hb49 h => ?_
            try simp only [W, EE, EN, reduceIte, Nat.reduceAdd, Nat.reduceLeDiff]
            refine w_alloc hS rfl rfl fun ip50 wp50 H hS => ?_
            try simp only [W]
            refine w_stv (a := .agg [.int .i64 b49.Delay, .int .i64 b49.Every]) (y' := .agg [.int .i64 b49.Delay, .int .i64 b49.Every]) 0 hS rfl rfl rfl rfl rfl rfl rfl rfl fun H hS => ?_
            try simp only [W]
            refine seq_n hK48 ?_
            refine w_seq fun K52 hK52 => ?_
            refine w_draw0 gC (by kernel_rfl) ?_
            try simp only [W, EE, Nat.reduceAdd, Nat.reduceBEq, hS.var 1 rfl]
            refine w_ow 2 hS rfl rfl rfl rfl rfl h (fun b53 in54 wn54 on54 hb53 h en54 => ?_) qv3.ne
            obtain ⟨kn54, hbn54, hen54⟩ := hS.elem 2 rfl en54 hb53
            try simp only [W, EE, Nat.reduceAdd, Nat.reduceBEq, hS.var 1 rfl, hS.var 0 rfl, hbn54, hen54]
            refine w_ow 2 hS rfl rfl rfl rfl rfl h (fun b55 in56 wn56 on56 hb55 h en56 => ?_) qv3.ne
            obtain ⟨kn56, hbn56, hen56⟩ := hS.elem 2 rfl en56 hb55
            try simp only [W, EE, Nat.reduceAdd, Nat.reduceBEq, hS.var 0 rfl, hbn56, hen56]
            refine seq_n hK52 ?_
            obtain ⟨y58, h, g59⟩ := Option.bind_eq_some_iff.1 h
            refine w_join gC (fun s H => ∃ x57 : Int, y58 = (x57) ∧ s = [.fz (a0.map e_Way), .int .i64 x7, u, u, u, v3, .int .i64 x57, u, u, u, u, u, u, u, u, u, u, .fz (a0.map e_Way), .int .i64 (a0.length : Int), .int .i64 x26, u, u, u, u, u, u, u, u, u, u, u, u, u, u, u, u, u, u, u, u, u, u, u, u, u, u, u, u, u, u, u, u, u, u, u, u, u, u] ∧ Own H (⟨v3, 1, x8.map (AV.int .i64)⟩ :: F)) (fun K60 hK60 => ?_) (fun s H hq => ?_)
            · refine w_seq fun K61 hK61 => ?_
              refine w_if ?_
              simp only [W]
              refine w_cnd h (fun hc h => ?_) (fun hc h => ?_)
              · refine w_reg gC ?_
                try simp only [W, Nat.reduceAdd]
                refine seq_n hK61 ?_
                refine w_kill ?_
                exact cut_n hK60 ⟨_, (Option.some.inj h).symm, rfl, (hS.sel 3 [2] (by decide))⟩
              · refine w_skip ?_
                refine seq_n hK61 ?_
                refine w_kill ?_
                exact cut_n hK60 ⟨_, (Option.some.inj h).symm, rfl, (hS.sel 3 [2] (by decide))⟩
            · obtain ⟨x57, ey, rfl, hS⟩ := hq; obtain rfl := ey.symm
              replace h := g59
              try dsimp only at h
              refine blk_n hK39 ?_
              exact cut_n hK43 ⟨_, (Option.some.inj h).symm, rfl, hS⟩
          · obtain ⟨x40, ey, rfl, hS⟩ := hq; obtain rfl := ey.symm
            replace h := g42
            try dsimp only at h
            refine seq_n hK38 ?_
            refine w_reg gC ?_
            try simp only [W, EE, Nat.reduceAdd]
            exact lp_n hK32 h ⟨rfl, hS⟩
        · refine w_exit ?_
          refine seq_x hK37 ?_
          try obtain rfl := Option.some.inj h
          obtain rfl := hd33 _ rfl
          have h : (some (x25) : Option (Int)) = some (x25) := rfl
          refine lp_x hK32 ?_
          refine blk_e hK31 ?_
          exact cut_n hK30 ⟨_, (Option.some.inj h).symm, rfl, hS⟩
      · obtain ⟨x27, ey, rfl, hS⟩ := hq; obtain rfl := ey.symm
        replace h := g35
        try dsimp only at h
        refine seq_n hK23 ?_
        refine w_reg gC ?_
        try simp only [W, EE, Nat.reduceAdd]
        refine w_ow 0 hS rfl rfl rfl rfl rfl h (fun b64 in65 wn65 on65 hb64 h en65 => ?_) qv3.ne
        obtain ⟨kn65, hbn65, hen65⟩ := hS.elem 0 rfl en65 hb64
        try simp only [W, EE, hbn65, hen65]
        refine w_ow 0 hS rfl rfl rfl rfl rfl h (fun b66 in67 wn67 on67 hb66 h en67 => ?_) qv3.ne
        obtain ⟨kn67, hbn67, hen67⟩ := hS.elem 0 rfl en67 hb66
        try simp only [W]
        refine w_ste (a := .int .i64 (IntKind.i64.wrap (b64 + 1))) (y' := (IntKind.i64.wrap (b64 + 1))) 0 hS rfl en67 hb66 rfl rfl rfl rfl rfl rfl rfl fun H hS => ?_
        try simp only [W]
        refine blk_n0 hK21 ?_
        refine seq_n hK20 ?_
        refine w_reg gC ?_
        try simp only [W, EE, Nat.reduceAdd]
        exact lp_n hK14 h ⟨rfl, hS⟩
    · refine w_exit ?_
      refine seq_x hK18 ?_
      try obtain rfl := Option.some.inj h
      obtain rfl := hd15 _ rfl
      have h : (some (x8) : Option ((List Int))) = some (x8) := rfl
      refine lp_x hK14 ?_
      refine blk_e hK13 ?_
      exact cut_n hK12 ⟨_, (Option.some.inj h).symm, rfl, hS⟩
  · obtain ⟨x9, ey, rfl, hS⟩ := hq; obtain rfl := ey.symm
    replace h := g17
    try dsimp only at h
    refine seq_n hK6 ?_
    refine w_seq fun K70 hK70 => ?_
    refine w_reg gC ?_
    try simp only [W, Nat.reduceAdd]
    refine seq_n hK70 ?_
    refine w_ret ?_
    refine fin_r1 hK0 rfl ?_
    try obtain rfl := Option.some.inj h
    exact hP _ qv3 _ hS
theorem spec_ArriveAll_w {a0 : List Way} {a1 : Int} {r : (List Int × Int × Bool)} (h : spec_ArriveAll a0 a1 = some r) {F : List It} {H : Heap} (hS : Own H (F)) {P : AV → Heap → Prop} (hP : ∀ v18 : AV, isSl v18 → ∀ H', Own H' (⟨v18, 1, r.1.map (AV.int .i64)⟩ :: F) → P (.tup [v18, .int .i64 r.2.1, .bool r.2.2]) H') : ACall C 21 [.fz (a0.map e_Way), .int .i64 a1] H P := by
  refine acall_of gC (res := [.tmp 4, .tmp 5, .tmp 6]) (n := 23) rfl rfl rfl rfl fun K0 hK0 => ?_
  simp only [W, Nat.reduceSub, Nat.reduceAdd, List.replicate]
  unfold spec_ArriveAll at h
  refine w_seq fun K1 hK1 => ?_
  refine w_reg gC ?_
  try simp only [W, Nat.reduceAdd]
  refine seq_n hK1 ?_
  refine w_seq fun K2 hK2 => ?_
  refine w_seq fun K3 hK3 => ?_
  obtain ⟨y5, h, g6⟩ := Option.bind_eq_some_iff.1 h
  refine w_join gC (fun s H => ∃ x4 : Bool, y5 = (x4) ∧ s = [.fz (a0.map e_Way), .int .i64 a1, u, u, u, u, u, u, u, u, u, u, u, u, u, .bool x4, u, u, u, u, u, u, u] ∧ Own H (F)) (fun K7 hK7 => ?_) (fun s H hq => ?_)
  · refine w_seq fun K8 hK8 => ?_
    refine w_reg gC ?_
    try simp only [W, Nat.reduceAdd]
    refine w_call h fun b9 hb9 h => ?_
    refine spec_l14Ways_w hb9 hS fun H hS => ?_
    try simp only [W]
    refine w_grdT h (fun hc h => ?_) (fun hc h => ?_)
    · try simp only [W, hc]
      refine seq_n hK8 ?_
      refine w_kill ?_
      exact cut_n hK7 ⟨_, (Option.some.inj h).symm, rfl, hS⟩
    · try simp only [W, hc]
      refine w_call h fun b10 hb10 h => ?_
      refine spec_l1In_w hb10 hS fun H hS => ?_
      try simp only [W, reduceIte, Bool.false_eq_true]
      refine seq_n hK8 ?_
      refine w_kill ?_
      exact cut_n hK7 ⟨_, (Option.some.inj h).symm, rfl, hS⟩
  · obtain ⟨x4, ey, rfl, hS⟩ := hq; obtain rfl := ey.symm
    replace h := g6
    try dsimp only at h
    refine seq_n hK3 ?_
    refine w_if ?_
    simp only [W]
    refine w_cnd h (fun hc h => ?_) (fun hc h => ?_)
    · refine w_seq fun K11 hK11 => ?_
      refine w_reg gC ?_
      try simp only [W, Nat.reduceAdd]
      refine seq_n hK11 ?_
      refine w_ret ?_
      refine seq_r hK2 ?_
      refine fin_r3 hK0 rfl rfl rfl ?_
      try obtain rfl := Option.some.inj h
      exact hP _ isSl_nil _ (hS.nil_ 1)
    · refine w_skip ?_
      refine seq_n hK2 ?_
      refine w_seq fun K12 hK12 => ?_
      refine w_reg gC ?_
      try simp only [W, Nat.reduceAdd]
      refine w_call h fun b13 hb13 h => ?_
      refine spec_l14Arrive_w hb13 hS fun v14 qv14 H hS => ?_
      try simp only [W]
      refine seq_n hK12 ?_
      refine w_seq fun K16 hK16 => ?_
      refine w_reg gC ?_
      try simp only [W, Nat.reduceAdd]
      refine w_callS (rsh := [[.sc]]) (ys := [.fz (a0.map e_Way), .fz (b13.map (AV.int .i64))]) h rfl (pv_c rfl (pv_c (sn_ow hS 0 rfl qv14 (fun _ => rfl)) pv_n)) fun b17 hb17 h => ⟨.int .i64 b17, spec_l14Last_w hb17 (Own.nil _) fun H hS => TV_ok rfl (TV_p rfl (TV_n rfl)), ⟨rfl, rfl, fun _ => rfl⟩, ?_⟩
      try simp only [W]
      refine seq_n hK16 ?_
      refine w_ret ?_
      refine fin_r3 hK0 rfl rfl rfl ?_
      try obtain rfl := Option.some.inj h
      exact hP _ qv14 _ hS
theorem laws_sameInts_w {a0 : List Int} {a1 : List Int} {r : (Bool)} (h : laws_sameInts a0 a1 = some r) {F : List It} {H : Heap} (hS : Own H (F)) {P : AV → Heap → Prop} (hP : ∀ H', Own H' (F) → P (.bool r) H') : ACall C 22 [.fz (a0.map (AV.int .i64)), .fz (a1.map (AV.int .i64))] H P := by
  refine acall_of gC (res := [.tmp 4]) (n := 26) rfl rfl rfl rfl fun K0 hK0 => ?_
  simp only [W, Nat.reduceSub, Nat.reduceAdd, List.replicate]
  unfold laws_sameInts at h
  refine w_seq fun K1 hK1 => ?_
  refine w_reg gC ?_
  try simp only [W, Nat.reduceAdd]
  refine seq_n hK1 ?_
  refine w_seq fun K2 hK2 => ?_
  refine w_seq fun K3 hK3 => ?_
  refine w_reg gC ?_
  try simp only [W, EE, Nat.reduceAdd]
  refine seq_n hK3 ?_
  refine w_if ?_
  simp only [W]
  refine w_cnd h (fun hc h => ?_) (fun hc h => ?_)
  · refine w_seq fun K4 hK4 => ?_
    refine w_reg gC ?_
    try simp only [W, Nat.reduceAdd]
    refine seq_n hK4 ?_
    refine w_ret ?_
    refine seq_r hK2 ?_
    refine fin_r1 hK0 rfl ?_
    try obtain rfl := Option.some.inj h
    exact hP _ hS
  · refine w_skip ?_
    refine seq_n hK2 ?_
    refine w_seq fun K5 hK5 => ?_
    refine w_seq fun K6 hK6 => ?_
    refine w_reg gC ?_
    try simp only [W, EE, Nat.reduceAdd]
    refine seq_n hK6 ?_
    obtain ⟨y8, hw9, g15⟩ := Option.bind_eq_some_iff.1 h
    refine w_join gC (fun s H => y8 = LR.next () ∧ s = [u, u, u, u, u, u, u, u, u, u, u, u, u, u, u, u, u, u, u, u, u, u, u, u, u, u] ∧ Own H (F)) (fun K10 hK10 => ?_) (fun s H hq => ?_)
    · refine w_blk fun K11 hK11 => ?_
      refine w_loop gC hw9 (fun x s H => s = [.fz (a0.map (AV.int .i64)), .fz (a1.map (AV.int .i64)), u, u, u, u, u, u, u, u, u, u, .int .i64 (a0.length : Int), .int .i64 x, u, u, u, u, u, u, u, u, u, u, u, u] ∧ Own H (F)) ⟨rfl, hS⟩ (fun x7 y14 s H h hd13 hi K12 hK12 => ?_)
      skip
      try dsimp only at hi
      obtain ⟨rfl, hS⟩ := hi
      simp only [laws_sameInts_l0] at h
      refine w_seq fun K16 hK16 => ?_
      refine w_reg gC ?_
      try simp only [W, EE, Nat.reduceAdd]
      refine seq_n hK16 ?_
      refine w_seq fun K17 hK17 => ?_
      refine w_if ?_
      simp only [W]
      refine w_cnd h (fun hc h => ?_) (fun hc h => ?_)
      · refine w_skip ?_
        refine seq_n hK17 ?_
        refine w_seq fun K18 hK18 => ?_
        refine w_blk fun K19 hK19 => ?_
        refine w_seq fun K20 hK20 => ?_
        refine w_reg gC ?_
        try simp only [W, Nat.reduceAdd]
        refine seq_n hK20 ?_
        refine w_seq fun K21 hK21 => ?_
        refine w_draw0 gC (by kernel_rfl) ?_
        try simp only [W, EE, Nat.reduceAdd]
        refine w_fz rfl rfl rfl (fun _ => rfl) h fun b22 hb22 h => ?_
        try simp only [W, EE]
        refine w_fz rfl rfl rfl (fun _ => rfl) h fun b23 hb23 h => ?_
        try simp only [W, EE]
        refine seq_n hK21 ?_
        refine w_if ?_
        simp only [W]
        refine w_cnd h (fun hc h => ?_) (fun hc h => ?_)
        · refine w_seq fun K24 hK24 => ?_
          refine w_reg gC ?_
          try simp only [W, Nat.reduceAdd]
          refine seq_n hK24 ?_
          refine w_ret ?_
          refine blk_r hK19 ?_
          refine seq_r hK18 ?_
          try obtain rfl := Option.some.inj h
          obtain rfl := hd13 _ rfl
          have h : (some (LR.done false) : Option (LR Unit (Bool))) = some (LR.done false) := rfl
          refine lp_r hK12 ?_
          refine blk_r hK11 ?_
          try obtain rfl := Option.some.inj h
          obtain rfl := Option.some.inj g15
          have h : (some false : Option (Bool)) = some false := rfl
          refine cut_r hK10 ?_
          refine seq_r hK5 ?_
          refine fin_r1 hK0 rfl ?_
          try obtain rfl := Option.some.inj h
          exact hP _ hS
        · refine w_skip ?_
          refine blk_n0 hK19 ?_
          refine seq_n hK18 ?_
          refine w_reg gC ?_
          try simp only [W, EE, Nat.reduceAdd]
          exact lp_n hK12 h ⟨rfl, hS⟩
      · refine w_exit ?_
        refine seq_x hK17 ?_
        try obtain rfl := Option.some.inj h
        obtain rfl := hd13 _ rfl
        have h : (some (LR.next ()) : Option (LR Unit (Bool))) = some (LR.next ()) := rfl
        refine lp_x hK12 ?_
        refine blk_e hK11 ?_
        exact cut_n hK10 ⟨(Option.some.inj h).symm, rfl, hS⟩
    · obtain ⟨rfl, rfl, hS⟩ := hq
      replace h := g15
      try dsimp only at h
      refine seq_n hK5 ?_
      refine w_seq fun K31 hK31 => ?_
      refine w_reg gC ?_
      try simp only [W, Nat.reduceAdd]
      refine seq_n hK31 ?_
      refine w_ret ?_
      refine fin_r1 hK0 rfl ?_
      try obtain rfl := Option.some.inj h
      exact hP _ hS
theorem laws_FnWays_w {a0 : List Int} {a1 : List Int} {r : (Bool)} (h : laws_FnWays a0 a1 = some r) {F : List It} {H : Heap} (hS : Own H (F)) {P : AV → Heap → Prop} (hP : ∀ H', Own H' (F) → P (.bool r) H') : ACall C 3 [.fz (a0.map (AV.int .u8)), .fz (a1.map (AV.int .u8))] H P := by
  refine acall_of gC (res := [.tmp 4]) (n := 170) rfl rfl rfl rfl fun K0 hK0 => ?_
  simp only [W, Nat.reduceSub, Nat.reduceAdd, List.replicate]
  unfold laws_FnWays at h
  refine w_seq fun K1 hK1 => ?_
  refine w_reg gC ?_
  try simp only [W, Nat.reduceAdd]
  refine seq_n hK1 ?_
  refine w_seq fun K2 hK2 => ?_
  refine w_seq fun K3 hK3 => ?_
  refine w_reg gC ?_
  try simp only [W, EE, Nat.reduceAdd]
  refine seq_n hK3 ?_
  refine w_if ?_
  simp only [W]
  refine w_cnd h (fun hc h => ?_) (fun hc h => ?_)
  · refine w_seq fun K4 hK4 => ?_
    refine w_reg gC ?_
    try simp only [W, Nat.reduceAdd]
    refine seq_n hK4 ?_
    refine w_ret ?_
    refine seq_r hK2 ?_
    refine fin_r1 hK0 rfl ?_
    try obtain rfl := Option.some.inj h
    exact hP _ hS
  · refine w_skip ?_
    refine seq_n hK2 ?_
    refine w_seq fun K5 hK5 => ?_
    refine w_reg gC ?_
    try simp only [W, Nat.reduceAdd]
    refine w_call h fun b6 hb6 h => ?_
    obtain ⟨b7, b8⟩ := b6
    try dsimp only at h
    refine spec_DrawLastArrival_w hb6 hS fun v9 qv9 v11 qv11 H hS => ?_
    try simp only [W]
    refine seq_n hK5 ?_
    refine w_seq fun K13 hK13 => ?_
    refine w_reg gC ?_
    try simp only [W, Nat.reduceAdd]
    refine w_callS (rsh := [[.sc], [.sc]]) (ys := [.fz (b7.map e_Way), .fz (b8.map (AV.int .i64))]) h rfl (pv_c (sn_ow hS 0 rfl qv9 (fun _ => rfl)) (pv_c (sn_ow hS 1 rfl qv11 (fun _ => rfl)) pv_n)) fun b14 hb14 h => ⟨.tup [.int .i64 b14.1, .bool b14.2], impl_LastArrival_w hb14 (Own.nil _) fun H hS => TV_ok rfl (TV_p rfl (TV_p rfl (TV_n rfl))), ⟨rfl, rfl, fun _ => rfl⟩, ?_⟩
    obtain ⟨b15, b16⟩ := b14
    try dsimp only at h
    try simp only [W]
    refine seq_n hK13 ?_
    refine w_seq fun K17 hK17 => ?_
    refine w_reg gC ?_
    try simp only [W, Nat.reduceAdd]
    refine w_callS (rsh := [[.sc], [.sc]]) (ys := [.fz (b7.map e_Way), .fz (b8.map (AV.int .i64))]) h rfl (pv_c (sn_ow hS 0 rfl qv9 (fun _ => rfl)) (pv_c (sn_ow hS 1 rfl qv11 (fun _ => rfl)) pv_n)) fun b18 hb18 h => ⟨.tup [.int .i64 b18.1, .bool b18.2], spec_LastArrival_w hb18 (Own.nil _) fun H hS => TV_ok rfl (TV_p rfl (TV_p rfl (TV_n rfl))), ⟨rfl, rfl, fun _ => rfl⟩, ?_⟩
    obtain ⟨b19, b20⟩ := b18
    try dsimp only at h
    try simp only [W]
    refine seq_n hK17 ?_
    refine w_seq fun K21 hK21 => ?_
    refine w_seq fun K22 hK22 => ?_
    obtain ⟨y24, h, g25⟩ := Option.bind_eq_some_iff.1 h
    refine w_join gC (fun s H => ∃ x23 : Bool, y24 = (x23) ∧ s = [u, .fz (a1.map (AV.int .u8)), u, u, u, v9, v11, .int .i64 b15, .bool b16, u, u, u, u, u, u, u, u, u, u, u, u, u, u, u, u, u, u, u, u, u, u, u, u, u, u, u, u, u, u, u, u, u, u, u, u, u, u, u, u, u, u, u, u, u, u, u, u, u, .bool x23, u, u, u, u, u, u, u, u, u, u, u, u, u, u, u, u, u, u, u, u, u, u, u, u, u, u, u, u, u, u, u, u, u, u, u, u, u, u, u, u, u, u, u, u, u, u, u, u, u, u, u, u, u, u, u, u, u, u, u, u, u, u, u, u, u, u, u, u, u, u, u, u, u, u, u, u, u, u, u, u, u, u, u, u, u, u, u, u, u, u, u, u, u, u, u, u, u, u, u, u, u, u, u, u, u, u, u, u, u, u, u] ∧ Own H (⟨v9, 2, b7.map e_Way⟩ :: ⟨v11, 1, b8.map (AV.int .i64)⟩ :: F)) (fun K26 hK26 => ?_) (fun s H hq => ?_)
    · refine w_seq fun K27 hK27 => ?_
      refine w_reg gC ?_
      try simp only [W, EE, Nat.reduceAdd]
      rw [b_bneq _ _ _ _ (h := rfl) rfl, resV_s]
      try simp only [W]
      refine w_grdT h (fun hc h => ?_) (fun hc h => ?_)
      · try simp only [W, hc]
        refine seq_n hK27 ?_
        refine w_kill ?_
        exact cut_n hK26 ⟨_, (Option.some.inj h).symm, rfl, hS⟩
      · try simp only [W, EE, reduceIte, Bool.false_eq_true, hc]
        refine seq_n hK27 ?_
        refine w_kill ?_
        exact cut_n hK26 ⟨_, (Option.some.inj h).symm, rfl, hS⟩
    · obtain ⟨x23, ey, rfl, hS⟩ := hq; obtain rfl := ey.symm
      replace h := g25
      try dsimp only at h
      refine seq_n hK22 ?_
      refine w_if ?_
      simp only [W]
      refine w_cnd h (fun hc h => ?_) (fun hc h => ?_)
      · refine w_seq fun K28 hK28 => ?_
        refine w_reg gC ?_
        try simp only [W, Nat.reduceAdd]
        refine seq_n hK28 ?_
        refine w_ret ?_
        refine seq_r hK21 ?_
        refine fin_r1 hK0 rfl ?_
        try obtain rfl := Option.some.inj h
        exact hP _ (hS.sel 2 [] (by decide))
      · refine w_skip ?_
        refine seq_n hK21 ?_
        refine w_seq fun K29 hK29 => ?_
        refine w_seq fun K30 hK30 => ?_
        obtain ⟨y32, h, g33⟩ := Option.bind_eq_some_iff.1 h
        refine w_join gC (fun s H => ∃ x31 : Bool, y32 = (x31) ∧ s = [u, .fz (a1.map (AV.int .u8)), u, u, u, v9, v11, .int .i64 b15, u, u, u, u, u, u, u, u, u, u, u, u, u, u, u, u, u, u, u, u, u, u, u, u, u, u, u, u, u, u, u, u, u, u, u, u, u, u, u, u, u, u, u, u, u, u, u, u, u, u, u, u, u, u, u, u, .bool x31, u, u, u, u, u, u, u, u, u, u, u, u, u, u, u, u, u, u, u, u, u, u, u, u, u, u, u, u, u, u, u, u, u, u, u, u, u, u, u, u, u, u, u, u, u, u, u, u, u, u, u, u, u, u, u, u, u, u, u, u, u, u, u, u, u, u, u, u, u, u, u, u, u, u, u, u, u, u, u, u, u, u, u, u, u, u, u, u, u, u, u, u, u, u, u, u, u, u, u, u, u, u, u, u, u] ∧ Own H (⟨v9, 2, b7.map e_Way⟩ :: ⟨v11, 1, b8.map (AV.int .i64)⟩ :: F)) (fun K34 hK34 => ?_) (fun s H hq => ?_)
        · refine w_seq fun K35 hK35 => ?_
          refine w_reg gC ?_
          try simp only [W, Nat.reduceAdd]
          refine w_grdT h (fun hc h => ?_) (fun hc h => ?_)
          · try simp only [W, hc]
            refine w_callS (rsh := [[.sc]]) (ys := [.fz (b8.map (AV.int .i64))]) h rfl (pv_c (sn_ow hS 1 rfl qv11 (fun _ => rfl)) pv_n) fun b36 hb36 h => ⟨.int .i64 b36, laws_sumOf_w hb36 (Own.nil _) fun H hS => TV_ok rfl (TV_p rfl (TV_n rfl)), ⟨rfl, rfl, fun _ => rfl⟩, ?_⟩
            try simp only [W, EE, reduceIte]
            refine seq_n hK35 ?_
            refine w_kill ?_
            exact cut_n hK34 ⟨_, (Option.some.inj h).symm, rfl, hS⟩
          · try simp only [W, hc]
            refine seq_n hK35 ?_
            refine w_kill ?_
            exact cut_n hK34 ⟨_, (Option.some.inj h).symm, rfl, hS⟩
        · obtain ⟨x31, ey, rfl, hS⟩ := hq; obtain rfl := ey.symm
          replace h := g33
          try dsimp only at h
          refine seq_n hK30 ?_
          obtain ⟨y37, h, g38⟩ := Option.bind_eq_some_iff.1 h
          refine w_join gC (fun s H => y37 = LR.next () ∧ s = [u, .fz (a1.map (AV.int .u8)), u, u, u, u, u, u, u, u, u, u, u, u, u, u, u, u, u, u, u, u, u, u, u, u, u, u, u, u, u, u, u, u, u, u, u, u, u, u, u, u, u, u, u, u, u, u, u, u, u, u, u, u, u, u, u, u, u, u, u, u, u, u, u, u, u, u, u, u, u, u, u, u, u, u, u, u, u, u, u, u, u, u, u, u, u, u, u, u, u, u, u, u, u, u, u, u, u, u, u, u, u, u, u, u, u, u, u, u, u, u, u, u, u, u, u, u, u, u, u, u, u, u, u, u, u, u, u, u, u, u, u, u, u, u, u, u, u, u, u, u, u, u, u, u, u, u, u, u, u, u, u, u, u, u, u, u, u, u, u, u, u, u, u, u, u, u, u, u] ∧ Own H (F)) (fun K39 hK39 => ?_) (fun s H hq => ?_)
          · refine w_seq fun K40 hK40 => ?_
            refine w_if ?_
            simp only [W]
            refine w_cnd h (fun hc h => ?_) (fun hc h => ?_)
            · refine w_seq fun K41 hK41 => ?_
              refine w_reg gC ?_
              try simp only [W, Nat.reduceAdd, Nat.reduceBEq, List.contains_cons, Nat.reduceBEq, Bool.or_self]
              refine w_callS (rsh := [[.sc]]) (ys := [.fz (b8.map (AV.int .i64))]) h rfl (pv_c (sn_ow hS 1 rfl qv11 (fun _ => rfl)) pv_n) fun b42 hb42 h => ⟨.int .i64 b42, laws_sumOf_w hb42 (Own.nil _) fun H hS => TV_ok rfl (TV_p rfl (TV_n rfl)), ⟨rfl, rfl, fun _ => rfl⟩, ?_⟩
              try simp only [W]
              refine w_callO (rsh := [[.sl [.sc]], [.sc], [.sc]]) (ys := [.fz (b7.map e_Way), .int .i64 b42]) h rfl (pv_c (sn_ow hS 0 rfl qv9 (fun _ => rfl)) (pv_c rfl pv_n)) fun b43 hb43 h => ⟨.tup [.own 1 (b43.1.map (AV.int .i64)), .int .i64 b43.2.1, .bool b43.2.2], impl_ArriveAll_w hb43 (Own.nil _) fun v47 qv47 H hS => TV_ok rfl (TV_o 0 hS rfl qv47 (fun _ _ => by simp [takeE, takeT, plainA]) fun H hS => TV_p rfl (TV_p rfl (TV_n rfl))), (nf_t (nf_c (noFz_o _ (fun _ => rfl) _) (nf_c rfl (nf_c rfl nf_n)))), ?_⟩
              refine thaw_tup ?_
              refine TH_o hS (fun _ _ => rfl) (fun _ => rfl) fun v49 H qv49 hS => ?_
              refine TH_p (fun _ => rfl) ?_
              refine TH_p (fun _ => rfl) ?_
              refine TH_n ?_
              try simp only [List.headD_cons]
              obtain ⟨b44, b45, b46⟩ := b43
              try dsimp only at h
              try simp only [W]
              refine seq_n hK41 ?_
              refine w_seq fun K50 hK50 => ?_
              refine w_reg gC ?_
              try simp only [W, Nat.reduceAdd]
              refine w_callS (rsh := [[.sc], [.sc]]) (ys := [.fz (b7.map e_Way), .fz (b44.map (AV.int .i64))]) h rfl (pv_c (sn_ow hS 1 rfl qv9 (fun _ => rfl)) (pv_c (sn_ow hS 0 rfl qv49 (fun _ => rfl)) pv_n)) fun b51 hb51 h => ⟨.tup [.int .i64 b51.1, .bool b51.2], impl_LastArrival_w hb51 (Own.nil _) fun H hS => TV_ok rfl (TV_p rfl (TV_p rfl (TV_n rfl))), ⟨rfl, rfl, fun _ => rfl⟩, ?_⟩
              obtain ⟨b52, b53⟩ := b51
              try dsimp only at h
              try simp only [W]
              refine seq_n hK50 ?_
              refine w_seq fun K54 hK54 => ?_
              obtain ⟨y56, h, g57⟩ := Option.bind_eq_some_iff.1 h
              refine w_join gC (fun s H => ∃ x55 : Bool, y56 = (x55) ∧ s = [u, .fz (a1.map (AV.int .u8)), u, u, u, u, u, u, u, u, u, u, u, u, u, u, u, u, u, u, u, u, u, u, u, u, u, u, u, u, u, u, u, u, u, u, u, u, u, u, u, u, u, u, u, u, u, u, u, u, u, u, u, u, u, u, u, u, u, u, u, u, u, u, u, u, u, u, u, u, u, u, u, u, u, u, u, u, u, u, u, u, u, u, u, u, u, u, u, u, u, u, u, u, u, u, u, u, u, u, u, .bool x55, u, u, u, u, u, u, u, u, u, u, u, u, u, u, u, u, u, u, u, u, u, u, u, u, u, u, u, u, u, u, u, u, u, u, u, u, u, u, u, u, u, u, u, u, u, u, u, u, u, u, u, u, u, u, u, u, u, u, u, u, u, u, u, u, u, u, u, u] ∧ Own H (F)) (fun K58 hK58 => ?_) (fun s H hq => ?_)
              · refine w_seq fun K59 hK59 => ?_
                refine w_reg gC ?_
                try simp only [W, Nat.reduceAdd]
                refine w_grdT h (fun hc h => ?_) (fun hc h => ?_)
                · try simp only [W, hc]
                  refine seq_n hK59 ?_
                  refine w_kill ?_
                  exact cut_n hK58 ⟨_, (Option.some.inj h).symm, rfl, (hS.sel 3 [] (by decide))⟩
                · try simp only [W, hc]
                  refine w_callS (rsh := [[.sc]]) (ys := [.fz (b44.map (AV.int .i64))]) h rfl (pv_c (sn_ow hS 0 rfl qv49 (fun _ => rfl)) pv_n) fun b60 hb60 h => ⟨.int .i64 b60, laws_sumOf_w hb60 (Own.nil _) fun H hS => TV_ok rfl (TV_p rfl (TV_n rfl)), ⟨rfl, rfl, fun _ => rfl⟩, ?_⟩
                  try simp only [W]
                  refine w_callS (rsh := [[.sc]]) (ys := [.fz (b8.map (AV.int .i64))]) h rfl (pv_c (sn_ow hS 2 rfl qv11 (fun _ => rfl)) pv_n) fun b61 hb61 h => ⟨.int .i64 b61, laws_sumOf_w hb61 (Own.nil _) fun H hS => TV_ok rfl (TV_p rfl (TV_n rfl)), ⟨rfl, rfl, fun _ => rfl⟩, ?_⟩
                  try simp only [W, EE, reduceIte, Bool.false_eq_true]
                  refine w_grdT h (fun hc h => ?_) (fun hc h => ?_)
                  · try simp only [W, hc]
                    refine seq_n hK59 ?_
                    refine w_kill ?_
                    exact cut_n hK58 ⟨_, (Option.some.inj h).symm, rfl, (hS.sel 3 [] (by decide))⟩
                  · try simp only [W, EE, reduceIte, Bool.false_eq_true, hc]
                    refine w_grdT h (fun hc h => ?_) (fun hc h => ?_)
                    · try simp only [W, hc]
                      refine seq_n hK59 ?_
                      refine w_kill ?_
                      exact cut_n hK58 ⟨_, (Option.some.inj h).symm, rfl, (hS.sel 3 [] (by decide))⟩
                    · try simp only [W, reduceIte, Bool.false_eq_true, hc]
                      refine w_grdT h (fun hc h => ?_) (fun hc h => ?_)
                      · try simp only [W, hc]
                        refine seq_n hK59 ?_
                        refine w_kill ?_
                        exact cut_n hK58 ⟨_, (Option.some.inj h).symm, rfl, (hS.sel 3 [] (by decide))⟩
                      · try simp only [W, EE, reduceIte, Bool.false_eq_true, hc]
                        refine seq_n hK59 ?_
                        refine w_kill ?_
                        exact cut_n hK58 ⟨_, (Option.some.inj h).symm, rfl, (hS.sel 3 [] (by decide))⟩
              · obtain ⟨x55, ey, rfl, hS⟩ := hq; obtain rfl := ey.symm
                replace h := g57
                try dsimp only at h
                refine seq_n hK54 ?_
                refine w_if ?_
                simp only [W]
                refine w_cnd h (fun hc h => ?_) (fun hc h => ?_)
                · refine w_seq fun K62 hK62 => ?_
                  refine w_reg gC ?_
                  try simp only [W, Nat.reduceAdd]
                  refine seq_n hK62 ?_
                  refine w_ret ?_
                  refine seq_r hK40 ?_
                  try obtain rfl := Option.some.inj h
                  obtain rfl := Option.some.inj g38
                  have h : (some false : Option (Bool)) = some false := rfl
                  refine cut_r hK39 ?_
                  refine seq_r hK29 ?_
                  refine fin_r1 hK0 rfl ?_
                  try obtain rfl := Option.some.inj h
                  exact hP _ hS
                · refine w_skip ?_
                  refine seq_n hK40 ?_
                  refine w_kill ?_
                  exact cut_n hK39 ⟨(Option.some.inj h).symm, rfl, hS⟩
            · refine w_skip ?_
              refine seq_n hK40 ?_
              refine w_kill ?_
              exact cut_n hK39 ⟨(Option.some.inj h).symm, rfl, (hS.sel 2 [] (by decide))⟩
          · obtain ⟨rfl, rfl, hS⟩ := hq
            replace h := g38
            try dsimp only at h
            refine seq_n hK29 ?_
            refine w_seq fun K65 hK65 => ?_
            refine w_reg gC ?_
            try simp only [W, Nat.reduceAdd]
            refine w_call h fun b66 hb66 h => ?_
            obtain ⟨b67, b68⟩ := b66
            try dsimp only at h
            refine spec_DrawArriveAll_w hb66 hS fun v69 qv69 H hS => ?_
            try simp only [W]
            refine seq_n hK65 ?_
            refine w_seq fun K71 hK71 => ?_
            refine w_reg gC ?_
            try simp only [W, Nat.reduceAdd, Nat.reduceBEq, List.contains_cons, Nat.reduceBEq, Bool.or_self]
            refine w_callO (rsh := [[.sl [.sc]], [.sc], [.sc]]) (ys := [.fz (b67.map e_Way), .int .i64 b68]) h rfl (pv_c (sn_ow hS 0 rfl qv69 (fun _ => rfl)) (pv_c rfl pv_n)) fun b72 hb72 h => ⟨.tup [.own 1 (b72.1.map (AV.int .i64)), .int .i64 b72.2.1, .bool b72.2.2], impl_ArriveAll_w hb72 (Own.nil _) fun v76 qv76 H hS => TV_ok rfl (TV_o 0 hS rfl qv76 (fun _ _ => by simp [takeE, takeT, plainA]) fun H hS => TV_p rfl (TV_p rfl (TV_n rfl))), (nf_t (nf_c (noFz_o _ (fun _ => rfl) _) (nf_c rfl (nf_c rfl nf_n)))), ?_⟩
            refine thaw_tup ?_
            refine TH_o hS (fun _ _ => rfl) (fun _ => rfl) fun v78 H qv78 hS => ?_
            refine TH_p (fun _ => rfl) ?_
            refine TH_p (fun _ => rfl) ?_
            refine TH_n ?_
            try simp only [List.headD_cons]
            obtain ⟨b73, b74, b75⟩ := b72
            try dsimp only at h
            try simp only [W]
            refine seq_n hK71 ?_
            refine w_seq fun K79 hK79 => ?_
            refine w_reg gC ?_
            try simp only [W, Nat.reduceAdd, Nat.reduceBEq, List.contains_cons, Nat.reduceBEq, Bool.or_self]
            refine w_callO (rsh := [[.sl [.sc]], [.sc], [.sc]]) (ys := [.fz (b67.map e_Way), .int .i64 b68]) h rfl (pv_c (sn_ow hS 1 rfl qv69 (fun _ => rfl)) (pv_c rfl pv_n)) fun b80 hb80 h => ⟨.tup [.own 1 (b80.1.map (AV.int .i64)), .int .i64 b80.2.1, .bool b80.2.2], spec_ArriveAll_w hb80 (Own.nil _) fun v84 qv84 H hS => TV_ok rfl (TV_o 0 hS rfl qv84 (fun _ _ => by simp [takeE, takeT, plainA]) fun H hS => TV_p rfl (TV_p rfl (TV_n rfl))), (nf_t (nf_c (noFz_o _ (fun _ => rfl) _) (nf_c rfl (nf_c rfl nf_n)))), ?_⟩
            refine thaw_tup ?_
            refine TH_o hS (fun _ _ => rfl) (fun _ => rfl) fun v86 H qv86 hS => ?_
            refine TH_p (fun _ => rfl) ?_
            refine TH_p (fun _ => rfl) ?_
            refine TH_n ?_
            try simp only [List.headD_cons]
            obtain ⟨b81, b82, b83⟩ := b80
            try dsimp only at h
            try simp only [W]
            refine seq_n hK79 ?_
            refine w_seq fun K87 hK87 => ?_
            refine w_seq fun K88 hK88 => ?_
            obtain ⟨y90, h, g91⟩ := Option.bind_eq_some_iff.1 h
            refine w_join gC (fun s H => ∃ x89 : Bool, y90 = (x89) ∧ s = [u, u, u, u, u, u, u, u, u, u, u, u, u, u, u, u, v69, .int .i64 b68, v78, .int .i64 b74, .bool b75, u, u, u, u, u, u, u, u, u, u, u, u, u, u, u, u, u, u, u, u, u, u, u, u, u, u, u, u, u, u, u, u, u, u, u, u, u, u, u, u, u, u, u, u, u, u, u, u, u, u, u, u, u, u, u, u, u, u, u, u, u, u, u, u, u, u, u, u, u, u, u, u, u, u, u, u, u, u, u, u, u, u, u, u, u, u, u, u, u, u, u, u, u, u, u, u, u, u, u, u, u, u, u, u, u, u, u, u, u, u, u, u, u, .bool x89, u, u, u, u, u, u, u, u, u, u, u, u, u, u, u, u, u, u, u, u, u, u, u, u, u, u, u, u, u, u, u, u, u, u, u] ∧ Own H (⟨v69, 2, b67.map e_Way⟩ :: ⟨v78, 1, b73.map (AV.int .i64)⟩ :: F)) (fun K92 hK92 => ?_) (fun s H hq => ?_)
            · refine w_seq fun K93 hK93 => ?_
              refine w_reg gC ?_
              try simp only [W, EE, Nat.reduceAdd]
              rw [b_bneq _ _ _ _ (h := rfl) rfl, resV_s]
              try simp only [W]
              refine w_grdT h (fun hc h => ?_) (fun hc h => ?_)
              · try simp only [W, hc]
                refine seq_n hK93 ?_
                refine w_kill ?_
                exact cut_n hK92 ⟨_, (Option.some.inj h).symm, rfl, (hS.sel 3 [2, 1] (by decide))⟩
              · try simp only [W, EE, reduceIte, Bool.false_eq_true, hc]
                refine w_grdT h (fun hc h => ?_) (fun hc h => ?_)
                · try simp only [W, hc]
                  refine seq_n hK93 ?_
                  refine w_kill ?_
                  exact cut_n hK92 ⟨_, (Option.some.inj h).symm, rfl, (hS.sel 3 [2, 1] (by decide))⟩
                · try simp only [W, hc]
                  refine w_callS (rsh := [[.sc]]) (ys := [.fz (b73.map (AV.int .i64)), .fz (b81.map (AV.int .i64))]) h rfl (pv_c (sn_ow hS 1 rfl qv78 (fun _ => rfl)) (pv_c (sn_ow hS 0 rfl qv86 (fun _ => rfl)) pv_n)) fun b94 hb94 h => ⟨.bool b94, laws_sameInts_w hb94 (Own.nil _) fun H hS => TV_ok rfl (TV_p rfl (TV_n rfl)), ⟨rfl, rfl, fun _ => rfl⟩, ?_⟩
                  try simp only [W, reduceIte, Bool.false_eq_true]
                  refine seq_n hK93 ?_
                  refine w_kill ?_
                  exact cut_n hK92 ⟨_, (Option.some.inj h).symm, rfl, (hS.sel 3 [2, 1] (by decide))⟩
            · obtain ⟨x89, ey, rfl, hS⟩ := hq; obtain rfl := ey.symm
              replace h := g91
              try dsimp only at h
              refine seq_n hK88 ?_
              refine w_if ?_
              simp only [W]
              refine w_cnd h (fun hc h => ?_) (fun hc h => ?_)
              · refine w_seq fun K95 hK95 => ?_
                refine w_reg gC ?_
                try simp only [W, Nat.reduceAdd]
                refine seq_n hK95 ?_
                refine w_ret ?_
                refine seq_r hK87 ?_
                refine fin_r1 hK0 rfl ?_
                try obtain rfl := Option.some.inj h
                exact hP _ (hS.sel 2 [] (by decide))
              · refine w_skip ?_
                refine seq_n hK87 ?_
                refine w_seq fun K96 hK96 => ?_
                refine w_seq fun K97 hK97 => ?_
                obtain ⟨y99, h, g100⟩ := Option.bind_eq_some_iff.1 h
                refine w_join gC (fun s H => ∃ x98 : Bool, y99 = (x98) ∧ s = [u, u, u, u, u, u, u, u, u, u, u, u, u, u, u, u, v69, .int .i64 b68, v78, .int .i64 b74, u, u, u, u, u, u, u, u, u, u, u, u, u, u, u, u, u, u, u, u, u, u, u, u, u, u, u, u, u, u, u, u, u, u, u, u, u, u, u, u, u, u, u, u, u, u, u, u, u, u, u, u, u, u, u, u, u, u, u, u, u, u, u, u, u, u, u, u, u, u, u, u, u, u, u, u, u, u, u, u, u, u, u, u, u, u, u, u, u, u, u, u, u, u, u, u, u, u, u, u, u, u, u, u, u, u, u, u, u, u, u, u, u, u, u, u, u, u, u, .bool x98, u, u, u, u, u, u, u, u, u, u, u, u, u, u, u, u, u, u, u, u, u, u, u, u, u, u, u, u, u, u] ∧ Own H (⟨v69, 2, b67.map e_Way⟩ :: ⟨v78, 1, b73.map (AV.int .i64)⟩ :: F)) (fun K101 hK101 => ?_) (fun s H hq => ?_)
                · refine w_seq fun K102 hK102 => ?_
                  refine w_reg gC ?_
                  try simp only [W, Nat.reduceAdd]
                  refine w_grdT h (fun hc h => ?_) (fun hc h => ?_)
                  · try simp only [W, EE, reduceIte, hc]
                    refine seq_n hK102 ?_
                    refine w_kill ?_
                    exact cut_n hK101 ⟨_, (Option.some.inj h).symm, rfl, hS⟩
                  · try simp only [W, hc]
                    refine seq_n hK102 ?_
                    refine w_kill ?_
                    exact cut_n hK101 ⟨_, (Option.some.inj h).symm, rfl, hS⟩
                · obtain ⟨x98, ey, rfl, hS⟩ := hq; obtain rfl := ey.symm
                  replace h := g100
                  try dsimp only at h
                  refine seq_n hK97 ?_
                  obtain ⟨y103, h, g104⟩ := Option.bind_eq_some_iff.1 h
                  refine w_join gC (fun s H => y103 = LR.next () ∧ s = [u, u, u, u, u, u, u, u, u, u, u, u, u, u, u, u, u, u, u, u, u, u, u, u, u, u, u, u, u, u, u, u, u, u, u, u, u, u, u, u, u, u, u, u, u, u, u, u, u, u, u, u, u, u, u, u, u, u, u, u, u, u, u, u, u, u, u, u, u, u, u, u, u, u, u, u, u, u, u, u, u, u, u, u, u, u, u, u, u, u, u, u, u, u, u, u, u, u, u, u, u, u, u, u, u, u, u, u, u, u, u, u, u, u, u, u, u, u, u, u, u, u, u, u, u, u, u, u, u, u, u, u, u, u, u, u, u, u, u, u, u, u, u, u, u, u, u, u, u, u, u, u, u, u, u, u, u, u, u, u, u, u, u, u, u, u, u, u, u, u] ∧ Own H (F)) (fun K105 hK105 => ?_) (fun s H hq => ?_)
                  · refine w_seq fun K106 hK106 => ?_
                    refine w_if ?_
                    simp only [W]
                    refine w_cnd h (fun hc h => ?_) (fun hc h => ?_)
                    · refine w_seq fun K107 hK107 => ?_
                      refine w_reg gC ?_
                      try simp only [W, EE, Nat.reduceAdd, Nat.reduceBEq, List.contains_cons, Nat.reduceBEq, Bool.or_self]
                      refine w_callO (rsh := [[.sl [.sc]], [.sc], [.sc]]) (ys := [.fz (b67.map e_Way), .int .i64 (IntKind.i64.wrap (b68 + 1))]) h rfl (pv_c (sn_ow hS 0 rfl qv69 (fun _ => rfl)) (pv_c rfl pv_n)) fun b108 hb108 h => ⟨.tup [.own 1 (b108.1.map (AV.int .i64)), .int .i64 b108.2.1, .bool b108.2.2], impl_ArriveAll_w hb108 (Own.nil _) fun v112 qv112 H hS => TV_ok rfl (TV_o 0 hS rfl qv112 (fun _ _ => by simp [takeE, takeT, plainA]) fun H hS => TV_p rfl (TV_p rfl (TV_n rfl))), (nf_t (nf_c (noFz_o _ (fun _ => rfl) _) (nf_c rfl (nf_c rfl nf_n)))), ?_⟩
                      refine thaw_tup ?_
                      refine TH_o hS (fun _ _ => rfl) (fun _ => rfl) fun v114 H qv114 hS => ?_
                      refine TH_p (fun _ => rfl) ?_
                      refine TH_p (fun _ => rfl) ?_
                      refine TH_n ?_
                      try simp only [List.headD_cons]
                      obtain ⟨b109, b110, b111⟩ := b108
                      try dsimp only at h
                      try simp only [W]
                      refine seq_n hK107 ?_
                      refine w_seq fun K115 hK115 => ?_
                      refine w_seq fun K116 hK116 => ?_
                      obtain ⟨y118, h, g119⟩ := Option.bind_eq_some_iff.1 h
                      refine w_join gC (fun s H => ∃ x117 : Bool, y118 = (x117) ∧ s = [u, u, u, u, u, u, u, u, u, u, u, u, u, u, u, u, u, u, v78, u, u, u, u, u, v114, u, u, u, u, u, u, u, u, u, u, u, u, u, u, u, u, u, u, u, u, u, u, u, u, u, u, u, u, u, u, u, u, u, u, u, u, u, u, u, u, u, u, u, u, u, u, u, u, u, u, u, u, u, u, u, u, u, u, u, u, u, u, u, u, u, u, u, u, u, u, u, u, u, u, u, u, u, u, u, u, u, u, u, u, u, u, u, u, u, u, u, u, u, u, u, u, u, u, u, u, u, u, u, u, u, u, u, u, u, u, u, u, u, u, u, u, u, u, u, u, u, u, u, u, u, u, u, u, u, .bool x117, u, u, u, u, u, u, u, u, u, u, u, u, u, u, u] ∧ Own H (⟨v78, 1, b73.map (AV.int .i64)⟩ :: ⟨v114, 1, b109.map (AV.int .i64)⟩ :: F)) (fun K120 hK120 => ?_) (fun s H hq => ?_)
                      · refine w_seq fun K121 hK121 => ?_
                        refine w_reg gC ?_
                        try simp only [W, Nat.reduceAdd]
                        refine w_grdT h (fun hc h => ?_) (fun hc h => ?_)
                        · try simp only [W, hc]
                          refine seq_n hK121 ?_
                          refine w_kill ?_
                          exact cut_n hK120 ⟨_, (Option.some.inj h).symm, rfl, (hS.sel 3 [2, 0] (by decide))⟩
                        · try simp only [W, EE, reduceIte, Bool.false_eq_true, hc]
                          refine seq_n hK121 ?_
                          refine w_kill ?_
                          exact cut_n hK120 ⟨_, (Option.some.inj h).symm, rfl, (hS.sel 3 [2, 0] (by decide))⟩
                      · obtain ⟨x117, ey, rfl, hS⟩ := hq; obtain rfl := ey.symm
                        replace h := g119
                        try dsimp only at h
                        refine seq_n hK116 ?_
                        refine w_if ?_
                        simp only [W]
                        refine w_cnd h (fun hc h => ?_) (fun hc h => ?_)
                        · refine w_seq fun K122 hK122 => ?_
                          refine w_reg gC ?_
                          try simp only [W, Nat.reduceAdd]
                          refine seq_n hK122 ?_
                          refine w_ret ?_
                          refine seq_r hK115 ?_
                          refine seq_r hK106 ?_
                          try obtain rfl := Option.some.inj h
                          obtain rfl := Option.some.inj g104
                          have h : (some false : Option (Bool)) = some false := rfl
                          refine cut_r hK105 ?_
                          refine seq_r hK96 ?_
                          refine fin_r1 hK0 rfl ?_
                          try obtain rfl := Option.some.inj h
                          exact hP _ (hS.sel 2 [] (by decide))
                        · refine w_skip ?_
                          refine seq_n hK115 ?_
                          refine w_seq fun K125 hK125 => ?_
                          refine w_reg gC ?_
                          try simp only [W, EE, Nat.reduceAdd]
                          refine w_len 0 hS rfl qv78 rfl ?_
                          try simp only [W]
                          refine seq_n hK125 ?_
                          obtain ⟨y127, hw128, g134⟩ := Option.bind_eq_some_iff.1 h
                          refine w_join gC (fun s H => y127 = LR.next () ∧ s = [u, u, u, u, u, u, u, u, u, u, u, u, u, u, u, u, u, u, u, u, u, u, u, u, u, u, u, u, u, u, u, u, u, u, u, u, u, u, u, u, u, u, u, u, u, u, u, u, u, u, u, u, u, u, u, u, u, u, u, u, u, u, u, u, u, u, u, u, u, u, u, u, u, u, u, u, u, u, u, u, u, u, u, u, u, u, u, u, u, u, u, u, u, u, u, u, u, u, u, u, u, u, u, u, u, u, u, u, u, u, u, u, u, u, u, u, u, u, u, u, u, u, u, u, u, u, u, u, u, u, u, u, u, u, u, u, u, u, u, u, u, u, u, u, u, u, u, u, u, u, u, u, u, u, u, u, u, u, u, u, u, u, u, u, u, u, u, u, u, u] ∧ Own H (F)) (fun K129 hK129 => ?_) (fun s H hq => ?_)
                          · refine w_blk fun K130 hK130 => ?_
                            refine w_loop gC hw128 (fun x s H => s = [u, u, u, u, u, u, u, u, u, u, u, u, u, u, u, u, u, u, v78, u, u, u, u, u, v114, u, u, u, u, u, u, u, u, u, u, u, u, u, u, u, u, u, u, u, u, u, u, u, u, u, u, u, u, u, u, u, u, u, u, u, u, u, u, u, u, u, u, u, u, u, u, u, u, u, u, u, u, u, u, u, u, u, u, u, u, u, u, u, u, u, u, u, u, u, u, u, u, u, u, u, u, u, u, u, u, u, u, u, u, u, u, u, u, u, u, u, u, u, u, u, u, u, u, u, u, u, u, u, u, u, u, u, u, u, u, u, u, u, u, u, u, u, u, u, u, u, u, u, u, u, u, u, u, u, u, u, .int .i64 (b73.length : Int), .int .i64 x, u, u, u, u, u, u, u, u, u, u, u, u] ∧ Own H (⟨v78, 1, b73.map (AV.int .i64)⟩ :: ⟨v114, 1, b109.map (AV.int .i64)⟩ :: F)) ⟨rfl, hS⟩ (fun x126 y133 s H h hd132 hi K131 hK131 => ?_)
                            skip
                            try dsimp only at hi
                            obtain ⟨rfl, hS⟩ := hi
                            simp only [laws_FnWays_l0] at h
                            refine w_seq fun K135 hK135 => ?_
                            refine w_reg gC ?_
                            try simp only [W, EE, Nat.reduceAdd]
                            refine seq_n hK135 ?_
                            refine w_seq fun K136 hK136 => ?_
                            refine w_if ?_
                            simp only [W]
                            refine w_cnd h (fun hc h => ?_) (fun hc h => ?_)
                            · refine w_skip ?_
                              refine seq_n hK136 ?_
                              refine w_seq fun K137 hK137 => ?_
                              refine w_blk fun K138 hK138 => ?_
                              refine w_seq fun K139 hK139 => ?_
                              refine w_reg gC ?_
                              try simp only [W, Nat.reduceAdd]
                              refine seq_n hK139 ?_
                              refine w_seq fun K140 hK140 => ?_
                              refine w_draw0 gC (by kernel_rfl) ?_
                              try simp only [W, EE, Nat.reduceAdd]
                              refine w_ow 1 hS rfl rfl rfl rfl rfl h (fun b141 in142 wn142 on142 hb141 h en142 => ?_) qv114.ne
                              obtain ⟨kn142, hbn142, hen142⟩ := hS.elem 1 rfl en142 hb141
                              try simp only [W, EE, hbn142, hen142]
                              refine w_ow 0 hS rfl rfl rfl rfl rfl h (fun b143 in144 wn144 on144 hb143 h en144 => ?_) qv78.ne
                              obtain ⟨kn144, hbn144, hen144⟩ := hS.elem 0 rfl en144 hb143
                              try simp only [W, EE, hbn144, hen144]
                              refine seq_n hK140 ?_
                              refine w_if ?_
                              simp only [W]
                              refine w_cnd h (fun hc h => ?_) (fun hc h => ?_)
                              · refine w_seq fun K145 hK145 => ?_
                                refine w_reg gC ?_
                                try simp only [W, Nat.reduceAdd]
                                refine seq_n hK145 ?_
                                refine w_ret ?_
                                refine blk_r hK138 ?_
                                refine seq_r hK137 ?_
                                try obtain rfl := Option.some.inj h
                                obtain rfl := hd132 _ rfl
                                have h : (some (LR.done (LR.done false)) : Option (LR Unit (LR Unit (Bool)))) = some (LR.done (LR.done false)) := rfl
                                refine lp_r hK131 ?_
                                refine blk_r hK130 ?_
                                try obtain rfl := Option.some.inj h
                                obtain rfl := Option.some.inj g134
                                have h : (some (LR.done false) : Option (LR Unit (Bool))) = some (LR.done false) := rfl
                                refine cut_r hK129 ?_
                                refine seq_r hK106 ?_
                                try obtain rfl := Option.some.inj h
                                obtain rfl := Option.some.inj g104
                                have h : (some false : Option (Bool)) = some false := rfl
                                refine cut_r hK105 ?_
                                refine seq_r hK96 ?_
                                refine fin_r1 hK0 rfl ?_
                                try obtain rfl := Option.some.inj h
                                exact hP _ (hS.sel 2 [] (by decide))
                              · refine w_skip ?_
                                refine blk_n0 hK138 ?_
                                refine seq_n hK137 ?_
                                refine w_reg gC ?_
                                try simp only [W, EE, Nat.reduceAdd]
                                exact lp_n hK131 h ⟨rfl, hS⟩
                            · refine w_exit ?_
                              refine seq_x hK136 ?_
                              try obtain rfl := Option.some.inj h
                              obtain rfl := hd132 _ rfl
                              have h : (some (LR.next ()) : Option (LR Unit (LR Unit (Bool)))) = some (LR.next ()) := rfl
                              refine lp_x hK131 ?_
                              refine blk_e hK130 ?_
                              exact cut_n hK129 ⟨(Option.some.inj h).symm, rfl, (hS.sel 2 [] (by decide))⟩
                          · obtain ⟨rfl, rfl, hS⟩ := hq
                            replace h := g134
                            try dsimp only at h
                            refine seq_n hK106 ?_
                            refine w_kill ?_
                            exact cut_n hK105 ⟨(Option.some.inj h).symm, rfl, hS⟩
                    · refine w_skip ?_
                      refine seq_n hK106 ?_
                      refine w_kill ?_
                      exact cut_n hK105 ⟨(Option.some.inj h).symm, rfl, (hS.sel 2 [] (by decide))⟩
                  · obtain ⟨rfl, rfl, hS⟩ := hq
                    replace h := g104
                    try dsimp only at h
                    refine seq_n hK96 ?_
                    refine w_seq fun K154 hK154 => ?_
                    refine w_reg gC ?_
                    try simp only [W, Nat.reduceAdd]
                    refine seq_n hK154 ?_
                    refine w_ret ?_
                    refine fin_r1 hK0 rfl ?_
                    try obtain rfl := Option.some.inj h
                    exact hP _ hS
end Go.VxW
