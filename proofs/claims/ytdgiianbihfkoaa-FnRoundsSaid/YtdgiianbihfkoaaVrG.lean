import Derived.Test.YtdgiianbihfkoaaVyGF
import Derived.Test.YtdgiianbihfkoaaProg
import Derived.Test.YtdgiianbihfkoaaVaE
import Derived.KernelRfl
open Go Go.VS
set_option maxRecDepth 8000
set_option maxHeartbeats 4000000
namespace Go.VxW
def e_Shares (x : Shares) : AV := .agg [.fz (x.Wins.map (AV.int .i64)), .int .i64 x.Room]
def e_L1Cur (x : L1Cur) : AV := .agg [.fz (x.Code.map (AV.int .u8)), .int .i64 x.At, .int .u64 x.Seed]
def E : TEnv := fun t => match t with
  | 3 => some { sz := 1, agg := false, zero := [AV.int IntKind.i64 0], bytes := 8, und := UD.it IntKind.i64, eqok := true }
  | 4 => some { sz := 1, agg := false, zero := [AV.bool false], bytes := 1, und := UD.bl, eqok := true }
  | 5 => some { sz := 1, agg := false, zero := [AV.int IntKind.u8 0], bytes := 1, und := UD.it IntKind.u8, eqok := true }
  | 22 => some { sz := 1, agg := false, zero := [AV.nil], bytes := 24, und := UD.sl 5, eqok := true }
  | 24 => some { sz := 1, agg := false, zero := [AV.nil], bytes := 24, und := UD.sl 3, eqok := true }
  | 55 => some { sz := 2, agg := true, zero := [AV.nil, AV.int IntKind.i64 0], bytes := 32, und := UD.st [(0, 24), (1, 3)], eqok := true }
  | 150 => some { sz := 1, agg := false, zero := [AV.nilp], bytes := 8, und := UD.pt, eqok := true }
  | 151 => some { sz := 1, agg := false, zero := [AV.int IntKind.u64 0], bytes := 8, und := UD.it IntKind.u64, eqok := true }
  | 153 => some { sz := 3, agg := true, zero := [AV.nil, AV.int IntKind.i64 0, AV.int IntKind.u64 0], bytes := 40, und := UD.st [(0, 22), (1, 3), (2, 151)], eqok := true }
  | 155 => some { sz := 1, agg := false, zero := [AV.undef], bytes := 8, und := UD.ot, eqok := true }
  | 156 => some { sz := 1, agg := false, zero := [AV.undef], bytes := 8, und := UD.ot, eqok := true }
  | _ => none
def pol : FuncId → FPol := fun f => match f with
  | 5 => { rsh := [[.sc]], loops := [(0, { keep := [1, 7, 8, 13, 14, 15, 16, 17] })], blocks := [(0, [1, 7, 13, 14, 15, 16])], regs := [(18, [], [1])], frz := [(6, [], some [1, 5, 7, 8, 9, 63]), (15, [], some [1, 98])], fz := [(3, [(6, [([34], [.sl [.sc], .sc])])]), (17, [(3, [([100], [.sl [.sc], .sc])])])], cnds := [(64, [1])] }
  | 18 => { rsh := [[.sc]], loops := [(0, { keep := [3, 6, 7, 8] })], blocks := [(0, [3])] }
  | 22 => { rsh := [[.sc]], loops := [(0, { keep := [0, 1, 12, 13] })], blocks := [(0, [])] }
  | 38 => { rsh := [[.sl [.sc], .sc], [.sc]], fz := [(2, [(4, [([11], [.sl [.sc]])])])] }
  | 39 => { rsh := [[.sl [.sc], .sc], [.sc], [.sc]], loops := [(0, { keep := [4, 7, 8, 27, 28] })], blocks := [(0, [4, 7, 8])], regs := [(3, [7], [])], frz := [(1, [], some [1, 2, 4, 19])], fz := [(11, [(1, [([42], [.sl [.sc], .sc])])]), (2, [(1, [([20], [.sl [.sc], .sc])])]), (8, [(1, [([38], [.sl [.sc], .sc])])])], cnds := [(39, [4, 7, 8, 9, 27, 28])] }
  | 40 => { rsh := [[.sl [.sc], .sc], [.sc], [.sc]], loops := [(0, { keep := [1, 4, 7, 8] })], blocks := [(0, [4, 7, 8])], regs := [(3, [8], []), (7, [], [1])], frz := [(1, [], some [1, 2, 4, 18])] }
  | 41 => { rsh := [[.sc]] }
  | 42 => { rsh := [[.sc], [.sc]] }
  | 43 => { rsh := [[.sc]] }
  | 44 => { rsh := [[.sl [.sc], .sc]] }
  | 45 => { rsh := [[.sl [.sc], .sc], [.sc], [.sc]], frz := [(1, [], some [1, 2, 18])] }
  | 46 => { rsh := [[.sl [.sc], .sc], [.sc], [.sc]], fz := [(3, [(6, [([16], [.sl [.sc], .sc])])]), (2, [(1, [([12], [.sl [.sc], .sc])])]), (6, [(1, [([25], [.sl [.sc], .sc])])])] }
  | 48 => { rsh := [[.sl [.sc], .sc], [.sc]] }
  | 53 => { rsh := [[.sl [.sc], .sc], [.sc]] }
  | 141 => { rsh := [[.sc]], cnds := [(11, [1, 5])] }
  | 143 => { rsh := [[.sc]] }
  | 145 => { rsh := [[.sc]] }
  | 147 => { rsh := [[.sc]] }
  | 150 => { rsh := [[.sc]], loops := [(0, { keep := [1, 2, 9, 10, 11] })], blocks := [(0, [])] }
  | 153 => { rsh := [[.sc]] }
  | 168 => { rsh := [[.sl [.sc], .sc]], loops := [(0, { keep := [0, 2, 3, 4] })], blocks := [(0, [0, 2, 3]), (2, [2, 3])], regs := [(5, [3, 8, 6], []), (8, [4, 6], [])], fz := [(10, [(2, [([37], [.sl [.sc]])])])], cnds := [(26, [2, 3]), (34, [2, 3])] }
  | 169 => { rsh := [[.sl [.sc]]] }
  | 170 => { rsh := [[.sc]] }
  | 171 => { rsh := [[.sl [.sc], .sc], [.sc]] }
  | 172 => { rsh := [[.sc]] }
  | 173 => { rsh := [[.sc]], loops := [(0, { keep := [0, 3, 4] })], blocks := [(0, [3])], cnds := [(7, [0])] }
  | 174 => { rsh := [[.sc]], loops := [(0, { keep := [0, 3, 4] })], blocks := [(0, [3])], cnds := [(7, [0])] }
  | 175 => { rsh := [[.sc]] }
  | 176 => { rsh := [[.sl [.sc], .sc]] }
  | 177 => { rsh := [[.sc]], loops := [(0, { keep := [3, 6, 7, 8] })], blocks := [(0, [3])] }
  | 178 => { rsh := [[.sl [.sc], .sc], [.sc]], fz := [(2, [(1, [([7], [.sl [.sc], .sc])])])] }
  | 179 => { rsh := [[.sl [.sc], .sc], [.sc]], loops := [(0, { keep := [1, 2, 4, 6, 13, 14, 15] })], blocks := [(0, [2, 4, 6])], regs := [(5, [4, 8, 6], [])], frz := [(7, [], some [4, 6, 35])] }
  | 180 => { rsh := [[.sc]] }
  | 181 => { rsh := [[.sl [.sc], .sc]], loops := [(0, { keep := [2, 3, 10, 11, 12] })], blocks := [(0, [2, 3])] }
  | 184 => { rsh := [[.sc]] }
  | 185 => { rsh := [[.sl [.sc], .sc]], loops := [(0, { keep := [2, 3, 10, 11, 12] })], blocks := [(0, [2, 3])], regs := [(5, [8, 6], [])] }
  | 210 => { rsh := [[.sc]] }
  | 245 => { rsh := [[.sc]], loops := [(0, { keep := [3, 6, 7, 8] })], blocks := [(0, [3])] }
  | 252 => { rsh := [[.sc]], cnds := [(13, [0, 3])] }
  | 255 => { rsh := [[.sc]], loops := [(0, { keep := [0, 1, 7, 8] })], blocks := [(0, [])] }
  | _ => {}
noncomputable def code : FuncId → Option Func := fun f => match f with
  | 5 => some Go.Proofs.Try.f5
  | 18 => some Go.Proofs.Try.f18
  | 22 => some Go.Proofs.Try.f22
  | 38 => some Go.Proofs.Try.f38
  | 39 => some Go.Proofs.Try.f39
  | 40 => some Go.Proofs.Try.f40
  | 41 => some Go.Proofs.Try.f41
  | 42 => some Go.Proofs.Try.f42
  | 43 => some Go.Proofs.Try.f43
  | 44 => some Go.Proofs.Try.f44
  | 45 => some Go.Proofs.Try.f45
  | 46 => some Go.Proofs.Try.f46
  | 48 => some Go.Proofs.Try.f48
  | 53 => some Go.Proofs.Try.f53
  | 141 => some Go.Proofs.Try.f141
  | 143 => some Go.Proofs.Try.f143
  | 145 => some Go.Proofs.Try.f145
  | 147 => some Go.Proofs.Try.f147
  | 150 => some Go.Proofs.Try.f150
  | 153 => some Go.Proofs.Try.f153
  | 168 => some Go.Proofs.Try.f168
  | 170 => some Go.Proofs.Try.f170
  | 171 => some Go.Proofs.Try.f171
  | 172 => some Go.Proofs.Try.f172
  | 173 => some Go.Proofs.Try.f173
  | 174 => some Go.Proofs.Try.f174
  | 175 => some Go.Proofs.Try.f175
  | 176 => some Go.Proofs.Try.f176
  | 177 => some Go.Proofs.Try.f177
  | 178 => some Go.Proofs.Try.f178
  | 179 => some Go.Proofs.Try.f179
  | 180 => some Go.Proofs.Try.f180
  | 181 => some Go.Proofs.Try.f181
  | 184 => some Go.Proofs.Try.f184
  | 185 => some Go.Proofs.Try.f185
  | 210 => some Go.Proofs.Try.f210
  | 245 => some Go.Proofs.Try.f245
  | 252 => some Go.Proofs.Try.f252
  | 255 => some Go.Proofs.Try.f255
  | _ => none
def cids : List (FuncId × Nat × Nat) := [(169, 1, 8)]
noncomputable def C : Ctx := ⟨E, pol, code, cloneExt cids⟩
theorem gC : Good C := clone_good (ids := cids) rfl
theorem cE : C.E = E := rfl
theorem E3 : E 3 = some { sz := 1, agg := false, zero := [AV.int IntKind.i64 0], bytes := 8, und := UD.it IntKind.i64, eqok := true } := rfl
theorem E4 : E 4 = some { sz := 1, agg := false, zero := [AV.bool false], bytes := 1, und := UD.bl, eqok := true } := rfl
theorem E5 : E 5 = some { sz := 1, agg := false, zero := [AV.int IntKind.u8 0], bytes := 1, und := UD.it IntKind.u8, eqok := true } := rfl
theorem E22 : E 22 = some { sz := 1, agg := false, zero := [AV.nil], bytes := 24, und := UD.sl 5, eqok := true } := rfl
theorem E24 : E 24 = some { sz := 1, agg := false, zero := [AV.nil], bytes := 24, und := UD.sl 3, eqok := true } := rfl
theorem E55 : E 55 = some { sz := 2, agg := true, zero := [AV.nil, AV.int IntKind.i64 0], bytes := 32, und := UD.st [(0, 24), (1, 3)], eqok := true } := rfl
theorem E150 : E 150 = some { sz := 1, agg := false, zero := [AV.nilp], bytes := 8, und := UD.pt, eqok := true } := rfl
theorem E151 : E 151 = some { sz := 1, agg := false, zero := [AV.int IntKind.u64 0], bytes := 8, und := UD.it IntKind.u64, eqok := true } := rfl
theorem E153 : E 153 = some { sz := 3, agg := true, zero := [AV.nil, AV.int IntKind.i64 0, AV.int IntKind.u64 0], bytes := 40, und := UD.st [(0, 22), (1, 3), (2, 151)], eqok := true } := rfl
theorem E155 : E 155 = some { sz := 1, agg := false, zero := [AV.undef], bytes := 8, und := UD.ot, eqok := true } := rfl
theorem E156 : E 156 = some { sz := 1, agg := false, zero := [AV.undef], bytes := 8, und := UD.ot, eqok := true } := rfl
theorem EE : type_of% (And.intro @cE <| And.intro @E3 <| And.intro @E4 <| And.intro @E5 <| And.intro @E22 <| And.intro @E24 <| And.intro @E55 <| And.intro @E150 <| And.intro @E151 <| And.intro @E153 <| And.intro @E155 @E156) := And.intro @cE <| And.intro @E3 <| And.intro @E4 <| And.intro @E5 <| And.intro @E22 <| And.intro @E24 <| And.intro @E55 <| And.intro @E150 <| And.intro @E151 <| And.intro @E153 <| And.intro @E155 @E156
theorem e_L1Cur_d (x : L1Cur) : e_L1Cur x = .agg [.fz (x.Code.map (AV.int .u8)), .int .i64 x.At, .int .u64 x.Seed] := rfl
theorem e_Shares_d (x : Shares) : e_Shares x = .agg [.fz (x.Wins.map (AV.int .i64)), .int .i64 x.Room] := rfl
theorem EN : type_of% (And.intro @e_L1Cur_d <| And.intro @e_Shares_d @killB_n) := And.intro @e_L1Cur_d <| And.intro @e_Shares_d @killB_n
theorem spec_l1Cur_next_w {a0 : L1Cur} {i0 : Nat} {w0 : Nat} {r : (Int × L1Cur)} (h : spec_l1Cur_next a0 = some r) {F : List It} {H : Heap} (hS : Own H (⟨.ptr i0 w0 0 0, 3, [.agg [.fz (a0.Code.map (AV.int .u8)), .int .i64 a0.At, .int .u64 a0.Seed]]⟩ :: F)) {P : AV → Heap → Prop} (hP : ∀ H', Own H' (⟨.ptr i0 w0 0 0, 3, [.agg [.fz (r.2.Code.map (AV.int .u8)), .int .i64 r.2.At, .int .u64 r.2.Seed]]⟩ :: F) → P (.int .i64 r.1) H') : ACall C 252 [.ptr i0 w0 0 0] H P := by
  refine acall_of gC (res := [.tmp 2]) (n := 62) rfl rfl rfl rfl fun K0 hK0 => ?_
  simp only [W, Nat.reduceSub, Nat.reduceAdd, List.replicate]
  unfold spec_l1Cur_next at h
  refine w_seq fun K1 hK1 => ?_
  refine w_reg gC ?_
  try simp only [W, Nat.reduceAdd]
  refine seq_n hK1 ?_
  refine w_seq fun K2 hK2 => ?_
  refine w_reg gC ?_
  try simp only [W, Nat.reduceAdd]
  refine seq_n hK2 ?_
  refine w_seq fun K3 hK3 => ?_
  refine w_seq fun K4 hK4 => ?_
  refine w_draw0 gC (by kernel_rfl) ?_
  try simp only [W, EE, Nat.reduceAdd, Nat.reduceBEq, hS.var 0 rfl]
  refine seq_n hK4 ?_
  obtain ⟨y6, h, g7⟩ := Option.bind_eq_some_iff.1 h
  refine w_join gC (fun s H => ∃ x5 : Int, y6 = (x5) ∧ s = [.ptr i0 w0 0 0, u, u, .int .i64 x5, u, u, u, u, u, u, u, u, u, u, u, u, u, u, u, u, u, u, u, u, u, u, u, u, u, u, u, u, u, u, u, u, u, u, u, u, u, u, u, u, u, u, u, u, u, u, u, u, u, u, u, u, u, u, u, u, u, u] ∧ Own H (⟨.ptr i0 w0 0 0, 3, [.agg [.fz (a0.Code.map (AV.int .u8)), .int .i64 a0.At, .int .u64 a0.Seed]]⟩ :: F)) (fun K8 hK8 => ?_) (fun s H hq => ?_)
  · refine w_seq fun K9 hK9 => ?_
    refine w_if ?_
    simp only [W]
    refine w_cnd h (fun hc h => ?_) (fun hc h => ?_)
    · refine w_draw0 gC (by kernel_rfl) ?_
      try simp only [W, EE, Nat.reduceAdd, Nat.reduceBEq, hS.var 0 rfl]
      refine w_fz rfl rfl rfl (fun _ => rfl) h fun b10 hb10 h => ?_
      try simp only [W, EE]
      refine seq_n hK9 ?_
      refine w_kill ?_
      exact cut_n hK8 ⟨_, (Option.some.inj h).symm, rfl, hS⟩
    · refine w_skip ?_
      refine seq_n hK9 ?_
      refine w_kill ?_
      exact cut_n hK8 ⟨_, (Option.some.inj h).symm, rfl, hS⟩
  · obtain ⟨x5, ey, rfl, hS⟩ := hq; obtain rfl := ey.symm
    replace h := g7
    try dsimp only at h
    refine seq_n hK3 ?_
    refine w_seq fun K11 hK11 => ?_
    refine w_reg gC ?_
    try simp only [W, EE, Nat.reduceAdd, Nat.reduceBEq, hS.var 0 rfl]
    refine w_stv (a := .int .i64 (IntKind.i64.wrap (a0.At + 1))) (y' := .agg [.fz (a0.Code.map (AV.int .u8)), .int .i64 (IntKind.i64.wrap (a0.At + 1)), .int .u64 a0.Seed]) 0 hS rfl rfl rfl rfl rfl rfl rfl rfl fun H hS => ?_
    try simp only [W]
    refine seq_n hK11 ?_
    refine w_seq fun K12 hK12 => ?_
    refine w_reg gC ?_
    try simp only [W, EE, Nat.reduceAdd, Nat.reduceBEq, hS.var 0 rfl]
    refine w_stv (a := .int .u64 (IntKind.u64.wrap ((IntKind.u64.wrap ((IntKind.u64.wrap (a0.Seed * 6364136223846793005)) + (IntKind.u64.wrap x5))) + 1442695040888963407))) (y' := .agg [.fz (a0.Code.map (AV.int .u8)), .int .i64 (IntKind.i64.wrap (a0.At + 1)), .int .u64 (IntKind.u64.wrap ((IntKind.u64.wrap ((IntKind.u64.wrap (a0.Seed * 6364136223846793005)) + (IntKind.u64.wrap x5))) + 1442695040888963407))]) 0 hS rfl rfl rfl rfl rfl rfl rfl rfl fun H hS => ?_
    try simp only [W]
    refine seq_n hK12 ?_
    refine w_seq fun K13 hK13 => ?_
    refine w_seq fun K14 hK14 => ?_
    refine w_draw0 gC (by kernel_rfl) ?_
    try simp only [W, EE, Nat.reduceAdd, Nat.reduceBEq, hS.var 0 rfl]
    refine seq_n hK14 ?_
    refine w_if ?_
    simp only [W]
    refine w_cnd h (fun hc h => ?_) (fun hc h => ?_)
    · refine w_seq fun K15 hK15 => ?_
      refine w_reg gC ?_
      try simp only [W, Nat.reduceAdd]
      refine seq_n hK15 ?_
      refine w_ret ?_
      refine seq_r hK13 ?_
      refine fin_r1 hK0 rfl ?_
      try obtain rfl := Option.some.inj h
      exact hP _ hS
    · refine w_skip ?_
      refine seq_n hK13 ?_
      refine w_seq fun K16 hK16 => ?_
      refine w_reg gC ?_
      try simp only [W, EE, Nat.reduceAdd, Nat.reduceBEq, hS.var 0 rfl]
      rw [sr_lit _ _ _ rfl, Option.map_some, resV_s]
      try simp only [W, EE]
      refine seq_n hK16 ?_
      refine w_ret ?_
      refine fin_r1 hK0 rfl ?_
      try obtain rfl := Option.some.inj h
      exact hP _ hS
theorem spec_l1Cur_pick_w {a0 : L1Cur} {a1 : Int} {i0 : Nat} {w0 : Nat} {r : (Int × L1Cur)} (h : spec_l1Cur_pick a0 a1 = some r) {F : List It} {H : Heap} (hS : Own H (⟨.ptr i0 w0 0 0, 3, [.agg [.fz (a0.Code.map (AV.int .u8)), .int .i64 a0.At, .int .u64 a0.Seed]]⟩ :: F)) {P : AV → Heap → Prop} (hP : ∀ H', Own H' (⟨.ptr i0 w0 0 0, 3, [.agg [.fz (r.2.Code.map (AV.int .u8)), .int .i64 r.2.At, .int .u64 r.2.Seed]]⟩ :: F) → P (.int .i64 r.1) H') : ACall C 141 [.ptr i0 w0 0 0, .int .i64 a1] H P := by
  refine acall_of gC (res := [.tmp 4]) (n := 20) rfl rfl rfl rfl fun K0 hK0 => ?_
  simp only [W, Nat.reduceSub, Nat.reduceAdd, List.replicate]
  unfold spec_l1Cur_pick at h
  refine w_seq fun K1 hK1 => ?_
  refine w_reg gC ?_
  try simp only [W, Nat.reduceAdd]
  refine seq_n hK1 ?_
  refine w_seq fun K2 hK2 => ?_
  refine w_seq fun K3 hK3 => ?_
  refine w_reg gC ?_
  try simp only [W, EE, Nat.reduceAdd]
  refine seq_n hK3 ?_
  refine w_if ?_
  simp only [W]
  refine w_cnd h (fun hc h => ?_) (fun hc h => ?_)
  · refine w_seq fun K4 hK4 => ?_
    refine w_reg gC ?_
    try simp only [W, Nat.reduceAdd]
    refine seq_n hK4 ?_
    refine w_ret ?_
    refine seq_r hK2 ?_
    refine fin_r1 hK0 rfl ?_
    try obtain rfl := Option.some.inj h
    exact hP _ hS
  · refine w_skip ?_
    refine seq_n hK2 ?_
    refine w_seq fun K5 hK5 => ?_
    refine w_reg gC ?_
    try simp only [W, Nat.reduceAdd]
    refine w_call h fun b6 hb6 h => ?_
    obtain ⟨b7, b8⟩ := b6
    try dsimp only at h
    refine spec_l1Cur_next_w hb6 hS fun H hS => ?_
    try simp only [W]
    refine seq_n hK5 ?_
    refine w_seq fun K9 hK9 => ?_
    refine w_seq fun K10 hK10 => ?_
    refine w_reg gC ?_
    try simp only [W, EE, Nat.reduceAdd]
    refine seq_n hK10 ?_
    obtain ⟨y15, h, g16⟩ := Option.bind_eq_some_iff.1 h
    refine w_join gC (fun s H => ∃ x11 : Int, ∃ x12 : List Int, ∃ x13 : Int, ∃ x14 : Int, y15 = (x11, x12, x13, x14) ∧ s = [u, .int .i64 a1, u, u, u, .int .i64 x11, u, u, u, u, u, u, u, u, u, u, u, u, u, u] ∧ Own H (⟨.ptr i0 w0 0 0, 3, [.agg [.fz (x12.map (AV.int .u8)), .int .i64 x13, .int .u64 x14]]⟩ :: F)) (fun K17 hK17 => ?_) (fun s H hq => ?_)
    · refine w_seq fun K18 hK18 => ?_
      refine w_if ?_
      simp only [W]
      refine w_cnd h (fun hc h => ?_) (fun hc h => ?_)
      · refine w_reg gC ?_
        try simp only [W, EE, Nat.reduceAdd]
        refine w_call h fun b19 hb19 h => ?_
        obtain ⟨b20, b21⟩ := b19
        try dsimp only at h
        refine spec_l1Cur_next_w hb19 hS fun H hS => ?_
        try simp only [W, EE]
        refine seq_n hK18 ?_
        refine w_kill ?_
        exact cut_n hK17 ⟨_, _, _, _, (Option.some.inj h).symm, rfl, hS⟩
      · refine w_skip ?_
        refine seq_n hK18 ?_
        refine w_kill ?_
        exact cut_n hK17 ⟨_, _, _, _, (Option.some.inj h).symm, rfl, hS⟩
    · obtain ⟨x11, x12, x13, x14, rfl, rfl, hS⟩ := hq
      replace h := g16
      try dsimp only at h
      refine seq_n hK9 ?_
      refine w_seq fun K22 hK22 => ?_
      refine w_reg gC ?_
      try simp only [W, EE, Nat.reduceAdd]
      refine w_num _ h fun x23 hx23 h => ?_
      try simp only [W]
      refine seq_n hK22 ?_
      refine w_ret ?_
      refine fin_r1 hK0 rfl ?_
      try obtain rfl := Option.some.inj h
      exact hP _ hS
theorem spec_l1Cur_among_w {a0 : L1Cur} {a1 : List Int} {i0 : Nat} {w0 : Nat} {r : (Int × L1Cur)} (h : spec_l1Cur_among a0 a1 = some r) {F : List It} {H : Heap} (hS : Own H (⟨.ptr i0 w0 0 0, 3, [.agg [.fz (a0.Code.map (AV.int .u8)), .int .i64 a0.At, .int .u64 a0.Seed]]⟩ :: F)) {P : AV → Heap → Prop} (hP : ∀ H', Own H' (⟨.ptr i0 w0 0 0, 3, [.agg [.fz (r.2.Code.map (AV.int .u8)), .int .i64 r.2.At, .int .u64 r.2.Seed]]⟩ :: F) → P (.int .i64 r.1) H') : ACall C 143 [.ptr i0 w0 0 0, .fz (a1.map (AV.int .i64))] H P := by
  refine acall_of gC (res := [.tmp 4]) (n := 12) rfl rfl rfl rfl fun K0 hK0 => ?_
  simp only [W, Nat.reduceSub, Nat.reduceAdd, List.replicate]
  unfold spec_l1Cur_among at h
  refine w_seq fun K1 hK1 => ?_
  refine w_reg gC ?_
  try simp only [W, Nat.reduceAdd]
  refine seq_n hK1 ?_
  refine w_seq fun K2 hK2 => ?_
  refine w_reg gC ?_
  try simp only [W, EE, Nat.reduceAdd]
  refine w_call h fun b3 hb3 h => ?_
  obtain ⟨b4, b5⟩ := b3
  try dsimp only at h
  refine spec_l1Cur_pick_w hb3 hS fun H hS => ?_
  try simp only [W, EE]
  refine w_fz rfl rfl rfl (fun _ => rfl) h fun b6 hb6 h => ?_
  try simp only [W, EE]
  refine seq_n hK2 ?_
  refine w_ret ?_
  refine fin_r1 hK0 rfl ?_
  try obtain rfl := Option.some.inj h
  exact hP _ hS
theorem spec_l1Cur_among_w_1_0 {a0 : L1Cur} {a1 : List Int} {i0 : Nat} {w0 : Nat} {m10 : AV} {r : (Int × L1Cur)} (h : spec_l1Cur_among a0 a1 = some r) {F : List It} {H : Heap} (hS : Own H (⟨.ptr i0 w0 0 0, 3, [.agg [.fz (a0.Code.map (AV.int .u8)), .int .i64 a0.At, .int .u64 a0.Seed]]⟩ :: ⟨m10, 1, a1.map (AV.int .i64)⟩ :: F)) (qm10 : isSl m10) {P : AV → Heap → Prop} (hP : ∀ H', Own H' (⟨.ptr i0 w0 0 0, 3, [.agg [.fz (r.2.Code.map (AV.int .u8)), .int .i64 r.2.At, .int .u64 r.2.Seed]]⟩ :: ⟨m10, 1, a1.map (AV.int .i64)⟩ :: F) → P (.int .i64 r.1) H') : ACall C 143 [.ptr i0 w0 0 0, m10] H P := by
  refine acall_of gC (res := [.tmp 4]) (n := 12) rfl rfl rfl rfl fun K0 hK0 => ?_
  simp only [W, Nat.reduceSub, Nat.reduceAdd, List.replicate]
  unfold spec_l1Cur_among at h
  refine w_seq fun K1 hK1 => ?_
  refine w_reg gC ?_
  try simp only [W, Nat.reduceAdd]
  refine seq_n hK1 ?_
  refine w_seq fun K2 hK2 => ?_
  refine w_reg gC ?_
  try simp only [W, EE, Nat.reduceAdd]
  refine w_len 1 hS rfl qm10 rfl ?_
  try simp only [W]
  refine w_call h fun b3 hb3 h => ?_
  obtain ⟨b4, b5⟩ := b3
  try dsimp only at h
  refine spec_l1Cur_pick_w hb3 hS fun H hS => ?_
  try simp only [W, EE]
  refine w_ow 1 hS rfl rfl rfl rfl rfl h (fun b6 in7 wn7 on7 hb6 h en7 => ?_) qm10.ne
  obtain ⟨kn7, hbn7, hen7⟩ := hS.elem 1 rfl en7 hb6
  try simp only [W, EE, hbn7, hen7]
  refine seq_n hK2 ?_
  refine w_ret ?_
  refine fin_r1 hK0 rfl ?_
  try obtain rfl := Option.some.inj h
  exact hP _ hS
theorem spec_l1Cur_shares_w {a0 : L1Cur} {i0 : Nat} {w0 : Nat} {r : (Shares × L1Cur)} (h : spec_l1Cur_shares a0 = some r) {F : List It} {H : Heap} (hS : Own H (⟨.ptr i0 w0 0 0, 3, [.agg [.fz (a0.Code.map (AV.int .u8)), .int .i64 a0.At, .int .u64 a0.Seed]]⟩ :: F)) {P : AV → Heap → Prop} (hP : ∀ v95 : AV, isSl v95 → ∀ H', Own H' (⟨v95, 1, r.1.Wins.map (AV.int .i64)⟩ :: ⟨.ptr i0 w0 0 0, 3, [.agg [.fz (r.2.Code.map (AV.int .u8)), .int .i64 r.2.At, .int .u64 r.2.Seed]]⟩ :: F) → P (.agg [v95, .int .i64 r.1.Room]) H') : ACall C 168 [.ptr i0 w0 0 0] H P := by
  refine acall_of gC (res := [.cell 2 55]) (n := 41) rfl rfl rfl rfl fun K0 hK0 => ?_
  simp only [W, Nat.reduceSub, Nat.reduceAdd, List.replicate]
  unfold spec_l1Cur_shares at h
  refine w_seq fun K1 hK1 => ?_
  refine w_reg gC ?_
  try simp only [W, Nat.reduceAdd]
  refine w_alloc hS rfl rfl fun ip2 wp2 H hS => ?_
  try simp only [W]
  refine seq_n hK1 ?_
  refine w_seq fun K4 hK4 => ?_
  refine w_reg gC ?_
  try simp only [W, Nat.reduceAdd]
  refine w_call h fun b5 hb5 h => ?_
  obtain ⟨b6, b7⟩ := b5
  try dsimp only at h
  refine spec_l1Cur_pick_w hb5 (hS.sel 2 [1, 0] (by decide)) fun H hS => ?_
  try simp only [W, EE]
  refine w_bld rfl rfl rfl rfl rfl ?_
  try simp only [W]
  refine w_alloc hS rfl rfl fun ip8 wp8 H hS => ?_
  try simp only [W]
  refine w_stv (a := .agg [.nil, .int .i64 (IntKind.i64.wrap (1 + b6))]) (y' := .agg [.nil, .int .i64 (IntKind.i64.wrap (1 + b6))]) 0 hS rfl rfl rfl rfl rfl rfl rfl rfl fun H hS => ?_
  try simp only [W]
  refine seq_n hK4 ?_
  refine w_seq fun K10 hK10 => ?_
  refine w_seq fun K11 hK11 => ?_
  refine w_reg gC ?_
  try simp only [W, Nat.reduceAdd]
  refine w_call h fun b12 hb12 h => ?_
  obtain ⟨b13, b14⟩ := b12
  try dsimp only at h
  refine spec_l1Cur_pick_w hb12 (hS.sel 3 [1, 0, 2] (by decide)) fun H hS => ?_
  try simp only [W, EE]
  refine seq_n hK11 ?_
  obtain ⟨y27, hw28, g34⟩ := Option.bind_eq_some_iff.1 h
  refine w_join gC (fun s H => ∃ x22 : List Int, ∃ x23 : Int, ∃ x24 : Int, ∃ x25 : List Int, y27 = (x22, x23, x24, x25) ∧ ∃ v26 : AV, isSl v26 ∧ s = [.ptr i0 w0 0 0, u, .ptr ip2 wp2 0 0, .ptr ip8 wp8 0 0, u, u, u, u, u, u, u, u, u, u, u, u, u, u, u, u, u, u, u, u, u, u, u, u, u, u, u, u, u, u, u, u, u, u, u, u, u] ∧ Own H (⟨v26, 1, x25.map (AV.int .i64)⟩ :: ⟨.ptr i0 w0 0 0, 3, [.agg [.fz (x22.map (AV.int .u8)), .int .i64 x23, .int .u64 x24]]⟩ :: ⟨.ptr ip2 wp2 0 0, 2, [.agg [.nil, .int .i64 0]]⟩ :: ⟨.ptr ip8 wp8 0 0, 2, [.agg [v26, .int .i64 (IntKind.i64.wrap (1 + b6))]]⟩ :: F)) (fun K29 hK29 => ?_) (fun s H hq => ?_)
  · refine w_blk fun K30 hK30 => ?_
    refine w_loop gC hw28 (fun x s H => match x with | (x15, x16, x17, x18, x19) => ∃ v20 : AV, isSl v20 ∧ s = [.ptr i0 w0 0 0, u, .ptr ip2 wp2 0 0, .ptr ip8 wp8 0 0, .int .i64 x15, u, u, u, u, u, u, u, u, u, u, u, u, u, u, u, u, u, u, u, u, u, u, u, u, u, u, u, u, u, u, u, u, u, u, u, u] ∧ Own H (⟨v20, 1, x19.map (AV.int .i64)⟩ :: ⟨.ptr i0 w0 0 0, 3, [.agg [.fz (x16.map (AV.int .u8)), .int .i64 x17, .int .u64 x18]]⟩ :: ⟨.ptr ip2 wp2 0 0, 2, [.agg [.nil, .int .i64 0]]⟩ :: ⟨.ptr ip8 wp8 0 0, 2, [.agg [v20, .int .i64 (IntKind.i64.wrap (1 + b6))]]⟩ :: F)) ⟨_, isSl_nil, rfl, ((hS.nil_ 1).sel 4 [0, 1, 3, 2] (by decide))⟩ (fun x y33 s H h hd32 hi K31 hK31 => ?_)
    obtain ⟨x15, x16, x17, x18, x19⟩ := x
    try dsimp only at hi
    obtain ⟨v20, qv20, rfl, hS⟩ := hi
    simp only [spec_l1Cur_shares_l0] at h
    refine w_seq fun K35 hK35 => ?_
    refine w_seq fun K36 hK36 => ?_
    refine w_reg gC ?_
    try simp only [W, EE, Nat.reduceAdd]
    refine seq_n hK36 ?_
    refine w_if ?_
    simp only [W]
    refine w_cnd h (fun hc h => ?_) (fun hc h => ?_)
    · refine w_skip ?_
      refine seq_n hK35 ?_
      refine w_seq fun K37 hK37 => ?_
      refine w_blk fun K38 hK38 => ?_
      refine w_drawL gC [(3, [0, 1]), (8, []), (6, [])] (by kernel_rfl) rfl (by kernel_rfl) ?_
      try simp only [W, EE, reduceIte, Nat.reduceAdd, Nat.reduceBEq, hS.var 3 rfl, tabAt, qAt, Nat.reduceEqDiff]
      refine w_call h fun b39 hb39 h => ?_
      obtain ⟨b40, b41⟩ := b39
      try dsimp only at h
      refine spec_l1Cur_pick_w hb39 (hS.sel 4 [1, 0, 2, 3] (by decide)) fun H hS => ?_
      refine goK_late ?_
      refine lateG_s (by first | rfl | (simp [evalOp, W, EE, hS.var 3 rfl]; done)) ?_
      refine lateG_s (by first | rfl | (simp [evalOp, W, EE, rdAt, mkT, subL, AV.cells, hS.var 3 rfl]; done)) ?_
      refine lateG_n ?_
      try simp only [W, EE]
      refine w_lit (el := ([(IntKind.i64.wrap (1 + b40))] : List Int).map (AV.int .i64)) hS rfl rfl rfl rfl rfl rfl rfl fun v42 H qv42 hS => ?_
      try simp only [W, EE]
      refine w_appV (l := x19) (c := (AV.int .i64)) 2 hS rfl qv20 rfl rfl rfl (hS.elems 0 rfl qv42) (fun _ => rfl) rfl h fun v45 H x44 qv45 hm h hS => ?_
      try simp only [W, EE, Nat.reduceAdd, Nat.reduceBEq, hS.var 4 rfl]
      refine w_stv (a := v45) (y' := .agg [v45, .int .i64 (IntKind.i64.wrap (1 + b6))]) 4 hS rfl rfl rfl rfl (by rw [qv45.cells]; rfl) qv45.stora (qv45.wr _ _ (by simp)) rfl fun H hS => ?_
      try simp only [W]
      refine blk_n0 hK38 ?_
      refine seq_n hK37 ?_
      refine w_reg gC ?_
      try simp only [W, EE, Nat.reduceAdd]
      exact lp_n hK31 h ⟨_, qv45, rfl, (hS.sel 5 [2, 1, 3, 4] (by decide))⟩
    · refine w_exit ?_
      refine seq_x hK35 ?_
      try obtain rfl := Option.some.inj h
      obtain rfl := hd32 _ rfl
      have h : (some (x16, x17, x18, x19) : Option ((List Int) × Int × Int × (List Int))) = some (x16, x17, x18, x19) := rfl
      refine lp_x hK31 ?_
      refine blk_e hK30 ?_
      exact cut_n hK29 ⟨_, _, _, _, (Option.some.inj h).symm, _, qv20, rfl, hS⟩
  · obtain ⟨x22, x23, x24, x25, rfl, v26, qv26, rfl, hS⟩ := hq
    replace h := g34
    try dsimp only at h
    refine seq_n hK10 ?_
    refine w_seq fun K49 hK49 => ?_
    refine w_seq fun K50 hK50 => ?_
    refine w_reg gC ?_
    try simp only [W, Nat.reduceAdd]
    refine w_call h fun b51 hb51 h => ?_
    obtain ⟨b52, b53⟩ := b51
    try dsimp only at h
    refine spec_l1Cur_pick_w hb51 (hS.sel 4 [1, 0, 2, 3] (by decide)) fun H hS => ?_
    try simp only [W]
    refine seq_n hK50 ?_
    obtain ⟨y60, h, g61⟩ := Option.bind_eq_some_iff.1 h
    refine w_join gC (fun s H => ∃ x55 : List Int, ∃ x56 : Int, ∃ x57 : Int, ∃ x58 : List Int, ∃ x59 : Int, y60 = (x55, x56, x57, x58, x59) ∧ s = [u, u, .ptr ip2 wp2 0 0, .ptr ip8 wp8 0 0, u, u, u, u, u, u, u, u, u, u, u, u, u, u, u, u, u, u, u, u, u, u, u, u, u, u, u, u, u, u, u, u, u, u, u, u, u] ∧ Own H (⟨v26, 1, x58.map (AV.int .i64)⟩ :: ⟨.ptr i0 w0 0 0, 3, [.agg [.fz (x55.map (AV.int .u8)), .int .i64 x56, .int .u64 x57]]⟩ :: ⟨.ptr ip2 wp2 0 0, 2, [.agg [.nil, .int .i64 0]]⟩ :: ⟨.ptr ip8 wp8 0 0, 2, [.agg [v26, .int .i64 x59]]⟩ :: F)) (fun K62 hK62 => ?_) (fun s H hq => ?_)
    · refine w_blk fun K54 hK54 => ?_
      refine w_seq fun K63 hK63 => ?_
      refine w_reg gC ?_
      try simp only [W, EE, Nat.reduceAdd]
      refine seq_n hK63 ?_
      obtain ⟨y69, h, g70⟩ := Option.bind_eq_some_iff.1 h
      refine w_join gC (fun s H => ∃ x64 : List Int, ∃ x65 : Int, ∃ x66 : Int, ∃ x67 : List Int, ∃ x68 : Int, y69 = (x64, x65, x66, x67, x68) ∧ s = [u, u, .ptr ip2 wp2 0 0, .ptr ip8 wp8 0 0, u, u, u, u, u, u, u, u, u, u, u, u, u, u, u, u, u, u, u, u, u, u, u, u, u, u, u, u, u, u, u, u, u, u, u, u, u] ∧ Own H (⟨v26, 1, x67.map (AV.int .i64)⟩ :: ⟨.ptr i0 w0 0 0, 3, [.agg [.fz (x64.map (AV.int .u8)), .int .i64 x65, .int .u64 x66]]⟩ :: ⟨.ptr ip2 wp2 0 0, 2, [.agg [.nil, .int .i64 0]]⟩ :: ⟨.ptr ip8 wp8 0 0, 2, [.agg [v26, .int .i64 x68]]⟩ :: F)) (fun K71 hK71 => ?_) (fun s H hq => ?_)
      · refine w_seq fun K72 hK72 => ?_
        refine w_if ?_
        simp only [W]
        refine w_cnd h (fun hc h => ?_) (fun hc h => ?_)
        · refine w_drawL gC [(4, [0, 1]), (6, [])] (by kernel_rfl) rfl (by kernel_rfl) ?_
          try simp only [W, EE, reduceIte, Nat.reduceAdd, Nat.reduceBEq, hS.var 3 rfl, tabAt, qAt, Nat.reduceEqDiff]
          refine w_lit (el := ([0, 10000, 10001] : List Int).map (AV.int .i64)) hS rfl rfl rfl rfl rfl rfl rfl fun v73 H qv73 hS => ?_
          try simp only [W]
          refine w_call h fun b75 hb75 h => ?_
          obtain ⟨b76, b77⟩ := b75
          try dsimp only at h
          refine spec_l1Cur_among_w_1_0 hb75 (hS.sel 5 [1, 0, 2, 3, 4] (by decide)) qv73 fun H hS => ?_
          refine goK_late ?_
          refine lateG_s (by first | rfl | (simp [evalOp, W, EE, hS.var 4 rfl]; done)) ?_
          refine lateG_s (by first | rfl | (simp [evalOp, W, EE, rdAt, mkT, subL, AV.cells, hS.var 4 rfl]; done)) ?_
          refine lateG_n ?_
          try simp only [W, EE]
          refine w_ow 2 hS rfl rfl rfl rfl rfl h (fun b78 in79 wn79 on79 hb78 h en79 => ?_) qv26.ne
          obtain ⟨kn79, hbn79, hen79⟩ := hS.elem 2 rfl en79 hb78
          try simp only [W]
          refine w_ste (a := .int .i64 b76) (y' := b76) 2 hS rfl en79 hb78 rfl rfl rfl rfl rfl rfl rfl fun H hS => ?_
          try simp only [W]
          refine seq_n hK72 ?_
          refine w_kill ?_
          exact cut_n hK71 ⟨_, _, _, _, _, (Option.some.inj h).symm, rfl, (hS.sel 5 [2, 0, 3, 4] (by decide))⟩
        · refine w_seq fun K80 hK80 => ?_
          refine w_reg gC ?_
          try simp only [W, EE, Nat.reduceAdd]
          refine seq_n hK80 ?_
          obtain ⟨y85, h, g86⟩ := Option.bind_eq_some_iff.1 h
          refine w_join gC (fun s H => ∃ x81 : List Int, ∃ x82 : Int, ∃ x83 : Int, ∃ x84 : Int, y85 = (x81, x82, x83, x84) ∧ s = [u, u, .ptr ip2 wp2 0 0, .ptr ip8 wp8 0 0, u, u, u, u, u, u, u, u, u, u, u, u, u, u, u, u, u, u, u, u, u, u, u, u, u, u, u, u, u, u, u, u, u, u, u, u, u] ∧ Own H (⟨v26, 1, x25.map (AV.int .i64)⟩ :: ⟨.ptr i0 w0 0 0, 3, [.agg [.fz (x81.map (AV.int .u8)), .int .i64 x82, .int .u64 x83]]⟩ :: ⟨.ptr ip2 wp2 0 0, 2, [.agg [.nil, .int .i64 0]]⟩ :: ⟨.ptr ip8 wp8 0 0, 2, [.agg [v26, .int .i64 x84]]⟩ :: F)) (fun K87 hK87 => ?_) (fun s H hq => ?_)
          · refine w_seq fun K88 hK88 => ?_
            refine w_if ?_
            simp only [W]
            refine w_cnd h (fun hc h => ?_) (fun hc h => ?_)
            · refine w_regF (fz := [(2, [([37], [.sl [.sc]])])]) gC ?_
              try simp only [W, Nat.reduceAdd, Nat.reduceBEq]
              refine w_lit (el := ([0, 40000, 40001] : List Int).map (AV.int .i64)) hS rfl rfl rfl rfl rfl rfl rfl fun v89 H qv89 hS => ?_
              try simp only [W, Nat.reduceAdd]
              refine FZ_own 0 hS rfl qv89 rfl (fun _ _ => by simp [takeE, takeT, plainA]) (fun _ => rfl) fun H hsame hS => ?_
              try simp only [W]
              refine w_call h fun b91 hb91 h => ?_
              obtain ⟨b92, b93⟩ := b91
              try dsimp only at h
              refine spec_l1Cur_among_w hb91 hS fun H hS => ?_
              try simp only [W, EE, Nat.reduceAdd, Nat.reduceBEq, hS.var 3 rfl]
              refine w_stv (a := .int .i64 b92) (y' := .agg [v26, .int .i64 b92]) 3 hS rfl rfl rfl rfl rfl rfl rfl rfl fun H hS => ?_
              try simp only [W, Nat.reduceAdd]
              refine seq_n hK88 ?_
              refine w_kill ?_
              exact cut_n hK87 ⟨_, _, _, _, (Option.some.inj h).symm, rfl, (hS.sel 4 [1, 0, 2, 3] (by decide))⟩
            · refine w_skip ?_
              refine seq_n hK88 ?_
              refine w_kill ?_
              exact cut_n hK87 ⟨_, _, _, _, (Option.some.inj h).symm, rfl, (hS.sel 4 [1, 0, 2, 3] (by decide))⟩
          · obtain ⟨x81, x82, x83, x84, rfl, rfl, hS⟩ := hq
            replace h := g86
            try dsimp only at h
            refine seq_n hK72 ?_
            refine w_kill ?_
            exact cut_n hK71 ⟨_, _, _, _, _, (Option.some.inj h).symm, rfl, hS⟩
      · obtain ⟨x64, x65, x66, x67, x68, rfl, rfl, hS⟩ := hq
        replace h := g70
        try dsimp only at h
        refine blk_n hK54 ?_
        exact cut_n hK62 ⟨_, _, _, _, _, (Option.some.inj h).symm, rfl, hS⟩
    · obtain ⟨x55, x56, x57, x58, x59, rfl, rfl, hS⟩ := hq
      replace h := g61
      try dsimp only at h
      refine seq_n hK49 ?_
      refine w_seq fun K94 hK94 => ?_
      refine w_reg gC ?_
      try simp only [W, EE, reduceIte, Nat.reduceAdd, Nat.reduceLeDiff, hS.var 3 rfl]
      refine w_stv (a := .agg [v26, .int .i64 x59]) (y' := .agg [v26, .int .i64 x59]) 2 hS rfl rfl rfl rfl rfl (by simp only [storA, List.all_cons, List.all_nil, qv26.stor]; rfl) rfl rfl fun H hS => ?_
      try simp only [W]
      refine seq_n hK94 ?_
      refine w_ret ?_
      refine fin_r hK0 (res_c rfl rfl (hS.var 2 rfl) rfl rfl) ?_
      try obtain rfl := Option.some.inj h
      exact hP _ qv26 _ (hS.sel 4 [0, 1] (by decide))
theorem spec_DrawRoundsOf_w {a0 : List Int} {r : (Shares × Int)} (h : spec_DrawRoundsOf a0 = some r) {F : List It} {H : Heap} (hS : Own H (F)) {P : AV → Heap → Prop} (hP : ∀ v18 : AV, isSl v18 → ∀ H', Own H' (⟨v18, 1, r.1.Wins.map (AV.int .i64)⟩ :: F) → P (.tup [.agg [v18, .int .i64 r.1.Room], .int .i64 r.2]) H') : ACall C 38 [.fz (a0.map (AV.int .u8))] H P := by
  refine acall_of gC (res := [.cell 2 55, .tmp 3]) (n := 13) rfl rfl rfl rfl fun K0 hK0 => ?_
  simp only [W, Nat.reduceSub, Nat.reduceAdd, List.replicate]
  unfold spec_DrawRoundsOf at h
  refine w_seq fun K1 hK1 => ?_
  refine w_reg gC ?_
  try simp only [W, Nat.reduceAdd]
  refine w_alloc hS rfl rfl fun ip2 wp2 H hS => ?_
  try simp only [W]
  refine seq_n hK1 ?_
  refine w_seq fun K4 hK4 => ?_
  refine w_reg gC ?_
  try simp only [W, EE, Nat.reduceAdd]
  refine w_bld rfl rfl rfl rfl rfl ?_
  try simp only [W]
  refine w_box hS rfl rfl rfl rfl fun ip5 wp5 H hS => ?_
  try simp only [W]
  refine seq_n hK4 ?_
  refine w_seq fun K7 hK7 => ?_
  refine w_regF (fz := [(4, [([11], [.sl [.sc]])])]) gC ?_
  try simp only [W, Nat.reduceAdd, Nat.reduceBEq]
  refine w_call h fun b8 hb8 h => ?_
  obtain ⟨b9, b10⟩ := b8
  try dsimp only at h
  refine spec_l1Cur_shares_w hb8 hS fun v11 qv11 H hS => ?_
  try simp only [W, Nat.reduceAdd, Nat.reduceBEq]
  refine w_lit (el := ([-1, 0, 1, 5, 20, 40, 41] : List Int).map (AV.int .i64)) hS rfl rfl rfl rfl rfl rfl rfl fun v13 H qv13 hS => ?_
  try simp only [W, Nat.reduceAdd]
  refine FZ_own 0 hS rfl qv13 rfl (fun _ _ => by simp [takeE, takeT, plainA]) (fun _ => rfl) fun H hsame hS => ?_
  try simp only [W]
  refine w_call h fun b15 hb15 h => ?_
  obtain ⟨b16, b17⟩ := b15
  try dsimp only at h
  refine spec_l1Cur_among_w hb15 (hS.sel 3 [1, 0, 2] (by decide)) fun H hS => ?_
  try simp only [W, Nat.reduceAdd, Nat.reduceBEq]
  refine w_stv (a := .agg [v11, .int .i64 b9.Room]) (y' := .agg [v11, .int .i64 b9.Room]) 2 hS rfl rfl rfl rfl rfl (by simp only [storA, List.all_cons, List.all_nil, qv11.stor]; rfl) rfl rfl fun H hS => ?_
  try simp only [W, Nat.reduceAdd, Nat.reduceBEq]
  refine seq_n hK7 ?_
  refine w_ret ?_
  refine fin_r hK0 (res_c rfl rfl (hS.var 2 rfl) rfl (res_tc rfl rfl)) ?_
  try obtain rfl := Option.some.inj h
  exact hP _ qv11 _ (hS.sel 3 [1] (by decide))
theorem impl_in_w {a0 : Int} {a1 : Int} {a2 : Int} {r : (Bool)} (h : impl_in a0 a1 a2 = some r) {F : List It} {H : Heap} (hS : Own H (F)) {P : AV → Heap → Prop} (hP : ∀ H', Own H' (F) → P (.bool r) H') : ACall C 147 [.int .i64 a0, .int .i64 a1, .int .i64 a2] H P := by
  refine acall_of gC (res := [.tmp 6]) (n := 15) rfl rfl rfl rfl fun K0 hK0 => ?_
  simp only [W, Nat.reduceSub, Nat.reduceAdd, List.replicate]
  unfold impl_in at h
  refine w_seq fun K1 hK1 => ?_
  refine w_reg gC ?_
  try simp only [W, Nat.reduceAdd]
  refine seq_n hK1 ?_
  refine w_seq fun K2 hK2 => ?_
  refine w_reg gC ?_
  try simp only [W, EE, Nat.reduceAdd]
  refine w_grdT h (fun hc h => ?_) (fun hc h => ?_)
  · try simp only [W, EE, reduceIte, hc]
    refine seq_n hK2 ?_
    refine w_ret ?_
    refine fin_r1 hK0 rfl ?_
    try obtain rfl := Option.some.inj h
    exact hP _ hS
  · try simp only [W, hc]
    refine seq_n hK2 ?_
    refine w_ret ?_
    refine fin_r1 hK0 rfl ?_
    try obtain rfl := Option.some.inj h
    exact hP _ hS
theorem slices_IndexFunc_int_w {a0 : List Int} {g1 : Int → Option Bool} {f1 : FuncId} {c1 : List AV} {r : (Int)} (h : slices_IndexFunc_int a0 g1 = some r) {F : List It} {H : Heap} (hg1 : ∀ {x0 : Int} {r : Bool}, g1 x0 = some r → ∀ (L : List It) (n : Nat), L.drop n = F → ∀ (H : Heap), Own H L → ∀ (P : AV → Heap → Prop), (∀ H', Own H' L → P (.bool r) H') → ACall C f1 ([.int .i64 x0] ++ c1) H P) (hS : Own H (F)) {P : AV → Heap → Prop} (hP : ∀ H', Own H' (F) → P (.int .i64 r) H') : ACall C 255 [.fz (a0.map (AV.int .i64)), .fn f1 c1] H P := by
  refine acall_of gC (res := [.tmp 4]) (n := 19) rfl rfl rfl rfl fun K0 hK0 => ?_
  simp only [W, Nat.reduceSub, Nat.reduceAdd, List.replicate]
  unfold slices_IndexFunc_int at h
  refine w_seq fun K1 hK1 => ?_
  refine w_reg gC ?_
  try simp only [W, Nat.reduceAdd]
  refine seq_n hK1 ?_
  refine w_seq fun K2 hK2 => ?_
  refine w_seq fun K3 hK3 => ?_
  refine w_reg gC ?_
  try simp only [W, EE, Nat.reduceAdd]
  refine seq_n hK3 ?_
  obtain ⟨y5, hw6, g12⟩ := Option.bind_eq_some_iff.1 h
  refine w_join gC (fun s H => y5 = LR.next () ∧ s = [u, u, u, u, u, u, u, u, u, u, u, u, u, u, u, u, u, u, u] ∧ Own H (F)) (fun K7 hK7 => ?_) (fun s H hq => ?_)
  · refine w_blk fun K8 hK8 => ?_
    refine w_loop gC hw6 (fun x s H => s = [.fz (a0.map (AV.int .i64)), .fn f1 c1, u, u, u, u, u, .int .i64 (a0.length : Int), .int .i64 x, u, u, u, u, u, u, u, u, u, u] ∧ Own H (F)) ⟨rfl, hS⟩ (fun x4 y11 s H h hd10 hi K9 hK9 => ?_)
    skip
    try dsimp only at hi
    obtain ⟨rfl, hS⟩ := hi
    simp only [slices_IndexFunc_int_l0] at h
    refine w_seq fun K13 hK13 => ?_
    refine w_reg gC ?_
    try simp only [W, EE, Nat.reduceAdd]
    refine seq_n hK13 ?_
    refine w_seq fun K14 hK14 => ?_
    refine w_if ?_
    simp only [W]
    refine w_cnd h (fun hc h => ?_) (fun hc h => ?_)
    · refine w_skip ?_
      refine seq_n hK14 ?_
      refine w_seq fun K15 hK15 => ?_
      refine w_blk fun K16 hK16 => ?_
      refine w_seq fun K17 hK17 => ?_
      refine w_reg gC ?_
      try simp only [W, Nat.reduceAdd]
      refine seq_n hK17 ?_
      refine w_seq fun K18 hK18 => ?_
      refine w_reg gC ?_
      try simp only [W, EE, Nat.reduceAdd]
      refine w_fz rfl rfl rfl (fun _ => rfl) h fun b19 hb19 h => ?_
      try simp only [W, EE]
      refine w_call h fun b20 hb20 h => ?_
      refine hg1 hb20 _ 0 rfl _ hS _ fun H hS => ?_
      try simp only [W]
      refine seq_n hK18 ?_
      refine w_if ?_
      simp only [W]
      refine w_cnd h (fun hc h => ?_) (fun hc h => ?_)
      · refine w_seq fun K21 hK21 => ?_
        refine w_reg gC ?_
        try simp only [W, Nat.reduceAdd]
        refine seq_n hK21 ?_
        refine w_ret ?_
        refine blk_r hK16 ?_
        refine seq_r hK15 ?_
        try obtain rfl := Option.some.inj h
        obtain rfl := hd10 _ rfl
        have h : (some (LR.done x4) : Option (LR Unit (Int))) = some (LR.done x4) := rfl
        refine lp_r hK9 ?_
        refine blk_r hK8 ?_
        try obtain rfl := Option.some.inj h
        obtain rfl := Option.some.inj g12
        have h : (some x4 : Option (Int)) = some x4 := rfl
        refine cut_r hK7 ?_
        refine seq_r hK2 ?_
        refine fin_r1 hK0 rfl ?_
        try obtain rfl := Option.some.inj h
        exact hP _ hS
      · refine w_skip ?_
        refine blk_n0 hK16 ?_
        refine seq_n hK15 ?_
        refine w_reg gC ?_
        try simp only [W, EE, Nat.reduceAdd]
        exact lp_n hK9 h ⟨rfl, hS⟩
    · refine w_exit ?_
      refine seq_x hK14 ?_
      try obtain rfl := Option.some.inj h
      obtain rfl := hd10 _ rfl
      have h : (some (LR.next ()) : Option (LR Unit (Int))) = some (LR.next ()) := rfl
      refine lp_x hK9 ?_
      refine blk_e hK8 ?_
      exact cut_n hK7 ⟨(Option.some.inj h).symm, rfl, hS⟩
  · obtain ⟨rfl, rfl, hS⟩ := hq
    replace h := g12
    try dsimp only at h
    refine seq_n hK2 ?_
    refine w_seq fun K28 hK28 => ?_
    refine w_reg gC ?_
    try simp only [W, Nat.reduceAdd]
    refine seq_n hK28 ?_
    refine w_ret ?_
    refine fin_r1 hK0 rfl ?_
    try obtain rfl := Option.some.inj h
    exact hP _ hS
theorem slices_ContainsFunc_int_w {a0 : List Int} {g1 : Int → Option Bool} {f1 : FuncId} {c1 : List AV} {r : (Bool)} (h : slices_ContainsFunc_int a0 g1 = some r) {F : List It} {H : Heap} (hg1 : ∀ {x0 : Int} {r : Bool}, g1 x0 = some r → ∀ (L : List It) (n : Nat), L.drop n = F → ∀ (H : Heap), Own H L → ∀ (P : AV → Heap → Prop), (∀ H', Own H' L → P (.bool r) H') → ACall C f1 ([.int .i64 x0] ++ c1) H P) (hS : Own H (F)) {P : AV → Heap → Prop} (hP : ∀ H', Own H' (F) → P (.bool r) H') : ACall C 145 [.fz (a0.map (AV.int .i64)), .fn f1 c1] H P := by
  refine acall_of gC (res := [.tmp 4]) (n := 9) rfl rfl rfl rfl fun K0 hK0 => ?_
  simp only [W, Nat.reduceSub, Nat.reduceAdd, List.replicate]
  unfold slices_ContainsFunc_int at h
  refine w_seq fun K1 hK1 => ?_
  refine w_reg gC ?_
  try simp only [W, Nat.reduceAdd]
  refine seq_n hK1 ?_
  refine w_seq fun K2 hK2 => ?_
  refine w_reg gC ?_
  try simp only [W, Nat.reduceAdd]
  refine w_call h fun b3 hb3 h => ?_
  refine slices_IndexFunc_int_w hb3 hg1 hS fun H hS => ?_
  try simp only [W, EE]
  refine seq_n hK2 ?_
  refine w_ret ?_
  refine fin_r1 hK0 rfl ?_
  try obtain rfl := Option.some.inj h
  exact hP _ hS
theorem impl_GoodShares_1_w {a0 : Int} {r : (Bool)} (h : impl_GoodShares_1 a0 = some r) {F : List It} {H : Heap} (hS : Own H (F)) {P : AV → Heap → Prop} (hP : ∀ H', Own H' (F) → P (.bool r) H') : ACall C 175 [.int .i64 a0] H P := by
  refine acall_of gC (res := [.tmp 2]) (n := 6) rfl rfl rfl rfl fun K0 hK0 => ?_
  simp only [W, Nat.reduceSub, Nat.reduceAdd, List.replicate]
  unfold impl_GoodShares_1 at h
  refine w_seq fun K1 hK1 => ?_
  refine w_reg gC ?_
  try simp only [W, Nat.reduceAdd]
  refine seq_n hK1 ?_
  refine w_seq fun K2 hK2 => ?_
  refine w_reg gC ?_
  try simp only [W, Nat.reduceAdd]
  refine w_call h fun b3 hb3 h => ?_
  refine impl_in_w hb3 hS fun H hS => ?_
  try simp only [W]
  refine seq_n hK2 ?_
  refine w_ret ?_
  refine fin_r1 hK0 rfl ?_
  try obtain rfl := Option.some.inj h
  exact hP _ hS
theorem impl_GoodShares_w {a0 : Shares} {r : (Bool)} (h : impl_GoodShares a0 = some r) {F : List It} {H : Heap} (hS : Own H (F)) {P : AV → Heap → Prop} (hP : ∀ H', Own H' (F) → P (.bool r) H') : ACall C 43 [.agg [.fz (a0.Wins.map (AV.int .i64)), .int .i64 a0.Room]] H P := by
  refine acall_of gC (res := [.tmp 2]) (n := 18) rfl rfl rfl rfl fun K0 hK0 => ?_
  simp only [W, Nat.reduceSub, Nat.reduceAdd, List.replicate]
  unfold impl_GoodShares at h
  refine w_seq fun K1 hK1 => ?_
  refine w_reg gC ?_
  try simp only [W, Nat.reduceAdd]
  refine w_box hS rfl rfl rfl rfl fun ip2 wp2 H hS => ?_
  try simp only [W]
  refine seq_n hK1 ?_
  refine w_seq fun K4 hK4 => ?_
  refine w_reg gC ?_
  try simp only [W, EE, Nat.reduceAdd, Nat.reduceBEq, hS.var 0 rfl]
  refine w_call h fun b5 hb5 h => ?_
  refine impl_in_w hb5 hS fun H hS => ?_
  try simp only [W]
  refine w_grdT h (fun hc h => ?_) (fun hc h => ?_)
  · try simp only [W, EE, Nat.reduceAdd, Nat.reduceBEq, hS.var 0 rfl, hc]
    refine w_call h fun b6 hb6 h => ?_
    refine slices_ContainsFunc_int_w hb6 (fun h _ n hL _ hS _ hP => impl_GoodShares_1_w h hS hP) hS fun H hS => ?_
    try simp only [W, reduceIte]
    refine w_grdT h (fun hc h => ?_) (fun hc h => ?_)
    · try simp only [W, EE, Nat.reduceAdd, Nat.reduceBEq, hS.var 0 rfl, hc]
      refine w_call h fun b7 hb7 h => ?_
      refine impl_in_w hb7 hS fun H hS => ?_
      try simp only [W, reduceIte]
      refine seq_n hK4 ?_
      refine w_ret ?_
      refine fin_r1 hK0 rfl ?_
      try obtain rfl := Option.some.inj h
      exact hP _ (hS.sel 1 [] (by decide))
    · try simp only [W, hc]
      refine seq_n hK4 ?_
      refine w_ret ?_
      refine fin_r1 hK0 rfl ?_
      try obtain rfl := Option.some.inj h
      exact hP _ (hS.sel 1 [] (by decide))
  · try simp only [W, hc]
    refine seq_n hK4 ?_
    refine w_ret ?_
    refine fin_r1 hK0 rfl ?_
    try obtain rfl := Option.some.inj h
    exact hP _ (hS.sel 1 [] (by decide))
theorem slices_Clone_int_w {a0 : List Int} {r : List Int} (h : slices_Clone_int a0 = some r) {F : List It} {H : Heap} (hS : Own H F) {P : AV → Heap → Prop} (hP : ∀ v0 : AV, isSl v0 → ∀ H', Own H' (⟨v0, 1, r.map (AV.int .i64)⟩ :: F) → P v0 H') : ACall C 169 [.fz (a0.map (AV.int .i64))] H P :=
  clone_w (ids := cids) rfl (sz := 1) (b := 8) (by simp [cids]) (fun _ => rfl) (by decide) h hS hP
theorem impl_sum_w {a0 : List Int} {r : (Int)} (h : impl_sum a0 = some r) {F : List It} {H : Heap} (hS : Own H (F)) {P : AV → Heap → Prop} (hP : ∀ H', Own H' (F) → P (.int .i64 r) H') : ACall C 177 [.fz (a0.map (AV.int .i64))] H P := by
  refine acall_of gC (res := [.tmp 2]) (n := 17) rfl rfl rfl rfl fun K0 hK0 => ?_
  simp only [W, Nat.reduceSub, Nat.reduceAdd, List.replicate]
  unfold impl_sum at h
  refine w_seq fun K1 hK1 => ?_
  refine w_reg gC ?_
  try simp only [W, Nat.reduceAdd]
  refine seq_n hK1 ?_
  refine w_seq fun K2 hK2 => ?_
  refine w_reg gC ?_
  try simp only [W, Nat.reduceAdd]
  refine seq_n hK2 ?_
  refine w_seq fun K3 hK3 => ?_
  refine w_seq fun K4 hK4 => ?_
  refine w_reg gC ?_
  try simp only [W, EE, Nat.reduceAdd]
  refine seq_n hK4 ?_
  obtain ⟨y8, hw9, g15⟩ := Option.bind_eq_some_iff.1 h
  refine w_join gC (fun s H => ∃ x7 : Int, y8 = (x7) ∧ s = [u, u, u, .int .i64 x7, u, u, u, u, u, u, u, u, u, u, u, u, u] ∧ Own H (F)) (fun K10 hK10 => ?_) (fun s H hq => ?_)
  · refine w_blk fun K11 hK11 => ?_
    refine w_loop gC hw9 (fun x s H => match x with | (x5, x6) => s = [u, u, u, .int .i64 x5, u, u, .fz (a0.map (AV.int .i64)), .int .i64 (a0.length : Int), .int .i64 x6, u, u, u, u, u, u, u, u] ∧ Own H (F)) ⟨rfl, hS⟩ (fun x y14 s H h hd13 hi K12 hK12 => ?_)
    obtain ⟨x5, x6⟩ := x
    try dsimp only at hi
    obtain ⟨rfl, hS⟩ := hi
    simp only [impl_sum_l0] at h
    refine w_seq fun K16 hK16 => ?_
    refine w_reg gC ?_
    try simp only [W, EE, Nat.reduceAdd]
    refine seq_n hK16 ?_
    refine w_seq fun K17 hK17 => ?_
    refine w_if ?_
    simp only [W]
    refine w_cnd h (fun hc h => ?_) (fun hc h => ?_)
    · refine w_skip ?_
      refine seq_n hK17 ?_
      refine w_seq fun K18 hK18 => ?_
      refine w_blk fun K19 hK19 => ?_
      refine w_seq fun K20 hK20 => ?_
      refine w_reg gC ?_
      try simp only [W, EE, Nat.reduceAdd]
      refine w_fz rfl rfl rfl (fun _ => rfl) h fun b21 hb21 h => ?_
      try simp only [W, EE]
      refine seq_n hK20 ?_
      refine w_reg gC ?_
      try simp only [W, EE, Nat.reduceAdd]
      refine blk_n0 hK19 ?_
      refine seq_n hK18 ?_
      refine w_reg gC ?_
      try simp only [W, EE, Nat.reduceAdd]
      exact lp_n hK12 h ⟨rfl, hS⟩
    · refine w_exit ?_
      refine seq_x hK17 ?_
      try obtain rfl := Option.some.inj h
      obtain rfl := hd13 _ rfl
      have h : (some (x5) : Option (Int)) = some (x5) := rfl
      refine lp_x hK12 ?_
      refine blk_e hK11 ?_
      exact cut_n hK10 ⟨_, (Option.some.inj h).symm, rfl, hS⟩
  · obtain ⟨x7, ey, rfl, hS⟩ := hq; obtain rfl := ey.symm
    replace h := g15
    try dsimp only at h
    refine seq_n hK3 ?_
    refine w_seq fun K24 hK24 => ?_
    refine w_reg gC ?_
    try simp only [W, Nat.reduceAdd]
    refine seq_n hK24 ?_
    refine w_ret ?_
    refine fin_r1 hK0 rfl ?_
    try obtain rfl := Option.some.inj h
    exact hP _ hS
theorem impl_Shares_changed_w {a0 : Shares} {g1 : Int → Option Int} {f1 : FuncId} {c1 : List AV} {r : (Shares × Bool)} (h : impl_Shares_changed a0 g1 = some r) {F : List It} {H : Heap} (hg1 : ∀ {x0 : Int} {r : Int}, g1 x0 = some r → ∀ (L : List It) (n : Nat), L.drop n = F → ∀ (H : Heap), Own H L → ∀ (P : AV → Heap → Prop), (∀ H', Own H' L → P (.int .i64 r) H') → ACall C f1 ([.int .i64 x0] ++ c1) H P) (hS : Own H (F)) {P : AV → Heap → Prop} (hP : ∀ v50 : AV, isSl v50 → ∀ H', Own H' (⟨v50, 1, r.1.Wins.map (AV.int .i64)⟩ :: F) → P (.tup [.agg [v50, .int .i64 r.1.Room], .bool r.2]) H') : ACall C 179 [.agg [.fz (a0.Wins.map (AV.int .i64)), .int .i64 a0.Room], .fn f1 c1] H P := by
  refine acall_of gC (res := [.cell 4 55, .tmp 5]) (n := 38) rfl rfl rfl rfl fun K0 hK0 => ?_
  simp only [W, Nat.reduceSub, Nat.reduceAdd, List.replicate]
  unfold impl_Shares_changed at h
  refine w_seq fun K1 hK1 => ?_
  refine w_reg gC ?_
  try simp only [W, Nat.reduceAdd]
  refine w_box hS rfl rfl rfl rfl fun ip2 wp2 H hS => ?_
  try simp only [W]
  refine w_alloc hS rfl rfl fun ip4 wp4 H hS => ?_
  try simp only [W]
  refine seq_n hK1 ?_
  refine w_seq fun K6 hK6 => ?_
  refine w_reg gC ?_
  try simp only [W, EE, Nat.reduceAdd, Nat.reduceBEq, hS.var 1 rfl]
  refine w_bld rfl rfl rfl rfl rfl ?_
  try simp only [W]
  refine w_alloc hS rfl rfl fun ip7 wp7 H hS => ?_
  try simp only [W]
  refine w_stv (a := .agg [.nil, .int .i64 a0.Room]) (y' := .agg [.nil, .int .i64 a0.Room]) 0 hS rfl rfl rfl rfl rfl rfl rfl rfl fun H hS => ?_
  try simp only [W]
  refine seq_n hK6 ?_
  refine w_seq fun K9 hK9 => ?_
  refine w_seq fun K10 hK10 => ?_
  refine w_reg gC ?_
  try simp only [W, EE, Nat.reduceAdd, Nat.reduceBEq, hS.var 2 rfl]
  refine seq_n hK10 ?_
  obtain ⟨y17, hw18, g24⟩ := Option.bind_eq_some_iff.1 h
  refine w_join gC (fun s H => ∃ x15 : List Int, y17 = (x15) ∧ ∃ v16 : AV, isSl v16 ∧ s = [u, u, .ptr ip2 wp2 0 0, u, .ptr ip4 wp4 0 0, u, .ptr ip7 wp7 0 0, u, u, u, u, u, u, u, u, u, u, u, u, u, u, u, u, u, u, u, u, u, u, u, u, u, u, u, u, u, u, u] ∧ Own H (⟨v16, 1, x15.map (AV.int .i64)⟩ :: ⟨.ptr ip2 wp2 0 0, 2, [.agg [.fz (a0.Wins.map (AV.int .i64)), .int .i64 a0.Room]]⟩ :: ⟨.ptr ip4 wp4 0 0, 2, [.agg [.nil, .int .i64 0]]⟩ :: ⟨.ptr ip7 wp7 0 0, 2, [.agg [v16, .int .i64 a0.Room]]⟩ :: F)) (fun K19 hK19 => ?_) (fun s H hq => ?_)
  · refine w_blk fun K20 hK20 => ?_
    refine w_loop gC hw18 (fun x s H => match x with | (x11, x12) => ∃ v13 : AV, isSl v13 ∧ s = [u, .fn f1 c1, .ptr ip2 wp2 0 0, u, .ptr ip4 wp4 0 0, u, .ptr ip7 wp7 0 0, u, u, u, u, u, u, .fz (a0.Wins.map (AV.int .i64)), .int .i64 (a0.Wins.length : Int), .int .i64 x11, u, u, u, u, u, u, u, u, u, u, u, u, u, u, u, u, u, u, u, u, u, u] ∧ Own H (⟨v13, 1, x12.map (AV.int .i64)⟩ :: ⟨.ptr ip2 wp2 0 0, 2, [.agg [.fz (a0.Wins.map (AV.int .i64)), .int .i64 a0.Room]]⟩ :: ⟨.ptr ip4 wp4 0 0, 2, [.agg [.nil, .int .i64 0]]⟩ :: ⟨.ptr ip7 wp7 0 0, 2, [.agg [v13, .int .i64 a0.Room]]⟩ :: F)) ⟨_, isSl_nil, rfl, ((hS.nil_ 1).sel 4 [0, 3, 2, 1] (by decide))⟩ (fun x y23 s H h hd22 hi K21 hK21 => ?_)
    obtain ⟨x11, x12⟩ := x
    try dsimp only at hi
    obtain ⟨v13, qv13, rfl, hS⟩ := hi
    simp only [impl_Shares_changed_l0] at h
    refine w_seq fun K25 hK25 => ?_
    refine w_reg gC ?_
    try simp only [W, EE, Nat.reduceAdd]
    refine seq_n hK25 ?_
    refine w_seq fun K26 hK26 => ?_
    refine w_if ?_
    simp only [W]
    refine w_cnd h (fun hc h => ?_) (fun hc h => ?_)
    · refine w_skip ?_
      refine seq_n hK26 ?_
      refine w_seq fun K27 hK27 => ?_
      refine w_blk fun K28 hK28 => ?_
      refine w_seq fun K29 hK29 => ?_
      refine w_reg gC ?_
      try simp only [W, EE, Nat.reduceAdd]
      refine w_fz rfl rfl rfl (fun _ => rfl) h fun b30 hb30 h => ?_
      try simp only [W, EE]
      refine seq_n hK29 ?_
      refine w_drawL gC [(4, [0, 1]), (8, []), (6, [])] (by kernel_rfl) rfl (by kernel_rfl) ?_
      try simp only [W, EE, reduceIte, Nat.reduceAdd, Nat.reduceBEq, hS.var 3 rfl, tabAt, qAt, Nat.reduceEqDiff]
      refine w_call h fun b31 hb31 h => ?_
      refine hg1 hb31 _ 4 rfl _ hS _ fun H hS => ?_
      refine goK_late ?_
      refine lateG_s (by first | rfl | (simp [evalOp, W, EE, hS.var 3 rfl]; done)) ?_
      refine lateG_s (by first | rfl | (simp [evalOp, W, EE, rdAt, mkT, subL, AV.cells, hS.var 3 rfl]; done)) ?_
      refine lateG_n ?_
      try simp only [W]
      refine w_lit (el := ([b31] : List Int).map (AV.int .i64)) hS rfl rfl rfl rfl rfl rfl rfl fun v32 H qv32 hS => ?_
      try simp only [W, EE]
      refine w_appV (l := x12) (c := (AV.int .i64)) 1 hS rfl qv13 rfl rfl rfl (hS.elems 0 rfl qv32) (fun _ => rfl) rfl h fun v35 H x34 qv35 hm h hS => ?_
      try simp only [W, EE, Nat.reduceAdd, Nat.reduceBEq, hS.var 4 rfl]
      refine w_stv (a := v35) (y' := .agg [v35, .int .i64 a0.Room]) 4 hS rfl rfl rfl rfl (by rw [qv35.cells]; rfl) qv35.stora (qv35.wr _ _ (by simp)) rfl fun H hS => ?_
      try simp only [W]
      refine blk_n0 hK28 ?_
      refine seq_n hK27 ?_
      refine w_reg gC ?_
      try simp only [W, EE, Nat.reduceAdd]
      exact lp_n hK21 h ⟨_, qv35, rfl, (hS.sel 5 [1, 2, 3, 4] (by decide))⟩
    · refine w_exit ?_
      refine seq_x hK26 ?_
      try obtain rfl := Option.some.inj h
      obtain rfl := hd22 _ rfl
      have h : (some (x12) : Option ((List Int))) = some (x12) := rfl
      refine lp_x hK21 ?_
      refine blk_e hK20 ?_
      exact cut_n hK19 ⟨_, (Option.some.inj h).symm, _, qv13, rfl, hS⟩
  · obtain ⟨x15, ey, v16, qv16, rfl, hS⟩ := hq; obtain rfl := ey.symm
    replace h := g24
    try dsimp only at h
    refine seq_n hK9 ?_
    refine w_seq fun K39 hK39 => ?_
    refine w_seq fun K40 hK40 => ?_
    obtain ⟨y42, h, g43⟩ := Option.bind_eq_some_iff.1 h
    refine w_join gC (fun s H => ∃ x41 : Bool, y42 = (x41) ∧ s = [u, u, u, u, .ptr ip4 wp4 0 0, u, .ptr ip7 wp7 0 0, u, u, u, u, u, u, u, u, u, u, u, u, u, u, u, u, u, u, u, u, u, u, u, u, u, u, u, u, .bool x41, u, u] ∧ Own H (⟨v16, 1, x15.map (AV.int .i64)⟩ :: ⟨.ptr ip4 wp4 0 0, 2, [.agg [.nil, .int .i64 0]]⟩ :: ⟨.ptr ip7 wp7 0 0, 2, [.agg [v16, .int .i64 a0.Room]]⟩ :: F)) (fun K44 hK44 => ?_) (fun s H hq => ?_)
    · refine w_seq fun K45 hK45 => ?_
      refine w_reg gC ?_
      try simp only [W, EE, reduceIte, Nat.reduceAdd, Nat.reduceLeDiff, hS.var 1 rfl]
      refine w_call h fun b46 hb46 h => ?_
      refine impl_GoodShares_w hb46 hS fun H hS => ?_
      try simp only [W]
      refine w_grdT h (fun hc h => ?_) (fun hc h => ?_)
      · try simp only [W, hc]
        refine seq_n hK45 ?_
        refine w_kill ?_
        exact cut_n hK44 ⟨_, (Option.some.inj h).symm, rfl, (hS.sel 4 [0, 2, 3] (by decide))⟩
      · try simp only [W, EE, reduceIte, Nat.reduceAdd, Nat.reduceLeDiff, hS.var 3 rfl, hc]
        refine w_callS (rsh := [[.sc]]) (ys := [.agg [.fz (x15.map (AV.int .i64)), .int .i64 a0.Room]]) h rfl (pv_c (sn_agg (sm_c (sn_ow hS 0 rfl qv16 (fun _ => rfl)) (sm_c rfl (sm_n _)))) pv_n) fun b47 hb47 h => ⟨.bool b47, impl_GoodShares_w hb47 (Own.nil _) fun H hS => TV_ok rfl (TV_p rfl (TV_n rfl)), ⟨rfl, rfl, fun _ => rfl⟩, ?_⟩
        try simp only [W, reduceIte, Bool.false_eq_true]
        refine seq_n hK45 ?_
        refine w_kill ?_
        exact cut_n hK44 ⟨_, (Option.some.inj h).symm, rfl, (hS.sel 4 [0, 2, 3] (by decide))⟩
    · obtain ⟨x41, ey, rfl, hS⟩ := hq; obtain rfl := ey.symm
      replace h := g43
      try dsimp only at h
      refine seq_n hK40 ?_
      refine w_if ?_
      simp only [W]
      refine w_cnd h (fun hc h => ?_) (fun hc h => ?_)
      · refine w_seq fun K48 hK48 => ?_
        refine w_reg gC ?_
        try simp only [W, EE, Nat.reduceAdd]
        refine w_bld rfl rfl rfl rfl rfl ?_
        try simp only [W]
        refine w_stv (a := .agg [.nil, .int .i64 0]) (y' := .agg [.nil, .int .i64 0]) 1 hS rfl rfl rfl rfl rfl rfl rfl rfl fun H hS => ?_
        try simp only [W]
        refine seq_n hK48 ?_
        refine w_ret ?_
        refine seq_r hK39 ?_
        refine fin_r hK0 (res_c rfl rfl (hS.var 1 rfl) rfl (res_tc rfl rfl)) ?_
        try obtain rfl := Option.some.inj h
        exact hP _ isSl_nil _ ((hS.nil_ 1).sel 4 [0] (by decide))
      · refine w_skip ?_
        refine seq_n hK39 ?_
        refine w_seq fun K49 hK49 => ?_
        refine w_reg gC ?_
        try simp only [W, EE, reduceIte, Nat.reduceAdd, Nat.reduceLeDiff, hS.var 2 rfl]
        refine w_stv (a := .agg [v16, .int .i64 a0.Room]) (y' := .agg [v16, .int .i64 a0.Room]) 1 hS rfl rfl rfl rfl rfl (by simp only [storA, List.all_cons, List.all_nil, qv16.stor]; rfl) rfl rfl fun H hS => ?_
        try simp only [W]
        refine seq_n hK49 ?_
        refine w_ret ?_
        refine fin_r hK0 (res_c rfl rfl (hS.var 1 rfl) rfl (res_tc rfl rfl)) ?_
        try obtain rfl := Option.some.inj h
        exact hP _ qv16 _ (hS.sel 3 [0] (by decide))
theorem impl_HalveAll_1_w {a0 : Int} {r : (Int)} (h : impl_HalveAll_1 a0 = some r) {F : List It} {H : Heap} (hS : Own H (F)) {P : AV → Heap → Prop} (hP : ∀ H', Own H' (F) → P (.int .i64 r) H') : ACall C 184 [.int .i64 a0] H P := by
  refine acall_of gC (res := [.tmp 2]) (n := 6) rfl rfl rfl rfl fun K0 hK0 => ?_
  simp only [W, Nat.reduceSub, Nat.reduceAdd, List.replicate]
  unfold impl_HalveAll_1 at h
  refine w_seq fun K1 hK1 => ?_
  refine w_reg gC ?_
  try simp only [W, Nat.reduceAdd]
  refine seq_n hK1 ?_
  refine w_seq fun K2 hK2 => ?_
  refine w_reg gC ?_
  try simp only [W, EE, Nat.reduceAdd]
  rw [dv_lit _ _ _ rfl, Option.map_some, resV_s]
  try simp only [W]
  refine seq_n hK2 ?_
  refine w_ret ?_
  refine fin_r1 hK0 rfl ?_
  try obtain rfl := Option.some.inj h
  exact hP _ hS
theorem impl_HalveAll_w {a0 : Shares} {r : (Shares × Bool)} (h : impl_HalveAll a0 = some r) {F : List It} {H : Heap} (hS : Own H (F)) {P : AV → Heap → Prop} (hP : ∀ v12 : AV, isSl v12 → ∀ H', Own H' (⟨v12, 1, r.1.Wins.map (AV.int .i64)⟩ :: F) → P (.tup [.agg [v12, .int .i64 r.1.Room], .bool r.2]) H') : ACall C 53 [.agg [.fz (a0.Wins.map (AV.int .i64)), .int .i64 a0.Room]] H P := by
  refine acall_of gC (res := [.cell 2 55, .tmp 3]) (n := 8) rfl rfl rfl rfl fun K0 hK0 => ?_
  simp only [W, Nat.reduceSub, Nat.reduceAdd, List.replicate]
  unfold impl_HalveAll at h
  refine w_seq fun K1 hK1 => ?_
  refine w_reg gC ?_
  try simp only [W, Nat.reduceAdd]
  refine w_box hS rfl rfl rfl rfl fun ip2 wp2 H hS => ?_
  try simp only [W]
  refine w_alloc hS rfl rfl fun ip4 wp4 H hS => ?_
  try simp only [W]
  refine seq_n hK1 ?_
  refine w_seq fun K6 hK6 => ?_
  refine w_reg gC ?_
  try simp only [W, EE, reduceIte, Nat.reduceAdd, Nat.reduceLeDiff, hS.var 1 rfl]
  refine w_call h fun b7 hb7 h => ?_
  obtain ⟨b8, b9⟩ := b7
  try dsimp only at h
  refine impl_Shares_changed_w hb7 (fun h _ n hL _ hS _ hP => impl_HalveAll_1_w h hS hP) hS fun v10 qv10 H hS => ?_
  try simp only [W]
  refine w_stv (a := .agg [v10, .int .i64 b8.Room]) (y' := .agg [v10, .int .i64 b8.Room]) 1 hS rfl rfl rfl rfl rfl (by simp only [storA, List.all_cons, List.all_nil, qv10.stor]; rfl) rfl rfl fun H hS => ?_
  try simp only [W]
  refine seq_n hK6 ?_
  refine w_ret ?_
  refine fin_r hK0 (res_c rfl rfl (hS.var 1 rfl) rfl (res_tc rfl rfl)) ?_
  try obtain rfl := Option.some.inj h
  exact hP _ qv10 _ (hS.sel 3 [0] (by decide))
theorem impl_GrowAll_1_w {a0 : Int} {r : (Int)} (h : impl_GrowAll_1 a0 = some r) {F : List It} {H : Heap} (hS : Own H (F)) {P : AV → Heap → Prop} (hP : ∀ H', Own H' (F) → P (.int .i64 r) H') : ACall C 180 [.int .i64 a0] H P := by
  refine acall_of gC (res := [.tmp 2]) (n := 5) rfl rfl rfl rfl fun K0 hK0 => ?_
  simp only [W, Nat.reduceSub, Nat.reduceAdd, List.replicate]
  unfold impl_GrowAll_1 at h
  refine w_seq fun K1 hK1 => ?_
  refine w_reg gC ?_
  try simp only [W, Nat.reduceAdd]
  refine seq_n hK1 ?_
  refine w_seq fun K2 hK2 => ?_
  refine w_reg gC ?_
  try simp only [W, EE, Nat.reduceAdd]
  refine seq_n hK2 ?_
  refine w_ret ?_
  refine fin_r1 hK0 rfl ?_
  try obtain rfl := Option.some.inj h
  exact hP _ hS
theorem impl_GrowAll_w {a0 : Shares} {r : (Shares × Bool)} (h : impl_GrowAll a0 = some r) {F : List It} {H : Heap} (hS : Own H (F)) {P : AV → Heap → Prop} (hP : ∀ v12 : AV, isSl v12 → ∀ H', Own H' (⟨v12, 1, r.1.Wins.map (AV.int .i64)⟩ :: F) → P (.tup [.agg [v12, .int .i64 r.1.Room], .bool r.2]) H') : ACall C 48 [.agg [.fz (a0.Wins.map (AV.int .i64)), .int .i64 a0.Room]] H P := by
  refine acall_of gC (res := [.cell 2 55, .tmp 3]) (n := 8) rfl rfl rfl rfl fun K0 hK0 => ?_
  simp only [W, Nat.reduceSub, Nat.reduceAdd, List.replicate]
  unfold impl_GrowAll at h
  refine w_seq fun K1 hK1 => ?_
  refine w_reg gC ?_
  try simp only [W, Nat.reduceAdd]
  refine w_box hS rfl rfl rfl rfl fun ip2 wp2 H hS => ?_
  try simp only [W]
  refine w_alloc hS rfl rfl fun ip4 wp4 H hS => ?_
  try simp only [W]
  refine seq_n hK1 ?_
  refine w_seq fun K6 hK6 => ?_
  refine w_reg gC ?_
  try simp only [W, EE, reduceIte, Nat.reduceAdd, Nat.reduceLeDiff, hS.var 1 rfl]
  refine w_call h fun b7 hb7 h => ?_
  obtain ⟨b8, b9⟩ := b7
  try dsimp only at h
  refine impl_Shares_changed_w hb7 (fun h _ n hL _ hS _ hP => impl_GrowAll_1_w h hS hP) hS fun v10 qv10 H hS => ?_
  try simp only [W]
  refine w_stv (a := .agg [v10, .int .i64 b8.Room]) (y' := .agg [v10, .int .i64 b8.Room]) 1 hS rfl rfl rfl rfl rfl (by simp only [storA, List.all_cons, List.all_nil, qv10.stor]; rfl) rfl rfl fun H hS => ?_
  try simp only [W]
  refine seq_n hK6 ?_
  refine w_ret ?_
  refine fin_r hK0 (res_c rfl rfl (hS.var 1 rfl) rfl (res_tc rfl rfl)) ?_
  try obtain rfl := Option.some.inj h
  exact hP _ qv10 _ (hS.sel 3 [0] (by decide))
theorem impl_RoundOf_w {a0 : Shares} {r : (Shares × Bool × Bool)} (h : impl_RoundOf a0 = some r) {F : List It} {H : Heap} (hS : Own H (F)) {P : AV → Heap → Prop} (hP : ∀ v33 : AV, isSl v33 → ∀ H', Own H' (⟨v33, 1, r.1.Wins.map (AV.int .i64)⟩ :: F) → P (.tup [.agg [v33, .int .i64 r.1.Room], .bool r.2.1, .bool r.2.2]) H') : ACall C 45 [.agg [.fz (a0.Wins.map (AV.int .i64)), .int .i64 a0.Room]] H P := by
  refine acall_of gC (res := [.cell 2 55, .tmp 3, .tmp 4]) (n := 34) rfl rfl rfl rfl fun K0 hK0 => ?_
  simp only [W, Nat.reduceSub, Nat.reduceAdd, List.replicate]
  unfold impl_RoundOf at h
  refine w_seq fun K1 hK1 => ?_
  refine w_reg gC ?_
  try simp only [W, Nat.reduceAdd]
  refine w_box hS rfl rfl rfl rfl fun ip2 wp2 H hS => ?_
  try simp only [W]
  refine w_alloc hS rfl rfl fun ip4 wp4 H hS => ?_
  try simp only [W]
  refine seq_n hK1 ?_
  refine w_seq fun K6 hK6 => ?_
  refine w_seq fun K7 hK7 => ?_
  obtain ⟨y9, h, g10⟩ := Option.bind_eq_some_iff.1 h
  refine w_join gC (fun s H => ∃ x8 : Bool, y9 = (x8) ∧ s = [u, .ptr ip2 wp2 0 0, .ptr ip4 wp4 0 0, u, u, u, u, u, u, u, u, u, u, u, u, u, u, u, .bool x8, u, u, u, u, u, u, u, u, u, u, u, u, u, u, u] ∧ Own H (⟨.ptr ip2 wp2 0 0, 2, [.agg [.fz (a0.Wins.map (AV.int .i64)), .int .i64 a0.Room]]⟩ :: ⟨.ptr ip4 wp4 0 0, 2, [.agg [.nil, .int .i64 0]]⟩ :: F)) (fun K11 hK11 => ?_) (fun s H hq => ?_)
  · refine w_seq fun K12 hK12 => ?_
    refine w_draw0 gC (by kernel_rfl) ?_
    try simp only [W, EE, reduceIte, Nat.reduceAdd, Nat.reduceLeDiff, hS.var 1 rfl]
    refine w_callS (rsh := [[.sc]]) (ys := [.agg [.fz (a0.Wins.map (AV.int .i64)), .int .i64 a0.Room]]) h rfl (by rfl) fun b13 hb13 h => ⟨.bool b13, impl_GoodShares_w hb13 (Own.nil _) fun H hS => TV_ok rfl (TV_p rfl (TV_n rfl)), ⟨rfl, rfl, fun _ => rfl⟩, ?_⟩
    try simp only [W]
    refine w_grdT h (fun hc h => ?_) (fun hc h => ?_)
    · try simp only [W, EE, Nat.reduceAdd, Nat.reduceBEq, hS.var 1 rfl, hc]
      refine w_callS (rsh := [[.sc]]) (ys := [.fz (a0.Wins.map (AV.int .i64))]) h rfl (by rfl) fun b14 hb14 h => ⟨.int .i64 b14, impl_sum_w hb14 (Own.nil _) fun H hS => TV_ok rfl (TV_p rfl (TV_n rfl)), ⟨rfl, rfl, fun _ => rfl⟩, ?_⟩
      try simp only [W, EE, reduceIte, Nat.reduceAdd, Nat.reduceBEq, hS.var 1 rfl]
      refine seq_n hK12 ?_
      refine w_kill ?_
      exact cut_n hK11 ⟨_, (Option.some.inj h).symm, rfl, (hS.sel 2 [1, 0] (by decide))⟩
    · try simp only [W, hc]
      refine seq_n hK12 ?_
      refine w_kill ?_
      exact cut_n hK11 ⟨_, (Option.some.inj h).symm, rfl, (hS.sel 2 [1, 0] (by decide))⟩
  · obtain ⟨x8, ey, rfl, hS⟩ := hq; obtain rfl := ey.symm
    replace h := g10
    try dsimp only at h
    refine seq_n hK7 ?_
    refine w_if ?_
    simp only [W]
    refine w_cnd h (fun hc h => ?_) (fun hc h => ?_)
    · refine w_seq fun K15 hK15 => ?_
      refine w_reg gC ?_
      try simp only [W, EE, reduceIte, Nat.reduceAdd, Nat.reduceLeDiff, hS.var 0 rfl]
      refine w_call h fun b16 hb16 h => ?_
      obtain ⟨b17, b18⟩ := b16
      try dsimp only at h
      refine impl_HalveAll_w hb16 hS fun v19 qv19 H hS => ?_
      try simp only [W]
      refine w_alloc hS rfl rfl fun ip21 wp21 H hS => ?_
      try simp only [W]
      refine w_stv (a := .agg [v19, .int .i64 b17.Room]) (y' := .agg [v19, .int .i64 b17.Room]) 0 hS rfl rfl rfl rfl rfl (by simp only [storA, List.all_cons, List.all_nil, qv19.stor]; rfl) rfl rfl fun H hS => ?_
      try simp only [W]
      refine seq_n hK15 ?_
      refine w_seq fun K23 hK23 => ?_
      refine w_reg gC ?_
      try simp only [W, EE, reduceIte, Nat.reduceAdd, Nat.reduceLeDiff, hS.var 0 rfl]
      refine w_stv (a := .agg [v19, .int .i64 b17.Room]) (y' := .agg [v19, .int .i64 b17.Room]) 3 hS rfl rfl rfl rfl rfl (by simp only [storA, List.all_cons, List.all_nil, qv19.stor]; rfl) rfl rfl fun H hS => ?_
      try simp only [W]
      refine seq_n hK23 ?_
      refine w_ret ?_
      refine seq_r hK6 ?_
      refine fin_r hK0 (res_c rfl rfl (hS.var 3 rfl) rfl (res_tc rfl (res_tc rfl rfl))) ?_
      try obtain rfl := Option.some.inj h
      exact hP _ qv19 _ (hS.sel 4 [1] (by decide))
    · refine w_skip ?_
      refine seq_n hK6 ?_
      refine w_seq fun K24 hK24 => ?_
      refine w_reg gC ?_
      try simp only [W, EE, reduceIte, Nat.reduceAdd, Nat.reduceLeDiff, hS.var 0 rfl]
      refine w_call h fun b25 hb25 h => ?_
      obtain ⟨b26, b27⟩ := b25
      try dsimp only at h
      refine impl_GrowAll_w hb25 hS fun v28 qv28 H hS => ?_
      try simp only [W]
      refine w_alloc hS rfl rfl fun ip30 wp30 H hS => ?_
      try simp only [W]
      refine w_stv (a := .agg [v28, .int .i64 b26.Room]) (y' := .agg [v28, .int .i64 b26.Room]) 0 hS rfl rfl rfl rfl rfl (by simp only [storA, List.all_cons, List.all_nil, qv28.stor]; rfl) rfl rfl fun H hS => ?_
      try simp only [W]
      refine seq_n hK24 ?_
      refine w_seq fun K32 hK32 => ?_
      refine w_reg gC ?_
      try simp only [W, EE, reduceIte, Nat.reduceAdd, Nat.reduceLeDiff, hS.var 0 rfl]
      refine w_stv (a := .agg [v28, .int .i64 b26.Room]) (y' := .agg [v28, .int .i64 b26.Room]) 3 hS rfl rfl rfl rfl rfl (by simp only [storA, List.all_cons, List.all_nil, qv28.stor]; rfl) rfl rfl fun H hS => ?_
      try simp only [W]
      refine seq_n hK32 ?_
      refine w_ret ?_
      refine fin_r hK0 (res_c rfl rfl (hS.var 3 rfl) rfl (res_tc rfl (res_tc rfl rfl))) ?_
      try obtain rfl := Option.some.inj h
      exact hP _ qv28 _ (hS.sel 4 [1] (by decide))
theorem impl_RoundsOf_w {a0 : Shares} {a1 : Int} {r : (Shares × Int × Bool)} (h : impl_RoundsOf a0 a1 = some r) {F : List It} {H : Heap} (hS : Own H (F)) {P : AV → Heap → Prop} (hP : ∀ H', Own H' (F) → P (.tup [.agg [.fz (r.1.Wins.map (AV.int .i64)), .int .i64 r.1.Room], .int .i64 r.2.1, .bool r.2.2]) H') : ACall C 39 [.agg [.fz (a0.Wins.map (AV.int .i64)), .int .i64 a0.Room], .int .i64 a1] H P := by
  refine acall_of gC (res := [.cell 4 55, .tmp 5, .tmp 6]) (n := 46) rfl rfl rfl rfl fun K0 hK0 => ?_
  simp only [W, Nat.reduceSub, Nat.reduceAdd, List.replicate]
  unfold impl_RoundsOf at h
  refine w_seq fun K1 hK1 => ?_
  refine w_reg gC ?_
  try simp only [W, Nat.reduceAdd]
  refine w_box hS rfl rfl rfl rfl fun ip2 wp2 H hS => ?_
  try simp only [W]
  refine w_alloc hS rfl rfl fun ip4 wp4 H hS => ?_
  try simp only [W]
  refine seq_n hK1 ?_
  refine w_seq fun K6 hK6 => ?_
  refine w_seq fun K7 hK7 => ?_
  obtain ⟨y9, h, g10⟩ := Option.bind_eq_some_iff.1 h
  refine w_join gC (fun s H => ∃ x8 : Bool, y9 = (x8) ∧ s = [u, .int .i64 a1, .ptr ip2 wp2 0 0, u, .ptr ip4 wp4 0 0, u, u, u, u, u, u, u, u, u, u, u, u, u, u, .bool x8, u, u, u, u, u, u, u, u, u, u, u, u, u, u, u, u, u, u, u, u, u, u, u, u, u, u] ∧ Own H (⟨.ptr ip2 wp2 0 0, 2, [.agg [.fz (a0.Wins.map (AV.int .i64)), .int .i64 a0.Room]]⟩ :: ⟨.ptr ip4 wp4 0 0, 2, [.agg [.nil, .int .i64 0]]⟩ :: F)) (fun K11 hK11 => ?_) (fun s H hq => ?_)
  · refine w_seq fun K12 hK12 => ?_
    refine w_reg gC ?_
    try simp only [W, EE, reduceIte, Nat.reduceAdd, Nat.reduceLeDiff, hS.var 1 rfl]
    refine w_call h fun b13 hb13 h => ?_
    refine impl_GoodShares_w hb13 hS fun H hS => ?_
    try simp only [W]
    refine w_grdT h (fun hc h => ?_) (fun hc h => ?_)
    · try simp only [W, hc]
      refine seq_n hK12 ?_
      refine w_kill ?_
      exact cut_n hK11 ⟨_, (Option.some.inj h).symm, rfl, (hS.sel 2 [1, 0] (by decide))⟩
    · try simp only [W, hc]
      refine w_call h fun b14 hb14 h => ?_
      refine impl_in_w hb14 hS fun H hS => ?_
      try simp only [W, reduceIte, Bool.false_eq_true]
      refine seq_n hK12 ?_
      refine w_kill ?_
      exact cut_n hK11 ⟨_, (Option.some.inj h).symm, rfl, (hS.sel 2 [1, 0] (by decide))⟩
  · obtain ⟨x8, ey, rfl, hS⟩ := hq; obtain rfl := ey.symm
    replace h := g10
    try dsimp only at h
    refine seq_n hK7 ?_
    refine w_if ?_
    simp only [W]
    refine w_cnd h (fun hc h => ?_) (fun hc h => ?_)
    · refine w_seq fun K15 hK15 => ?_
      refine w_regF (fz := [(1, [([20], [.sl [.sc], .sc])])]) gC ?_
      try simp only [W, EE, Nat.reduceAdd, Nat.reduceBEq]
      refine w_bld rfl rfl rfl rfl rfl ?_
      try simp only [W, Nat.reduceAdd]
      refine FZ_agg rfl ?_
      refine TC_nl ?_
      refine TC_sc rfl ?_
      refine TC_nil ?_
      simp only [W]
      try simp only [W, EE, EN, reduceIte, Nat.reduceAdd, Nat.reduceLeDiff, Nat.reduceBEq, Nat.reduceMul, Bool.false_eq_true]
      refine w_stv (a := .agg [.fz (([] : List Int).map (AV.int .i64)), .int .i64 0]) (y' := .agg [.fz (([] : List Int).map (AV.int .i64)), .int .i64 0]) 1 hS rfl rfl rfl rfl rfl rfl rfl rfl fun H hS => ?_
      try simp only [W, Nat.reduceAdd, Nat.reduceBEq]
      refine seq_n hK15 ?_
      refine w_ret ?_
      refine seq_r hK6 ?_
      refine fin_r hK0 (res_c rfl rfl (hS.var 1 rfl) rfl (res_tc rfl (res_tc rfl rfl))) ?_
      try obtain rfl := Option.some.inj h
      exact hP _ (hS.sel 2 [] (by decide))
    · refine w_skip ?_
      refine seq_n hK6 ?_
      refine w_seq fun K16 hK16 => ?_
      refine w_drawL gC [(7, [])] (by kernel_rfl) rfl (by kernel_rfl) ?_
      try simp only [W, EE, reduceIte, Nat.reduceAdd, Nat.reduceBEq, hS.var 0 rfl, tabAt, qAt, Nat.reduceEqDiff]
      refine w_callF (rsh := [[.sl [.sc]]]) (ys := [.fz (a0.Wins.map (AV.int .i64))]) h rfl (by rfl) fun b17 hb17 h => ⟨.own 1 (b17.map (AV.int .i64)), slices_Clone_int_w hb17 (Own.nil _) fun v18 qv18 H hS => TV_ok rfl (TV_o 0 hS rfl qv18 (fun _ _ => by simp [takeE, takeT, plainA]) fun H hS => TV_n rfl), ?_⟩
      simp only [W, frzL_map (c := (AV.int .i64)) (fun _ => rfl)]
      try simp only [W, EE, Nat.reduceAdd, Nat.reduceBEq, hS.var 0 rfl]
      refine w_bld rfl rfl rfl rfl rfl ?_
      try simp only [W]
      refine w_alloc hS rfl rfl fun ip19 wp19 H hS => ?_
      try simp only [W]
      refine w_stv (a := .agg [.fz (b17.map (AV.int .i64)), .int .i64 a0.Room]) (y' := .agg [.fz (b17.map (AV.int .i64)), .int .i64 a0.Room]) 0 hS rfl rfl rfl rfl rfl rfl rfl rfl fun H hS => ?_
      try simp only [W]
      refine seq_n hK16 ?_
      refine w_seq fun K21 hK21 => ?_
      refine w_seq fun K22 hK22 => ?_
      refine w_reg gC ?_
      try simp only [W, Nat.reduceAdd]
      refine seq_n hK22 ?_
      obtain ⟨y30, hw31, g37⟩ := Option.bind_eq_some_iff.1 h
      refine w_join gC (fun s H => ∃ x27 : Int, ∃ x28 : List Int, ∃ x29 : Int, y30 = LR.next (x27, x28, x29) ∧ s = [u, u, u, u, .ptr ip4 wp4 0 0, u, u, .ptr ip19 wp19 0 0, .int .i64 x27, u, u, u, u, u, u, u, u, u, u, u, u, u, u, u, u, u, u, u, u, u, u, u, u, u, u, u, u, u, u, u, u, u, u, u, u, u] ∧ Own H (⟨.ptr ip4 wp4 0 0, 2, [.agg [.nil, .int .i64 0]]⟩ :: ⟨.ptr ip19 wp19 0 0, 2, [.agg [.fz (x28.map (AV.int .i64)), .int .i64 x29]]⟩ :: F)) (fun K32 hK32 => ?_) (fun s H hq => ?_)
      · refine w_blk fun K33 hK33 => ?_
        refine w_loop gC hw31 (fun x s H => match x with | (x23, x24, x25, x26) => s = [u, u, u, u, .ptr ip4 wp4 0 0, u, u, .ptr ip19 wp19 0 0, .int .i64 x23, u, u, u, u, u, u, u, u, u, u, u, u, u, u, u, u, u, u, .int .i64 a1, .int .i64 x24, u, u, u, u, u, u, u, u, u, u, u, u, u, u, u, u, u] ∧ Own H (⟨.ptr ip4 wp4 0 0, 2, [.agg [.nil, .int .i64 0]]⟩ :: ⟨.ptr ip19 wp19 0 0, 2, [.agg [.fz (x25.map (AV.int .i64)), .int .i64 x26]]⟩ :: F)) ⟨rfl, (hS.sel 3 [2, 0] (by decide))⟩ (fun x y36 s H h hd35 hi K34 hK34 => ?_)
        obtain ⟨x23, x24, x25, x26⟩ := x
        try dsimp only at hi
        obtain ⟨rfl, hS⟩ := hi
        simp only [impl_RoundsOf_l0] at h
        refine w_seq fun K38 hK38 => ?_
        refine w_reg gC ?_
        try simp only [W, EE, Nat.reduceAdd]
        refine seq_n hK38 ?_
        refine w_seq fun K39 hK39 => ?_
        refine w_if ?_
        simp only [W]
        refine w_cnd h (fun hc h => ?_) (fun hc h => ?_)
        · refine w_skip ?_
          refine seq_n hK39 ?_
          refine w_seq fun K40 hK40 => ?_
          refine w_blk fun K41 hK41 => ?_
          refine w_seq fun K42 hK42 => ?_
          refine w_reg gC ?_
          try simp only [W, EE, reduceIte, Nat.reduceAdd, Nat.reduceLeDiff, hS.var 1 rfl]
          refine w_call h fun b43 hb43 h => ?_
          obtain ⟨b44, b45, b46⟩ := b43
          try dsimp only at h
          refine impl_RoundOf_w hb43 hS fun v47 qv47 H hS => ?_
          try simp only [W]
          refine w_alloc hS rfl rfl fun ip49 wp49 H hS => ?_
          try simp only [W]
          refine w_stv (a := .agg [v47, .int .i64 b44.Room]) (y' := .agg [v47, .int .i64 b44.Room]) 0 hS rfl rfl rfl rfl rfl (by simp only [storA, List.all_cons, List.all_nil, qv47.stor]; rfl) rfl rfl fun H hS => ?_
          try simp only [W]
          refine seq_n hK42 ?_
          refine w_seq fun K51 hK51 => ?_
          refine w_seq fun K52 hK52 => ?_
          refine w_reg gC ?_
          try simp only [W, Nat.reduceAdd]
          refine seq_n hK52 ?_
          refine w_if ?_
          simp only [W]
          refine w_cnd h (fun hc h => ?_) (fun hc h => ?_)
          · refine w_seq fun K53 hK53 => ?_
            refine w_regF (fz := [(1, [([38], [.sl [.sc], .sc])])]) gC ?_
            try simp only [W, EE, Nat.reduceAdd, Nat.reduceBEq]
            refine w_bld rfl rfl rfl rfl rfl ?_
            try simp only [W, Nat.reduceAdd]
            refine FZ_agg rfl ?_
            refine TC_nl ?_
            refine TC_sc rfl ?_
            refine TC_nil ?_
            simp only [W]
            try simp only [W, EE, EN, reduceIte, Nat.reduceAdd, Nat.reduceLeDiff, Nat.reduceBEq, Nat.reduceMul, Bool.false_eq_true]
            refine w_stv (a := .agg [.fz (([] : List Int).map (AV.int .i64)), .int .i64 0]) (y' := .agg [.fz (([] : List Int).map (AV.int .i64)), .int .i64 0]) 2 hS rfl rfl rfl rfl rfl rfl rfl rfl fun H hS => ?_
            try simp only [W, Nat.reduceAdd, Nat.reduceBEq]
            refine seq_n hK53 ?_
            refine w_ret ?_
            refine seq_r hK51 ?_
            refine blk_r hK41 ?_
            refine seq_r hK40 ?_
            try obtain rfl := Option.some.inj h
            obtain rfl := hd35 _ rfl
            have h : (some (LR.done ((⟨([] : List Int), 0⟩ : Shares), 0, false)) : Option (LR (Int × (List Int) × Int) (Shares × Int × Bool))) = some (LR.done ((⟨([] : List Int), 0⟩ : Shares), 0, false)) := rfl
            refine lp_r hK34 ?_
            refine blk_r hK33 ?_
            try obtain rfl := Option.some.inj h
            obtain rfl := Option.some.inj g37
            have h : (some ((⟨([] : List Int), 0⟩ : Shares), 0, false) : Option (Shares × Int × Bool)) = some ((⟨([] : List Int), 0⟩ : Shares), 0, false) := rfl
            refine cut_r hK32 ?_
            refine seq_r hK21 ?_
            refine fin_r hK0 (res_c rfl rfl (hS.var 2 rfl) rfl (res_tc rfl (res_tc rfl rfl))) ?_
            try obtain rfl := Option.some.inj h
            exact hP _ (hS.sel 4 [] (by decide))
          · refine w_skip ?_
            refine seq_n hK51 ?_
            refine w_seq fun K58 hK58 => ?_
            refine w_seq fun K59 hK59 => ?_
            refine w_reg gC ?_
            try simp only [W, Nat.reduceAdd]
            refine seq_n hK59 ?_
            obtain ⟨y61, h, g62⟩ := Option.bind_eq_some_iff.1 h
            refine w_join gC (fun s H => ∃ x60 : Int, y61 = (x60) ∧ s = [u, u, u, u, .ptr ip4 wp4 0 0, u, u, .ptr ip19 wp19 0 0, .int .i64 x60, .ptr ip49 wp49 0 0, u, u, u, u, u, u, u, u, u, u, u, u, u, u, u, u, u, .int .i64 a1, .int .i64 x24, u, u, u, u, u, u, u, u, u, u, u, u, u, u, u, u, u] ∧ Own H (⟨v47, 1, b44.Wins.map (AV.int .i64)⟩ :: ⟨.ptr ip4 wp4 0 0, 2, [.agg [.nil, .int .i64 0]]⟩ :: ⟨.ptr ip19 wp19 0 0, 2, [.agg [.fz (x25.map (AV.int .i64)), .int .i64 x26]]⟩ :: ⟨.ptr ip49 wp49 0 0, 2, [.agg [v47, .int .i64 b44.Room]]⟩ :: F)) (fun K63 hK63 => ?_) (fun s H hq => ?_)
            · refine w_seq fun K64 hK64 => ?_
              refine w_if ?_
              simp only [W]
              refine w_cnd h (fun hc h => ?_) (fun hc h => ?_)
              · refine w_reg gC ?_
                try simp only [W, EE, Nat.reduceAdd]
                refine seq_n hK64 ?_
                refine w_kill ?_
                exact cut_n hK63 ⟨_, (Option.some.inj h).symm, rfl, (hS.sel 4 [1, 2, 3, 0] (by decide))⟩
              · refine w_skip ?_
                refine seq_n hK64 ?_
                refine w_kill ?_
                exact cut_n hK63 ⟨_, (Option.some.inj h).symm, rfl, (hS.sel 4 [1, 2, 3, 0] (by decide))⟩
            · obtain ⟨x60, ey, rfl, hS⟩ := hq; obtain rfl := ey.symm
              replace h := g62
              try dsimp only at h
              refine seq_n hK58 ?_
              refine w_regF (fz := [(1, [([42], [.sl [.sc], .sc])])]) gC ?_
              try simp only [W, EE, reduceIte, Nat.reduceAdd, Nat.reduceLeDiff, Nat.reduceBEq, hS.var 3 rfl]
              refine FZ_agg rfl ?_
              refine TC_ow 0 hS rfl qv47 (fun _ _ => by simp [takeE, takeT, plainA]) fun H hS => ?_
              refine TC_sc rfl ?_
              refine TC_nil ?_
              simp only [W, frzL_map (c := (AV.int .i64)) (fun _ => rfl)]
              try simp only [W, EE, EN, reduceIte, Nat.reduceAdd, Nat.reduceLeDiff, Nat.reduceBEq, Nat.reduceMul, Bool.false_eq_true]
              refine w_stv (a := .agg [.fz (b44.Wins.map (AV.int .i64)), .int .i64 b44.Room]) (y' := .agg [.fz (b44.Wins.map (AV.int .i64)), .int .i64 b44.Room]) 1 hS rfl rfl rfl rfl rfl rfl rfl rfl fun H hS => ?_
              try simp only [W, Nat.reduceAdd]
              refine blk_n0 hK41 ?_
              refine seq_n hK40 ?_
              refine w_reg gC ?_
              try simp only [W, EE, Nat.reduceAdd]
              exact lp_n hK34 h ⟨rfl, (hS.sel 3 [0, 1] (by decide))⟩
        · refine w_exit ?_
          refine seq_x hK39 ?_
          try obtain rfl := Option.some.inj h
          obtain rfl := hd35 _ rfl
          have h : (some (LR.next (x23, x25, x26)) : Option (LR (Int × (List Int) × Int) (Shares × Int × Bool))) = some (LR.next (x23, x25, x26)) := rfl
          refine lp_x hK34 ?_
          refine blk_e hK33 ?_
          exact cut_n hK32 ⟨_, _, _, (Option.some.inj h).symm, rfl, hS⟩
      · obtain ⟨x27, x28, x29, rfl, rfl, hS⟩ := hq
        replace h := g37
        try dsimp only at h
        refine seq_n hK21 ?_
        refine w_seq fun K67 hK67 => ?_
        refine w_reg gC ?_
        try simp only [W, EE, reduceIte, Nat.reduceAdd, Nat.reduceLeDiff, hS.var 1 rfl]
        refine w_stv (a := .agg [.fz (x28.map (AV.int .i64)), .int .i64 x29]) (y' := .agg [.fz (x28.map (AV.int .i64)), .int .i64 x29]) 0 hS rfl rfl rfl rfl rfl rfl rfl rfl fun H hS => ?_
        try simp only [W]
        refine seq_n hK67 ?_
        refine w_ret ?_
        refine fin_r hK0 (res_c rfl rfl (hS.var 0 rfl) rfl (res_tc rfl (res_tc rfl rfl))) ?_
        try obtain rfl := Option.some.inj h
        exact hP _ (hS.sel 2 [] (by decide))
theorem spec_l1In_w {a0 : Int} {a1 : Int} {a2 : Int} {r : (Bool)} (h : spec_l1In a0 a1 a2 = some r) {F : List It} {H : Heap} (hS : Own H (F)) {P : AV → Heap → Prop} (hP : ∀ H', Own H' (F) → P (.bool r) H') : ACall C 153 [.int .i64 a0, .int .i64 a1, .int .i64 a2] H P := by
  refine acall_of gC (res := [.tmp 6]) (n := 15) rfl rfl rfl rfl fun K0 hK0 => ?_
  simp only [W, Nat.reduceSub, Nat.reduceAdd, List.replicate]
  unfold spec_l1In at h
  refine w_seq fun K1 hK1 => ?_
  refine w_reg gC ?_
  try simp only [W, Nat.reduceAdd]
  refine seq_n hK1 ?_
  refine w_seq fun K2 hK2 => ?_
  refine w_reg gC ?_
  try simp only [W, EE, Nat.reduceAdd]
  refine w_grdT h (fun hc h => ?_) (fun hc h => ?_)
  · try simp only [W, EE, reduceIte, hc]
    refine seq_n hK2 ?_
    refine w_ret ?_
    refine fin_r1 hK0 rfl ?_
    try obtain rfl := Option.some.inj h
    exact hP _ hS
  · try simp only [W, hc]
    refine seq_n hK2 ?_
    refine w_ret ?_
    refine fin_r1 hK0 rfl ?_
    try obtain rfl := Option.some.inj h
    exact hP _ hS
theorem spec_l1All_w {a0 : List Int} {a1 : Int} {a2 : Int} {r : (Bool)} (h : spec_l1All a0 a1 a2 = some r) {F : List It} {H : Heap} (hS : Own H (F)) {P : AV → Heap → Prop} (hP : ∀ H', Own H' (F) → P (.bool r) H') : ACall C 150 [.fz (a0.map (AV.int .i64)), .int .i64 a1, .int .i64 a2] H P := by
  refine acall_of gC (res := [.tmp 6]) (n := 21) rfl rfl rfl rfl fun K0 hK0 => ?_
  simp only [W, Nat.reduceSub, Nat.reduceAdd, List.replicate]
  unfold spec_l1All at h
  refine w_seq fun K1 hK1 => ?_
  refine w_reg gC ?_
  try simp only [W, Nat.reduceAdd]
  refine seq_n hK1 ?_
  refine w_seq fun K2 hK2 => ?_
  refine w_seq fun K3 hK3 => ?_
  refine w_reg gC ?_
  try simp only [W, EE, Nat.reduceAdd]
  refine seq_n hK3 ?_
  obtain ⟨y5, hw6, g12⟩ := Option.bind_eq_some_iff.1 h
  refine w_join gC (fun s H => y5 = LR.next () ∧ s = [u, u, u, u, u, u, u, u, u, u, u, u, u, u, u, u, u, u, u, u, u] ∧ Own H (F)) (fun K7 hK7 => ?_) (fun s H hq => ?_)
  · refine w_blk fun K8 hK8 => ?_
    refine w_loop gC hw6 (fun x s H => s = [u, .int .i64 a1, .int .i64 a2, u, u, u, u, u, u, .fz (a0.map (AV.int .i64)), .int .i64 (a0.length : Int), .int .i64 x, u, u, u, u, u, u, u, u, u] ∧ Own H (F)) ⟨rfl, hS⟩ (fun x4 y11 s H h hd10 hi K9 hK9 => ?_)
    skip
    try dsimp only at hi
    obtain ⟨rfl, hS⟩ := hi
    simp only [spec_l1All_l0] at h
    refine w_seq fun K13 hK13 => ?_
    refine w_reg gC ?_
    try simp only [W, EE, Nat.reduceAdd]
    refine seq_n hK13 ?_
    refine w_seq fun K14 hK14 => ?_
    refine w_if ?_
    simp only [W]
    refine w_cnd h (fun hc h => ?_) (fun hc h => ?_)
    · refine w_skip ?_
      refine seq_n hK14 ?_
      refine w_seq fun K15 hK15 => ?_
      refine w_blk fun K16 hK16 => ?_
      refine w_seq fun K17 hK17 => ?_
      refine w_reg gC ?_
      try simp only [W, EE, Nat.reduceAdd]
      refine w_fz rfl rfl rfl (fun _ => rfl) h fun b18 hb18 h => ?_
      try simp only [W, EE]
      refine seq_n hK17 ?_
      refine w_seq fun K19 hK19 => ?_
      refine w_reg gC ?_
      try simp only [W, Nat.reduceAdd]
      refine w_call h fun b20 hb20 h => ?_
      refine spec_l1In_w hb20 hS fun H hS => ?_
      try simp only [W]
      refine seq_n hK19 ?_
      refine w_if ?_
      simp only [W]
      refine w_cnd h (fun hc h => ?_) (fun hc h => ?_)
      · refine w_seq fun K21 hK21 => ?_
        refine w_reg gC ?_
        try simp only [W, Nat.reduceAdd]
        refine seq_n hK21 ?_
        refine w_ret ?_
        refine blk_r hK16 ?_
        refine seq_r hK15 ?_
        try obtain rfl := Option.some.inj h
        obtain rfl := hd10 _ rfl
        have h : (some (LR.done false) : Option (LR Unit (Bool))) = some (LR.done false) := rfl
        refine lp_r hK9 ?_
        refine blk_r hK8 ?_
        try obtain rfl := Option.some.inj h
        obtain rfl := Option.some.inj g12
        have h : (some false : Option (Bool)) = some false := rfl
        refine cut_r hK7 ?_
        refine seq_r hK2 ?_
        refine fin_r1 hK0 rfl ?_
        try obtain rfl := Option.some.inj h
        exact hP _ hS
      · refine w_skip ?_
        refine blk_n0 hK16 ?_
        refine seq_n hK15 ?_
        refine w_reg gC ?_
        try simp only [W, EE, Nat.reduceAdd]
        exact lp_n hK9 h ⟨rfl, hS⟩
    · refine w_exit ?_
      refine seq_x hK14 ?_
      try obtain rfl := Option.some.inj h
      obtain rfl := hd10 _ rfl
      have h : (some (LR.next ()) : Option (LR Unit (Bool))) = some (LR.next ()) := rfl
      refine lp_x hK9 ?_
      refine blk_e hK8 ?_
      exact cut_n hK7 ⟨(Option.some.inj h).symm, rfl, hS⟩
  · obtain ⟨rfl, rfl, hS⟩ := hq
    replace h := g12
    try dsimp only at h
    refine seq_n hK2 ?_
    refine w_seq fun K28 hK28 => ?_
    refine w_reg gC ?_
    try simp only [W, Nat.reduceAdd]
    refine seq_n hK28 ?_
    refine w_ret ?_
    refine fin_r1 hK0 rfl ?_
    try obtain rfl := Option.some.inj h
    exact hP _ hS
theorem spec_GoodShares_w {a0 : Shares} {r : (Bool)} (h : spec_GoodShares a0 = some r) {F : List It} {H : Heap} (hS : Own H (F)) {P : AV → Heap → Prop} (hP : ∀ H', Own H' (F) → P (.bool r) H') : ACall C 170 [.agg [.fz (a0.Wins.map (AV.int .i64)), .int .i64 a0.Room]] H P := by
  refine acall_of gC (res := [.tmp 2]) (n := 17) rfl rfl rfl rfl fun K0 hK0 => ?_
  simp only [W, Nat.reduceSub, Nat.reduceAdd, List.replicate]
  unfold spec_GoodShares at h
  refine w_seq fun K1 hK1 => ?_
  refine w_reg gC ?_
  try simp only [W, Nat.reduceAdd]
  refine w_box hS rfl rfl rfl rfl fun ip2 wp2 H hS => ?_
  try simp only [W]
  refine seq_n hK1 ?_
  refine w_seq fun K4 hK4 => ?_
  refine w_reg gC ?_
  try simp only [W, EE, Nat.reduceAdd, Nat.reduceBEq, hS.var 0 rfl]
  refine w_call h fun b5 hb5 h => ?_
  refine spec_l1In_w hb5 hS fun H hS => ?_
  try simp only [W]
  refine w_grdT h (fun hc h => ?_) (fun hc h => ?_)
  · try simp only [W, EE, Nat.reduceAdd, Nat.reduceBEq, hS.var 0 rfl, hc]
    refine w_call h fun b6 hb6 h => ?_
    refine spec_l1All_w hb6 hS fun H hS => ?_
    try simp only [W, reduceIte]
    refine w_grdT h (fun hc h => ?_) (fun hc h => ?_)
    · try simp only [W, EE, Nat.reduceAdd, Nat.reduceBEq, hS.var 0 rfl, hc]
      refine w_call h fun b7 hb7 h => ?_
      refine spec_l1In_w hb7 hS fun H hS => ?_
      try simp only [W, reduceIte]
      refine seq_n hK4 ?_
      refine w_ret ?_
      refine fin_r1 hK0 rfl ?_
      try obtain rfl := Option.some.inj h
      exact hP _ (hS.sel 1 [] (by decide))
    · try simp only [W, hc]
      refine seq_n hK4 ?_
      refine w_ret ?_
      refine fin_r1 hK0 rfl ?_
      try obtain rfl := Option.some.inj h
      exact hP _ (hS.sel 1 [] (by decide))
  · try simp only [W, hc]
    refine seq_n hK4 ?_
    refine w_ret ?_
    refine fin_r1 hK0 rfl ?_
    try obtain rfl := Option.some.inj h
    exact hP _ (hS.sel 1 [] (by decide))
theorem spec_l1Sum_w {a0 : List Int} {r : (Int)} (h : spec_l1Sum a0 = some r) {F : List It} {H : Heap} (hS : Own H (F)) {P : AV → Heap → Prop} (hP : ∀ H', Own H' (F) → P (.int .i64 r) H') : ACall C 245 [.fz (a0.map (AV.int .i64))] H P := by
  refine acall_of gC (res := [.tmp 2]) (n := 17) rfl rfl rfl rfl fun K0 hK0 => ?_
  simp only [W, Nat.reduceSub, Nat.reduceAdd, List.replicate]
  unfold spec_l1Sum at h
  refine w_seq fun K1 hK1 => ?_
  refine w_reg gC ?_
  try simp only [W, Nat.reduceAdd]
  refine seq_n hK1 ?_
  refine w_seq fun K2 hK2 => ?_
  refine w_reg gC ?_
  try simp only [W, Nat.reduceAdd]
  refine seq_n hK2 ?_
  refine w_seq fun K3 hK3 => ?_
  refine w_seq fun K4 hK4 => ?_
  refine w_reg gC ?_
  try simp only [W, EE, Nat.reduceAdd]
  refine seq_n hK4 ?_
  obtain ⟨y8, hw9, g15⟩ := Option.bind_eq_some_iff.1 h
  refine w_join gC (fun s H => ∃ x7 : Int, y8 = (x7) ∧ s = [u, u, u, .int .i64 x7, u, u, u, u, u, u, u, u, u, u, u, u, u] ∧ Own H (F)) (fun K10 hK10 => ?_) (fun s H hq => ?_)
  · refine w_blk fun K11 hK11 => ?_
    refine w_loop gC hw9 (fun x s H => match x with | (x5, x6) => s = [u, u, u, .int .i64 x5, u, u, .fz (a0.map (AV.int .i64)), .int .i64 (a0.length : Int), .int .i64 x6, u, u, u, u, u, u, u, u] ∧ Own H (F)) ⟨rfl, hS⟩ (fun x y14 s H h hd13 hi K12 hK12 => ?_)
    obtain ⟨x5, x6⟩ := x
    try dsimp only at hi
    obtain ⟨rfl, hS⟩ := hi
    simp only [spec_l1Sum_l0] at h
    refine w_seq fun K16 hK16 => ?_
    refine w_reg gC ?_
    try simp only [W, EE, Nat.reduceAdd]
    refine seq_n hK16 ?_
    refine w_seq fun K17 hK17 => ?_
    refine w_if ?_
    simp only [W]
    refine w_cnd h (fun hc h => ?_) (fun hc h => ?_)
    · refine w_skip ?_
      refine seq_n hK17 ?_
      refine w_seq fun K18 hK18 => ?_
      refine w_blk fun K19 hK19 => ?_
      refine w_seq fun K20 hK20 => ?_
      refine w_reg gC ?_
      try simp only [W, EE, Nat.reduceAdd]
      refine w_fz rfl rfl rfl (fun _ => rfl) h fun b21 hb21 h => ?_
      try simp only [W, EE]
      refine seq_n hK20 ?_
      refine w_reg gC ?_
      try simp only [W, EE, Nat.reduceAdd]
      refine blk_n0 hK19 ?_
      refine seq_n hK18 ?_
      refine w_reg gC ?_
      try simp only [W, EE, Nat.reduceAdd]
      exact lp_n hK12 h ⟨rfl, hS⟩
    · refine w_exit ?_
      refine seq_x hK17 ?_
      try obtain rfl := Option.some.inj h
      obtain rfl := hd13 _ rfl
      have h : (some (x5) : Option (Int)) = some (x5) := rfl
      refine lp_x hK12 ?_
      refine blk_e hK11 ?_
      exact cut_n hK10 ⟨_, (Option.some.inj h).symm, rfl, hS⟩
  · obtain ⟨x7, ey, rfl, hS⟩ := hq; obtain rfl := ey.symm
    replace h := g15
    try dsimp only at h
    refine seq_n hK3 ?_
    refine w_seq fun K24 hK24 => ?_
    refine w_reg gC ?_
    try simp only [W, Nat.reduceAdd]
    refine seq_n hK24 ?_
    refine w_ret ?_
    refine fin_r1 hK0 rfl ?_
    try obtain rfl := Option.some.inj h
    exact hP _ hS
theorem spec_l1Most_w {a0 : Int} {a1 : Int} {r : (Int)} (h : spec_l1Most a0 a1 = some r) {F : List It} {H : Heap} (hS : Own H (F)) {P : AV → Heap → Prop} (hP : ∀ H', Own H' (F) → P (.int .i64 r) H') : ACall C 210 [.int .i64 a0, .int .i64 a1] H P := by
  refine acall_of gC (res := [.tmp 4]) (n := 10) rfl rfl rfl rfl fun K0 hK0 => ?_
  simp only [W, Nat.reduceSub, Nat.reduceAdd, List.replicate]
  unfold spec_l1Most at h
  refine w_seq fun K1 hK1 => ?_
  refine w_reg gC ?_
  try simp only [W, Nat.reduceAdd]
  refine seq_n hK1 ?_
  refine w_seq fun K2 hK2 => ?_
  refine w_seq fun K3 hK3 => ?_
  refine w_reg gC ?_
  try simp only [W, EE, Nat.reduceAdd]
  refine seq_n hK3 ?_
  refine w_if ?_
  simp only [W]
  refine w_cnd h (fun hc h => ?_) (fun hc h => ?_)
  · refine w_seq fun K4 hK4 => ?_
    refine w_reg gC ?_
    try simp only [W, Nat.reduceAdd]
    refine seq_n hK4 ?_
    refine w_ret ?_
    refine seq_r hK2 ?_
    refine fin_r1 hK0 rfl ?_
    try obtain rfl := Option.some.inj h
    exact hP _ hS
  · refine w_skip ?_
    refine seq_n hK2 ?_
    refine w_seq fun K5 hK5 => ?_
    refine w_reg gC ?_
    try simp only [W, Nat.reduceAdd]
    refine seq_n hK5 ?_
    refine w_ret ?_
    refine fin_r1 hK0 rfl ?_
    try obtain rfl := Option.some.inj h
    exact hP _ hS
theorem spec_l10Halve_w {a0 : Shares} {r : (Shares)} (h : spec_l10Halve a0 = some r) {F : List It} {H : Heap} (hS : Own H (F)) {P : AV → Heap → Prop} (hP : ∀ v40 : AV, isSl v40 → ∀ H', Own H' (⟨v40, 1, r.Wins.map (AV.int .i64)⟩ :: F) → P (.agg [v40, .int .i64 r.Room]) H') : ACall C 185 [.agg [.fz (a0.Wins.map (AV.int .i64)), .int .i64 a0.Room]] H P := by
  refine acall_of gC (res := [.cell 2 55]) (n := 26) rfl rfl rfl rfl fun K0 hK0 => ?_
  simp only [W, Nat.reduceSub, Nat.reduceAdd, List.replicate]
  unfold spec_l10Halve at h
  refine w_seq fun K1 hK1 => ?_
  refine w_reg gC ?_
  try simp only [W, Nat.reduceAdd]
  refine w_box hS rfl rfl rfl rfl fun ip2 wp2 H hS => ?_
  try simp only [W]
  refine w_alloc hS rfl rfl fun ip4 wp4 H hS => ?_
  try simp only [W]
  refine seq_n hK1 ?_
  refine w_seq fun K6 hK6 => ?_
  refine w_reg gC ?_
  try simp only [W, EE, Nat.reduceAdd, Nat.reduceBEq, hS.var 1 rfl]
  refine w_bld rfl rfl rfl rfl rfl ?_
  try simp only [W]
  refine w_alloc hS rfl rfl fun ip7 wp7 H hS => ?_
  try simp only [W]
  refine w_stv (a := .agg [.nil, .int .i64 a0.Room]) (y' := .agg [.nil, .int .i64 a0.Room]) 0 hS rfl rfl rfl rfl rfl rfl rfl rfl fun H hS => ?_
  try simp only [W]
  refine seq_n hK6 ?_
  refine w_seq fun K9 hK9 => ?_
  refine w_seq fun K10 hK10 => ?_
  refine w_reg gC ?_
  try simp only [W, EE, Nat.reduceAdd, Nat.reduceBEq, hS.var 2 rfl]
  refine seq_n hK10 ?_
  obtain ⟨y17, hw18, g24⟩ := Option.bind_eq_some_iff.1 h
  refine w_join gC (fun s H => ∃ x15 : List Int, y17 = (x15) ∧ ∃ v16 : AV, isSl v16 ∧ s = [u, u, .ptr ip4 wp4 0 0, .ptr ip7 wp7 0 0, u, u, u, u, u, u, u, u, u, u, u, u, u, u, u, u, u, u, u, u, u, u] ∧ Own H (⟨v16, 1, x15.map (AV.int .i64)⟩ :: ⟨.ptr ip4 wp4 0 0, 2, [.agg [.nil, .int .i64 0]]⟩ :: ⟨.ptr ip7 wp7 0 0, 2, [.agg [v16, .int .i64 a0.Room]]⟩ :: F)) (fun K19 hK19 => ?_) (fun s H hq => ?_)
  · refine w_blk fun K20 hK20 => ?_
    refine w_loop gC hw18 (fun x s H => match x with | (x11, x12) => ∃ v13 : AV, isSl v13 ∧ s = [u, u, .ptr ip4 wp4 0 0, .ptr ip7 wp7 0 0, u, u, u, u, u, u, .fz (a0.Wins.map (AV.int .i64)), .int .i64 (a0.Wins.length : Int), .int .i64 x11, u, u, u, u, u, u, u, u, u, u, u, u, u] ∧ Own H (⟨v13, 1, x12.map (AV.int .i64)⟩ :: ⟨.ptr ip4 wp4 0 0, 2, [.agg [.nil, .int .i64 0]]⟩ :: ⟨.ptr ip7 wp7 0 0, 2, [.agg [v13, .int .i64 a0.Room]]⟩ :: F)) ⟨_, isSl_nil, rfl, ((hS.nil_ 1).sel 4 [0, 2, 1] (by decide))⟩ (fun x y23 s H h hd22 hi K21 hK21 => ?_)
    obtain ⟨x11, x12⟩ := x
    try dsimp only at hi
    obtain ⟨v13, qv13, rfl, hS⟩ := hi
    simp only [spec_l10Halve_l0] at h
    refine w_seq fun K25 hK25 => ?_
    refine w_reg gC ?_
    try simp only [W, EE, Nat.reduceAdd]
    refine seq_n hK25 ?_
    refine w_seq fun K26 hK26 => ?_
    refine w_if ?_
    simp only [W]
    refine w_cnd h (fun hc h => ?_) (fun hc h => ?_)
    · refine w_skip ?_
      refine seq_n hK26 ?_
      refine w_seq fun K27 hK27 => ?_
      refine w_blk fun K28 hK28 => ?_
      refine w_seq fun K29 hK29 => ?_
      refine w_reg gC ?_
      try simp only [W, EE, Nat.reduceAdd]
      refine w_fz rfl rfl rfl (fun _ => rfl) h fun b30 hb30 h => ?_
      try simp only [W, EE]
      refine seq_n hK29 ?_
      refine w_drawL gC [(8, []), (6, [])] (by kernel_rfl) rfl (by kernel_rfl) ?_
      try simp only [W, EE, reduceIte, Nat.reduceAdd, Nat.reduceBEq, hS.var 2 rfl, tabAt, qAt, Nat.reduceEqDiff]
      rw [dv_lit _ _ _ rfl, Option.map_some, resV_s]
      try simp only [W]
      refine w_callS (rsh := [[.sc]]) (ys := [.int .i64 1, .int .i64 (IntKind.i64.wrap (Int.tdiv b30 2))]) h rfl (by rfl) fun b31 hb31 h => ⟨.int .i64 b31, spec_l1Most_w hb31 (Own.nil _) fun H hS => TV_ok rfl (TV_p rfl (TV_n rfl)), ⟨rfl, rfl, fun _ => rfl⟩, ?_⟩
      try simp only [W]
      refine w_lit (el := ([b31] : List Int).map (AV.int .i64)) hS rfl rfl rfl rfl rfl rfl rfl fun v32 H qv32 hS => ?_
      try simp only [W, EE]
      refine w_appV (l := x12) (c := (AV.int .i64)) 1 hS rfl qv13 rfl rfl rfl (hS.elems 0 rfl qv32) (fun _ => rfl) rfl h fun v35 H x34 qv35 hm h hS => ?_
      try simp only [W, EE, Nat.reduceAdd, Nat.reduceBEq, hS.var 3 rfl]
      refine w_stv (a := v35) (y' := .agg [v35, .int .i64 a0.Room]) 3 hS rfl rfl rfl rfl (by rw [qv35.cells]; rfl) qv35.stora (qv35.wr _ _ (by simp)) rfl fun H hS => ?_
      try simp only [W]
      refine blk_n0 hK28 ?_
      refine seq_n hK27 ?_
      refine w_reg gC ?_
      try simp only [W, EE, Nat.reduceAdd]
      exact lp_n hK21 h ⟨_, qv35, rfl, (hS.sel 4 [1, 2, 3] (by decide))⟩
    · refine w_exit ?_
      refine seq_x hK26 ?_
      try obtain rfl := Option.some.inj h
      obtain rfl := hd22 _ rfl
      have h : (some (x12) : Option ((List Int))) = some (x12) := rfl
      refine lp_x hK21 ?_
      refine blk_e hK20 ?_
      exact cut_n hK19 ⟨_, (Option.some.inj h).symm, _, qv13, rfl, hS⟩
  · obtain ⟨x15, ey, v16, qv16, rfl, hS⟩ := hq; obtain rfl := ey.symm
    replace h := g24
    try dsimp only at h
    refine seq_n hK9 ?_
    refine w_seq fun K39 hK39 => ?_
    refine w_reg gC ?_
    try simp only [W, EE, reduceIte, Nat.reduceAdd, Nat.reduceLeDiff, hS.var 2 rfl]
    refine w_stv (a := .agg [v16, .int .i64 a0.Room]) (y' := .agg [v16, .int .i64 a0.Room]) 1 hS rfl rfl rfl rfl rfl (by simp only [storA, List.all_cons, List.all_nil, qv16.stor]; rfl) rfl rfl fun H hS => ?_
    try simp only [W]
    refine seq_n hK39 ?_
    refine w_ret ?_
    refine fin_r hK0 (res_c rfl rfl (hS.var 1 rfl) rfl rfl) ?_
    try obtain rfl := Option.some.inj h
    exact hP _ qv16 _ (hS.sel 3 [0] (by decide))
theorem spec_l10Grow_w {a0 : Shares} {r : (Shares)} (h : spec_l10Grow a0 = some r) {F : List It} {H : Heap} (hS : Own H (F)) {P : AV → Heap → Prop} (hP : ∀ v39 : AV, isSl v39 → ∀ H', Own H' (⟨v39, 1, r.Wins.map (AV.int .i64)⟩ :: F) → P (.agg [v39, .int .i64 r.Room]) H') : ACall C 181 [.agg [.fz (a0.Wins.map (AV.int .i64)), .int .i64 a0.Room]] H P := by
  refine acall_of gC (res := [.cell 2 55]) (n := 25) rfl rfl rfl rfl fun K0 hK0 => ?_
  simp only [W, Nat.reduceSub, Nat.reduceAdd, List.replicate]
  unfold spec_l10Grow at h
  refine w_seq fun K1 hK1 => ?_
  refine w_reg gC ?_
  try simp only [W, Nat.reduceAdd]
  refine w_box hS rfl rfl rfl rfl fun ip2 wp2 H hS => ?_
  try simp only [W]
  refine w_alloc hS rfl rfl fun ip4 wp4 H hS => ?_
  try simp only [W]
  refine seq_n hK1 ?_
  refine w_seq fun K6 hK6 => ?_
  refine w_reg gC ?_
  try simp only [W, EE, Nat.reduceAdd, Nat.reduceBEq, hS.var 1 rfl]
  refine w_bld rfl rfl rfl rfl rfl ?_
  try simp only [W]
  refine w_alloc hS rfl rfl fun ip7 wp7 H hS => ?_
  try simp only [W]
  refine w_stv (a := .agg [.nil, .int .i64 a0.Room]) (y' := .agg [.nil, .int .i64 a0.Room]) 0 hS rfl rfl rfl rfl rfl rfl rfl rfl fun H hS => ?_
  try simp only [W]
  refine seq_n hK6 ?_
  refine w_seq fun K9 hK9 => ?_
  refine w_seq fun K10 hK10 => ?_
  refine w_reg gC ?_
  try simp only [W, EE, Nat.reduceAdd, Nat.reduceBEq, hS.var 2 rfl]
  refine seq_n hK10 ?_
  obtain ⟨y17, hw18, g24⟩ := Option.bind_eq_some_iff.1 h
  refine w_join gC (fun s H => ∃ x15 : List Int, y17 = (x15) ∧ ∃ v16 : AV, isSl v16 ∧ s = [u, u, .ptr ip4 wp4 0 0, .ptr ip7 wp7 0 0, u, u, u, u, u, u, u, u, u, u, u, u, u, u, u, u, u, u, u, u, u] ∧ Own H (⟨v16, 1, x15.map (AV.int .i64)⟩ :: ⟨.ptr ip4 wp4 0 0, 2, [.agg [.nil, .int .i64 0]]⟩ :: ⟨.ptr ip7 wp7 0 0, 2, [.agg [v16, .int .i64 a0.Room]]⟩ :: F)) (fun K19 hK19 => ?_) (fun s H hq => ?_)
  · refine w_blk fun K20 hK20 => ?_
    refine w_loop gC hw18 (fun x s H => match x with | (x11, x12) => ∃ v13 : AV, isSl v13 ∧ s = [u, u, .ptr ip4 wp4 0 0, .ptr ip7 wp7 0 0, u, u, u, u, u, u, .fz (a0.Wins.map (AV.int .i64)), .int .i64 (a0.Wins.length : Int), .int .i64 x11, u, u, u, u, u, u, u, u, u, u, u, u] ∧ Own H (⟨v13, 1, x12.map (AV.int .i64)⟩ :: ⟨.ptr ip4 wp4 0 0, 2, [.agg [.nil, .int .i64 0]]⟩ :: ⟨.ptr ip7 wp7 0 0, 2, [.agg [v13, .int .i64 a0.Room]]⟩ :: F)) ⟨_, isSl_nil, rfl, ((hS.nil_ 1).sel 4 [0, 2, 1] (by decide))⟩ (fun x y23 s H h hd22 hi K21 hK21 => ?_)
    obtain ⟨x11, x12⟩ := x
    try dsimp only at hi
    obtain ⟨v13, qv13, rfl, hS⟩ := hi
    simp only [spec_l10Grow_l0] at h
    refine w_seq fun K25 hK25 => ?_
    refine w_reg gC ?_
    try simp only [W, EE, Nat.reduceAdd]
    refine seq_n hK25 ?_
    refine w_seq fun K26 hK26 => ?_
    refine w_if ?_
    simp only [W]
    refine w_cnd h (fun hc h => ?_) (fun hc h => ?_)
    · refine w_skip ?_
      refine seq_n hK26 ?_
      refine w_seq fun K27 hK27 => ?_
      refine w_blk fun K28 hK28 => ?_
      refine w_seq fun K29 hK29 => ?_
      refine w_reg gC ?_
      try simp only [W, EE, Nat.reduceAdd]
      refine w_fz rfl rfl rfl (fun _ => rfl) h fun b30 hb30 h => ?_
      try simp only [W, EE]
      refine seq_n hK29 ?_
      refine w_reg gC ?_
      try simp only [W, EE, Nat.reduceAdd, Nat.reduceBEq, hS.var 2 rfl]
      refine w_lit (el := ([(IntKind.i64.wrap (b30 + 1))] : List Int).map (AV.int .i64)) hS rfl rfl rfl rfl rfl rfl rfl fun v31 H qv31 hS => ?_
      try simp only [W, EE]
      refine w_appV (l := x12) (c := (AV.int .i64)) 1 hS rfl qv13 rfl rfl rfl (hS.elems 0 rfl qv31) (fun _ => rfl) rfl h fun v34 H x33 qv34 hm h hS => ?_
      try simp only [W, EE, Nat.reduceAdd, Nat.reduceBEq, hS.var 3 rfl]
      refine w_stv (a := v34) (y' := .agg [v34, .int .i64 a0.Room]) 3 hS rfl rfl rfl rfl (by rw [qv34.cells]; rfl) qv34.stora (qv34.wr _ _ (by simp)) rfl fun H hS => ?_
      try simp only [W]
      refine blk_n0 hK28 ?_
      refine seq_n hK27 ?_
      refine w_reg gC ?_
      try simp only [W, EE, Nat.reduceAdd]
      exact lp_n hK21 h ⟨_, qv34, rfl, (hS.sel 4 [1, 2, 3] (by decide))⟩
    · refine w_exit ?_
      refine seq_x hK26 ?_
      try obtain rfl := Option.some.inj h
      obtain rfl := hd22 _ rfl
      have h : (some (x12) : Option ((List Int))) = some (x12) := rfl
      refine lp_x hK21 ?_
      refine blk_e hK20 ?_
      exact cut_n hK19 ⟨_, (Option.some.inj h).symm, _, qv13, rfl, hS⟩
  · obtain ⟨x15, ey, v16, qv16, rfl, hS⟩ := hq; obtain rfl := ey.symm
    replace h := g24
    try dsimp only at h
    refine seq_n hK9 ?_
    refine w_seq fun K38 hK38 => ?_
    refine w_reg gC ?_
    try simp only [W, EE, reduceIte, Nat.reduceAdd, Nat.reduceLeDiff, hS.var 2 rfl]
    refine w_stv (a := .agg [v16, .int .i64 a0.Room]) (y' := .agg [v16, .int .i64 a0.Room]) 1 hS rfl rfl rfl rfl rfl (by simp only [storA, List.all_cons, List.all_nil, qv16.stor]; rfl) rfl rfl fun H hS => ?_
    try simp only [W]
    refine seq_n hK38 ?_
    refine w_ret ?_
    refine fin_r hK0 (res_c rfl rfl (hS.var 1 rfl) rfl rfl) ?_
    try obtain rfl := Option.some.inj h
    exact hP _ qv16 _ (hS.sel 3 [0] (by decide))
theorem spec_l10Round_w {a0 : Shares} {r : (Shares × Bool)} (h : spec_l10Round a0 = some r) {F : List It} {H : Heap} (hS : Own H (F)) {P : AV → Heap → Prop} (hP : ∀ v17 : AV, isSl v17 → ∀ H', Own H' (⟨v17, 1, r.1.Wins.map (AV.int .i64)⟩ :: F) → P (.tup [.agg [v17, .int .i64 r.1.Room], .bool r.2]) H') : ACall C 171 [.agg [.fz (a0.Wins.map (AV.int .i64)), .int .i64 a0.Room]] H P := by
  refine acall_of gC (res := [.cell 2 55, .tmp 3]) (n := 14) rfl rfl rfl rfl fun K0 hK0 => ?_
  simp only [W, Nat.reduceSub, Nat.reduceAdd, List.replicate]
  unfold spec_l10Round at h
  refine w_seq fun K1 hK1 => ?_
  refine w_reg gC ?_
  try simp only [W, Nat.reduceAdd]
  refine w_box hS rfl rfl rfl rfl fun ip2 wp2 H hS => ?_
  try simp only [W]
  refine w_alloc hS rfl rfl fun ip4 wp4 H hS => ?_
  try simp only [W]
  refine seq_n hK1 ?_
  refine w_seq fun K6 hK6 => ?_
  refine w_seq fun K7 hK7 => ?_
  refine w_draw0 gC (by kernel_rfl) ?_
  try simp only [W, EE, Nat.reduceAdd, Nat.reduceBEq, hS.var 1 rfl]
  refine w_callS (rsh := [[.sc]]) (ys := [.fz (a0.Wins.map (AV.int .i64))]) h rfl (by rfl) fun b8 hb8 h => ⟨.int .i64 b8, spec_l1Sum_w hb8 (Own.nil _) fun H hS => TV_ok rfl (TV_p rfl (TV_n rfl)), ⟨rfl, rfl, fun _ => rfl⟩, ?_⟩
  try simp only [W, EE, Nat.reduceAdd, Nat.reduceBEq, hS.var 1 rfl]
  refine seq_n hK7 ?_
  refine w_if ?_
  simp only [W]
  refine w_cnd h (fun hc h => ?_) (fun hc h => ?_)
  · refine w_seq fun K9 hK9 => ?_
    refine w_reg gC ?_
    try simp only [W, EE, reduceIte, Nat.reduceAdd, Nat.reduceLeDiff, hS.var 1 rfl]
    refine w_call h fun b10 hb10 h => ?_
    refine spec_l10Halve_w hb10 hS fun v11 qv11 H hS => ?_
    try simp only [W]
    refine w_stv (a := .agg [v11, .int .i64 b10.Room]) (y' := .agg [v11, .int .i64 b10.Room]) 1 hS rfl rfl rfl rfl rfl (by simp only [storA, List.all_cons, List.all_nil, qv11.stor]; rfl) rfl rfl fun H hS => ?_
    try simp only [W]
    refine seq_n hK9 ?_
    refine w_ret ?_
    refine seq_r hK6 ?_
    refine fin_r hK0 (res_c rfl rfl (hS.var 1 rfl) rfl (res_tc rfl rfl)) ?_
    try obtain rfl := Option.some.inj h
    exact hP _ qv11 _ (hS.sel 3 [0] (by decide))
  · refine w_skip ?_
    refine seq_n hK6 ?_
    refine w_seq fun K13 hK13 => ?_
    refine w_reg gC ?_
    try simp only [W, EE, reduceIte, Nat.reduceAdd, Nat.reduceLeDiff, hS.var 1 rfl]
    refine w_call h fun b14 hb14 h => ?_
    refine spec_l10Grow_w hb14 hS fun v15 qv15 H hS => ?_
    try simp only [W]
    refine w_stv (a := .agg [v15, .int .i64 b14.Room]) (y' := .agg [v15, .int .i64 b14.Room]) 1 hS rfl rfl rfl rfl rfl (by simp only [storA, List.all_cons, List.all_nil, qv15.stor]; rfl) rfl rfl fun H hS => ?_
    try simp only [W]
    refine seq_n hK13 ?_
    refine w_ret ?_
    refine fin_r hK0 (res_c rfl rfl (hS.var 1 rfl) rfl (res_tc rfl rfl)) ?_
    try obtain rfl := Option.some.inj h
    exact hP _ qv15 _ (hS.sel 3 [0] (by decide))
theorem spec_l1Bit_w {a0 : Bool} {r : (Int)} (h : spec_l1Bit a0 = some r) {F : List It} {H : Heap} (hS : Own H (F)) {P : AV → Heap → Prop} (hP : ∀ H', Own H' (F) → P (.int .i64 r) H') : ACall C 172 [.bool a0] H P := by
  refine acall_of gC (res := [.tmp 2]) (n := 4) rfl rfl rfl rfl fun K0 hK0 => ?_
  simp only [W, Nat.reduceSub, Nat.reduceAdd, List.replicate]
  unfold spec_l1Bit at h
  refine w_seq fun K1 hK1 => ?_
  refine w_reg gC ?_
  try simp only [W, Nat.reduceAdd]
  refine seq_n hK1 ?_
  refine w_seq fun K2 hK2 => ?_
  refine w_seq fun K3 hK3 => ?_
  refine w_reg gC ?_
  try simp only [W, Nat.reduceAdd]
  refine seq_n hK3 ?_
  refine w_if ?_
  simp only [W]
  refine w_cnd h (fun hc h => ?_) (fun hc h => ?_)
  · refine w_seq fun K4 hK4 => ?_
    refine w_reg gC ?_
    try simp only [W, Nat.reduceAdd]
    refine seq_n hK4 ?_
    refine w_ret ?_
    refine seq_r hK2 ?_
    refine fin_r1 hK0 rfl ?_
    try obtain rfl := Option.some.inj h
    exact hP _ hS
  · refine w_skip ?_
    refine seq_n hK2 ?_
    refine w_seq fun K5 hK5 => ?_
    refine w_reg gC ?_
    try simp only [W, Nat.reduceAdd]
    refine seq_n hK5 ?_
    refine w_ret ?_
    refine fin_r1 hK0 rfl ?_
    try obtain rfl := Option.some.inj h
    exact hP _ hS
theorem spec_RoundsOf_w {a0 : Shares} {a1 : Int} {r : (Shares × Int × Bool)} (h : spec_RoundsOf a0 a1 = some r) {F : List It} {H : Heap} (hS : Own H (F)) {P : AV → Heap → Prop} (hP : ∀ v69 : AV, isSl v69 → ∀ H', Own H' (⟨v69, 1, r.1.Wins.map (AV.int .i64)⟩ :: F) → P (.tup [.agg [v69, .int .i64 r.1.Room], .int .i64 r.2.1, .bool r.2.2]) H') : ACall C 40 [.agg [.fz (a0.Wins.map (AV.int .i64)), .int .i64 a0.Room], .int .i64 a1] H P := by
  refine acall_of gC (res := [.cell 4 55, .tmp 5, .tmp 6]) (n := 47) rfl rfl rfl rfl fun K0 hK0 => ?_
  simp only [W, Nat.reduceSub, Nat.reduceAdd, List.replicate]
  unfold spec_RoundsOf at h
  refine w_seq fun K1 hK1 => ?_
  refine w_reg gC ?_
  try simp only [W, Nat.reduceAdd]
  refine w_box hS rfl rfl rfl rfl fun ip2 wp2 H hS => ?_
  try simp only [W]
  refine w_alloc hS rfl rfl fun ip4 wp4 H hS => ?_
  try simp only [W]
  refine seq_n hK1 ?_
  refine w_seq fun K6 hK6 => ?_
  refine w_seq fun K7 hK7 => ?_
  obtain ⟨y9, h, g10⟩ := Option.bind_eq_some_iff.1 h
  refine w_join gC (fun s H => ∃ x8 : Bool, y9 = (x8) ∧ s = [u, .int .i64 a1, .ptr ip2 wp2 0 0, u, .ptr ip4 wp4 0 0, u, u, u, u, u, u, u, u, u, u, u, u, u, .bool x8, u, u, u, u, u, u, u, u, u, u, u, u, u, u, u, u, u, u, u, u, u, u, u, u, u, u, u, u] ∧ Own H (⟨.ptr ip2 wp2 0 0, 2, [.agg [.fz (a0.Wins.map (AV.int .i64)), .int .i64 a0.Room]]⟩ :: ⟨.ptr ip4 wp4 0 0, 2, [.agg [.nil, .int .i64 0]]⟩ :: F)) (fun K11 hK11 => ?_) (fun s H hq => ?_)
  · refine w_seq fun K12 hK12 => ?_
    refine w_reg gC ?_
    try simp only [W, EE, reduceIte, Nat.reduceAdd, Nat.reduceLeDiff, hS.var 1 rfl]
    refine w_call h fun b13 hb13 h => ?_
    refine spec_GoodShares_w hb13 hS fun H hS => ?_
    try simp only [W]
    refine w_grdT h (fun hc h => ?_) (fun hc h => ?_)
    · try simp only [W, hc]
      refine seq_n hK12 ?_
      refine w_kill ?_
      exact cut_n hK11 ⟨_, (Option.some.inj h).symm, rfl, (hS.sel 2 [1, 0] (by decide))⟩
    · try simp only [W, hc]
      refine w_call h fun b14 hb14 h => ?_
      refine spec_l1In_w hb14 hS fun H hS => ?_
      try simp only [W, reduceIte, Bool.false_eq_true]
      refine seq_n hK12 ?_
      refine w_kill ?_
      exact cut_n hK11 ⟨_, (Option.some.inj h).symm, rfl, (hS.sel 2 [1, 0] (by decide))⟩
  · obtain ⟨x8, ey, rfl, hS⟩ := hq; obtain rfl := ey.symm
    replace h := g10
    try dsimp only at h
    refine seq_n hK7 ?_
    refine w_if ?_
    simp only [W]
    refine w_cnd h (fun hc h => ?_) (fun hc h => ?_)
    · refine w_seq fun K15 hK15 => ?_
      refine w_reg gC ?_
      try simp only [W, EE, Nat.reduceAdd]
      refine w_bld rfl rfl rfl rfl rfl ?_
      try simp only [W]
      refine w_stv (a := .agg [.nil, .int .i64 0]) (y' := .agg [.nil, .int .i64 0]) 1 hS rfl rfl rfl rfl rfl rfl rfl rfl fun H hS => ?_
      try simp only [W]
      refine seq_n hK15 ?_
      refine w_ret ?_
      refine seq_r hK6 ?_
      refine fin_r hK0 (res_c rfl rfl (hS.var 1 rfl) rfl (res_tc rfl (res_tc rfl rfl))) ?_
      try obtain rfl := Option.some.inj h
      exact hP _ isSl_nil _ ((hS.nil_ 1).sel 3 [0] (by decide))
    · refine w_skip ?_
      refine seq_n hK6 ?_
      refine w_seq fun K16 hK16 => ?_
      refine w_drawL gC [(8, [])] (by kernel_rfl) rfl (by kernel_rfl) ?_
      try simp only [W, reduceIte, Nat.reduceAdd, tabAt, qAt, Nat.reduceEqDiff]
      refine w_lit0 rfl rfl ?_
      try simp only [W, EE, Nat.reduceAdd, Nat.reduceBEq, hS.var 0 rfl]
      refine w_appQ rfl ?_
      simp only [W, EE]
      have hS := hS.e0_ 1
      refine w_appV (l := ([] : List Int)) (c := (AV.int .i64)) 0 hS rfl isSl_e0 rfl rfl rfl rfl (fun _ => rfl) rfl h fun v19 H x18 qv19 hm h hS => ?_
      try simp only [W, EE, Nat.reduceAdd, Nat.reduceBEq, hS.var 1 rfl]
      refine w_bld rfl rfl rfl rfl (by simp only [fillA, qv19.stora, qv19.cells]; simp [E, splice, AV.cells, storA, stor1] <;> rfl) ?_
      try simp only [W]
      refine w_alloc hS rfl rfl fun ip21 wp21 H hS => ?_
      try simp only [W]
      refine w_stv (a := .agg [v19, .int .i64 a0.Room]) (y' := .agg [v19, .int .i64 a0.Room]) 0 hS rfl rfl rfl rfl rfl (by simp only [storA, List.all_cons, List.all_nil, qv19.stor]; rfl) rfl rfl fun H hS => ?_
      try simp only [W]
      refine seq_n hK16 ?_
      refine w_seq fun K23 hK23 => ?_
      refine w_reg gC ?_
      try simp only [W, Nat.reduceAdd]
      refine seq_n hK23 ?_
      refine w_seq fun K24 hK24 => ?_
      obtain ⟨y35, hw36, g42⟩ := Option.bind_eq_some_iff.1 h
      refine w_join gC (fun s H => ∃ x31 : Int, ∃ x32 : List Int, ∃ x34 : Int, y35 = LR.next (x31, x32, x34) ∧ ∃ v33 : AV, isSl v33 ∧ s = [u, u, u, u, .ptr ip4 wp4 0 0, u, u, .ptr ip21 wp21 0 0, .int .i64 x31, u, u, u, u, u, u, u, u, u, u, u, u, u, u, u, u, u, u, u, u, u, u, u, u, u, u, u, u, u, u, u, u, u, u, u, u, u, u] ∧ Own H (⟨v33, 1, x32.map (AV.int .i64)⟩ :: ⟨.ptr ip4 wp4 0 0, 2, [.agg [.nil, .int .i64 0]]⟩ :: ⟨.ptr ip21 wp21 0 0, 2, [.agg [v33, .int .i64 x34]]⟩ :: F)) (fun K37 hK37 => ?_) (fun s H hq => ?_)
      · refine w_blk fun K38 hK38 => ?_
        refine w_loop gC hw36 (fun x s H => match x with | (x25, x26, x27, x30) => ∃ v28 : AV, isSl v28 ∧ s = [u, .int .i64 x25, u, u, .ptr ip4 wp4 0 0, u, u, .ptr ip21 wp21 0 0, .int .i64 x26, u, u, u, u, u, u, u, u, u, u, u, u, u, u, u, u, u, u, u, u, u, u, u, u, u, u, u, u, u, u, u, u, u, u, u, u, u, u] ∧ Own H (⟨v28, 1, x27.map (AV.int .i64)⟩ :: ⟨.ptr ip4 wp4 0 0, 2, [.agg [.nil, .int .i64 0]]⟩ :: ⟨.ptr ip21 wp21 0 0, 2, [.agg [v28, .int .i64 x30]]⟩ :: F)) ⟨_, qv19, rfl, (hS.sel 4 [1, 3, 0] (by decide))⟩ (fun x y41 s H h hd40 hi K39 hK39 => ?_)
        obtain ⟨x25, x26, x27, x30⟩ := x
        try dsimp only at hi
        obtain ⟨v28, qv28, rfl, hS⟩ := hi
        simp only [spec_RoundsOf_l0] at h
        refine w_seq fun K43 hK43 => ?_
        refine w_seq fun K44 hK44 => ?_
        refine w_reg gC ?_
        try simp only [W, EE, Nat.reduceAdd]
        refine seq_n hK44 ?_
        refine w_if ?_
        simp only [W]
        refine w_cnd h (fun hc h => ?_) (fun hc h => ?_)
        · refine w_skip ?_
          refine seq_n hK43 ?_
          refine w_seq fun K45 hK45 => ?_
          refine w_blk fun K46 hK46 => ?_
          refine w_seq fun K47 hK47 => ?_
          refine w_reg gC ?_
          try simp only [W, EE, reduceIte, Nat.reduceAdd, Nat.reduceLeDiff, Nat.reduceBEq, hS.var 2 rfl, List.contains_cons, Nat.reduceBEq, Bool.or_self]
          refine w_callO (rsh := [[.sl [.sc], .sc], [.sc]]) (ys := [.agg [.fz (x27.map (AV.int .i64)), .int .i64 x30]]) h rfl (pv_c (sn_agg (sm_c (sn_ow hS 0 rfl qv28 (fun _ => rfl)) (sm_c rfl (sm_n _)))) pv_n) fun b48 hb48 h => ⟨.tup [.agg [.own 1 (b48.1.Wins.map (AV.int .i64)), .int .i64 b48.1.Room], .bool b48.2], spec_l10Round_w hb48 (Own.nil _) fun v51 qv51 H hS => TV_ok rfl (TV_a (TC_ow 0 hS rfl qv51 (fun _ _ => by simp [takeE, takeT, plainA]) fun H hS => TC_sc rfl (TC_nil (TV_p rfl (TV_n rfl))))), (nf_t (nf_c (nf_a (nf_c (noFz_o _ (fun _ => rfl) _) (nf_c rfl nf_n))) (nf_c rfl nf_n))), ?_⟩
          refine thaw_tup ?_
          refine TH_a ?_
          refine TH_o hS (fun _ _ => rfl) (fun _ => rfl) fun v53 H qv53 hS => ?_
          refine TH_p (fun _ => rfl) ?_
          refine TH_n ?_
          refine TH_p (fun _ => rfl) ?_
          refine TH_n ?_
          try simp only [List.headD_cons]
          obtain ⟨b49, b50⟩ := b48
          try dsimp only at h
          try simp only [W]
          refine w_alloc hS rfl rfl fun ip54 wp54 H hS => ?_
          try simp only [W]
          refine w_stv (a := .agg [v53, .int .i64 b49.Room]) (y' := .agg [v53, .int .i64 b49.Room]) 0 hS rfl rfl rfl rfl rfl (by simp only [storA, List.all_cons, List.all_nil, qv53.stor]; rfl) rfl rfl fun H hS => ?_
          try simp only [W]
          refine seq_n hK47 ?_
          refine w_seq fun K56 hK56 => ?_
          refine w_seq fun K57 hK57 => ?_
          refine w_reg gC ?_
          try simp only [W, EE, reduceIte, Nat.reduceAdd, Nat.reduceLeDiff, hS.var 0 rfl]
          refine w_callS (rsh := [[.sc]]) (ys := [.agg [.fz (b49.Wins.map (AV.int .i64)), .int .i64 b49.Room]]) h rfl (pv_c (sn_agg (sm_c (sn_ow hS 1 rfl qv53 (fun _ => rfl)) (sm_c rfl (sm_n _)))) pv_n) fun b58 hb58 h => ⟨.bool b58, spec_GoodShares_w hb58 (Own.nil _) fun H hS => TV_ok rfl (TV_p rfl (TV_n rfl)), ⟨rfl, rfl, fun _ => rfl⟩, ?_⟩
          try simp only [W]
          refine seq_n hK57 ?_
          refine w_if ?_
          simp only [W]
          refine w_cnd h (fun hc h => ?_) (fun hc h => ?_)
          · refine w_seq fun K59 hK59 => ?_
            refine w_reg gC ?_
            try simp only [W, EE, Nat.reduceAdd]
            refine w_bld rfl rfl rfl rfl rfl ?_
            try simp only [W]
            refine w_stv (a := .agg [.nil, .int .i64 0]) (y' := .agg [.nil, .int .i64 0]) 3 hS rfl rfl rfl rfl rfl rfl rfl rfl fun H hS => ?_
            try simp only [W]
            refine seq_n hK59 ?_
            refine w_ret ?_
            refine seq_r hK56 ?_
            refine blk_r hK46 ?_
            refine seq_r hK45 ?_
            try obtain rfl := Option.some.inj h
            obtain rfl := hd40 _ rfl
            have h : (some (LR.done ((⟨[], 0⟩ : Shares), 0, false)) : Option (LR (Int × (List Int) × Int) (Shares × Int × Bool))) = some (LR.done ((⟨[], 0⟩ : Shares), 0, false)) := rfl
            refine lp_r hK39 ?_
            refine blk_r hK38 ?_
            try obtain rfl := Option.some.inj h
            obtain rfl := Option.some.inj g42
            have h : (some ((⟨[], 0⟩ : Shares), 0, false) : Option (Shares × Int × Bool)) = some ((⟨[], 0⟩ : Shares), 0, false) := rfl
            refine cut_r hK37 ?_
            refine seq_r hK24 ?_
            refine fin_r hK0 (res_c rfl rfl (hS.var 3 rfl) rfl (res_tc rfl (res_tc rfl rfl))) ?_
            try obtain rfl := Option.some.inj h
            exact hP _ isSl_nil _ ((hS.nil_ 1).sel 6 [0] (by decide))
          · refine w_skip ?_
            refine seq_n hK56 ?_
            refine w_seq fun K64 hK64 => ?_
            refine w_reg gC ?_
            try simp only [W, EE, reduceIte, Nat.reduceAdd, Nat.reduceLeDiff, hS.var 0 rfl]
            refine w_stv (a := .agg [v53, .int .i64 b49.Room]) (y' := .agg [v53, .int .i64 b49.Room]) 4 hS rfl rfl rfl rfl rfl (by simp only [storA, List.all_cons, List.all_nil, qv53.stor]; rfl) rfl rfl fun H hS => ?_
            try simp only [W]
            refine seq_n hK64 ?_
            refine w_reg gC ?_
            try simp only [W, Nat.reduceAdd]
            refine w_call h fun b65 hb65 h => ?_
            refine spec_l1Bit_w hb65 hS fun H hS => ?_
            try simp only [W, EE]
            refine blk_n0 hK46 ?_
            refine seq_n hK45 ?_
            refine w_reg gC ?_
            try simp only [W, EE, Nat.reduceAdd]
            exact lp_n hK39 h ⟨_, qv53, rfl, (hS.sel 5 [1, 3, 4] (by decide))⟩
        · refine w_exit ?_
          refine seq_x hK43 ?_
          try obtain rfl := Option.some.inj h
          obtain rfl := hd40 _ rfl
          have h : (some (LR.next (x26, x27, x30)) : Option (LR (Int × (List Int) × Int) (Shares × Int × Bool))) = some (LR.next (x26, x27, x30)) := rfl
          refine lp_x hK39 ?_
          refine blk_e hK38 ?_
          exact cut_n hK37 ⟨_, _, _, (Option.some.inj h).symm, _, qv28, rfl, hS⟩
      · obtain ⟨x31, x32, x34, rfl, v33, qv33, rfl, hS⟩ := hq
        replace h := g42
        try dsimp only at h
        refine seq_n hK24 ?_
        refine w_seq fun K68 hK68 => ?_
        refine w_reg gC ?_
        try simp only [W, EE, reduceIte, Nat.reduceAdd, Nat.reduceLeDiff, hS.var 2 rfl]
        refine w_stv (a := .agg [v33, .int .i64 x34]) (y' := .agg [v33, .int .i64 x34]) 1 hS rfl rfl rfl rfl rfl (by simp only [storA, List.all_cons, List.all_nil, qv33.stor]; rfl) rfl rfl fun H hS => ?_
        try simp only [W]
        refine seq_n hK68 ?_
        refine w_ret ?_
        refine fin_r hK0 (res_c rfl rfl (hS.var 1 rfl) rfl (res_tc rfl (res_tc rfl rfl))) ?_
        try obtain rfl := Option.some.inj h
        exact hP _ qv33 _ (hS.sel 3 [0] (by decide))
theorem laws_sameInts_w {a0 : List Int} {a1 : List Int} {r : (Bool)} (h : laws_sameInts a0 a1 = some r) {F : List It} {H : Heap} (hS : Own H (F)) {P : AV → Heap → Prop} (hP : ∀ H', Own H' (F) → P (.bool r) H') : ACall C 22 [.fz (a0.map (AV.int .i64)), .fz (a1.map (AV.int .i64))] H P := by
  refine acall_of gC (res := [.tmp 4]) (n := 26) rfl rfl rfl rfl fun K0 hK0 => ?_
  simp only [W, Nat.reduceSub, Nat.reduceAdd, List.replicate]
  unfold laws_sameInts at h
  refine w_seq fun K1 hK1 => ?_
  refine w_reg gC ?_
  try simp only [W, Nat.reduceAdd]
  refine seq_n hK1 ?_
  refine w_seq fun K2 hK2 => ?_
  refine w_seq fun K3 hK3 => ?_
  refine w_reg gC ?_
  try simp only [W, EE, Nat.reduceAdd]
  refine seq_n hK3 ?_
  refine w_if ?_
  simp only [W]
  refine w_cnd h (fun hc h => ?_) (fun hc h => ?_)
  · refine w_seq fun K4 hK4 => ?_
    refine w_reg gC ?_
    try simp only [W, Nat.reduceAdd]
    refine seq_n hK4 ?_
    refine w_ret ?_
    refine seq_r hK2 ?_
    refine fin_r1 hK0 rfl ?_
    try obtain rfl := Option.some.inj h
    exact hP _ hS
  · refine w_skip ?_
    refine seq_n hK2 ?_
    refine w_seq fun K5 hK5 => ?_
    refine w_seq fun K6 hK6 => ?_
    refine w_reg gC ?_
    try simp only [W, EE, Nat.reduceAdd]
    refine seq_n hK6 ?_
    obtain ⟨y8, hw9, g15⟩ := Option.bind_eq_some_iff.1 h
    refine w_join gC (fun s H => y8 = LR.next () ∧ s = [u, u, u, u, u, u, u, u, u, u, u, u, u, u, u, u, u, u, u, u, u, u, u, u, u, u] ∧ Own H (F)) (fun K10 hK10 => ?_) (fun s H hq => ?_)
    · refine w_blk fun K11 hK11 => ?_
      refine w_loop gC hw9 (fun x s H => s = [.fz (a0.map (AV.int .i64)), .fz (a1.map (AV.int .i64)), u, u, u, u, u, u, u, u, u, u, .int .i64 (a0.length : Int), .int .i64 x, u, u, u, u, u, u, u, u, u, u, u, u] ∧ Own H (F)) ⟨rfl, hS⟩ (fun x7 y14 s H h hd13 hi K12 hK12 => ?_)
      skip
      try dsimp only at hi
      obtain ⟨rfl, hS⟩ := hi
      simp only [laws_sameInts_l0] at h
      refine w_seq fun K16 hK16 => ?_
      refine w_reg gC ?_
      try simp only [W, EE, Nat.reduceAdd]
      refine seq_n hK16 ?_
      refine w_seq fun K17 hK17 => ?_
      refine w_if ?_
      simp only [W]
      refine w_cnd h (fun hc h => ?_) (fun hc h => ?_)
      · refine w_skip ?_
        refine seq_n hK17 ?_
        refine w_seq fun K18 hK18 => ?_
        refine w_blk fun K19 hK19 => ?_
        refine w_seq fun K20 hK20 => ?_
        refine w_reg gC ?_
        try simp only [W, Nat.reduceAdd]
        refine seq_n hK20 ?_
        refine w_seq fun K21 hK21 => ?_
        refine w_draw0 gC (by kernel_rfl) ?_
        try simp only [W, EE, Nat.reduceAdd]
        refine w_fz rfl rfl rfl (fun _ => rfl) h fun b22 hb22 h => ?_
        try simp only [W, EE]
        refine w_fz rfl rfl rfl (fun _ => rfl) h fun b23 hb23 h => ?_
        try simp only [W, EE]
        refine seq_n hK21 ?_
        refine w_if ?_
        simp only [W]
        refine w_cnd h (fun hc h => ?_) (fun hc h => ?_)
        · refine w_seq fun K24 hK24 => ?_
          refine w_reg gC ?_
          try simp only [W, Nat.reduceAdd]
          refine seq_n hK24 ?_
          refine w_ret ?_
          refine blk_r hK19 ?_
          refine seq_r hK18 ?_
          try obtain rfl := Option.some.inj h
          obtain rfl := hd13 _ rfl
          have h : (some (LR.done false) : Option (LR Unit (Bool))) = some (LR.done false) := rfl
          refine lp_r hK12 ?_
          refine blk_r hK11 ?_
          try obtain rfl := Option.some.inj h
          obtain rfl := Option.some.inj g15
          have h : (some false : Option (Bool)) = some false := rfl
          refine cut_r hK10 ?_
          refine seq_r hK5 ?_
          refine fin_r1 hK0 rfl ?_
          try obtain rfl := Option.some.inj h
          exact hP _ hS
        · refine w_skip ?_
          refine blk_n0 hK19 ?_
          refine seq_n hK18 ?_
          refine w_reg gC ?_
          try simp only [W, EE, Nat.reduceAdd]
          exact lp_n hK12 h ⟨rfl, hS⟩
      · refine w_exit ?_
        refine seq_x hK17 ?_
        try obtain rfl := Option.some.inj h
        obtain rfl := hd13 _ rfl
        have h : (some (LR.next ()) : Option (LR Unit (Bool))) = some (LR.next ()) := rfl
        refine lp_x hK12 ?_
        refine blk_e hK11 ?_
        exact cut_n hK10 ⟨(Option.some.inj h).symm, rfl, hS⟩
    · obtain ⟨rfl, rfl, hS⟩ := hq
      replace h := g15
      try dsimp only at h
      refine seq_n hK5 ?_
      refine w_seq fun K31 hK31 => ?_
      refine w_reg gC ?_
      try simp only [W, Nat.reduceAdd]
      refine seq_n hK31 ?_
      refine w_ret ?_
      refine fin_r1 hK0 rfl ?_
      try obtain rfl := Option.some.inj h
      exact hP _ hS
theorem laws_sameShares_w {a0 : Shares} {a1 : Shares} {r : (Bool)} (h : laws_sameShares a0 a1 = some r) {F : List It} {H : Heap} (hS : Own H (F)) {P : AV → Heap → Prop} (hP : ∀ H', Own H' (F) → P (.bool r) H') : ACall C 41 [.agg [.fz (a0.Wins.map (AV.int .i64)), .int .i64 a0.Room], .agg [.fz (a1.Wins.map (AV.int .i64)), .int .i64 a1.Room]] H P := by
  refine acall_of gC (res := [.tmp 4]) (n := 17) rfl rfl rfl rfl fun K0 hK0 => ?_
  simp only [W, Nat.reduceSub, Nat.reduceAdd, List.replicate]
  unfold laws_sameShares at h
  refine w_seq fun K1 hK1 => ?_
  refine w_reg gC ?_
  try simp only [W, Nat.reduceAdd]
  refine w_box hS rfl rfl rfl rfl fun ip2 wp2 H hS => ?_
  try simp only [W]
  refine w_box hS rfl rfl rfl rfl fun ip4 wp4 H hS => ?_
  try simp only [W]
  refine seq_n hK1 ?_
  refine w_seq fun K6 hK6 => ?_
  refine w_reg gC ?_
  try simp only [W, EE, Nat.reduceAdd, Nat.reduceBEq, hS.var 1 rfl, hS.var 0 rfl]
  refine w_call h fun b7 hb7 h => ?_
  refine laws_sameInts_w hb7 hS fun H hS => ?_
  try simp only [W]
  refine w_grdT h (fun hc h => ?_) (fun hc h => ?_)
  · try simp only [W, EE, reduceIte, Nat.reduceAdd, Nat.reduceBEq, hS.var 1 rfl, hS.var 0 rfl, hc]
    refine seq_n hK6 ?_
    refine w_ret ?_
    refine fin_r1 hK0 rfl ?_
    try obtain rfl := Option.some.inj h
    exact hP _ (hS.sel 2 [] (by decide))
  · try simp only [W, hc]
    refine seq_n hK6 ?_
    refine w_ret ?_
    refine fin_r1 hK0 rfl ?_
    try obtain rfl := Option.some.inj h
    exact hP _ (hS.sel 2 [] (by decide))
theorem slices_Max_int_w {a0 : List Int} {r : (Int)} (h : slices_Max_int a0 = some r) {F : List It} {H : Heap} (hS : Own H (F)) {P : AV → Heap → Prop} (hP : ∀ H', Own H' (F) → P (.int .i64 r) H') : ACall C 173 [.fz (a0.map (AV.int .i64))] H P := by
  refine acall_of gC (res := [.tmp 2]) (n := 25) rfl rfl rfl rfl fun K0 hK0 => ?_
  simp only [W, Nat.reduceSub, Nat.reduceAdd, List.replicate]
  unfold slices_Max_int at h
  refine w_seq fun K1 hK1 => ?_
  refine w_reg gC ?_
  try simp only [W, Nat.reduceAdd]
  refine seq_n hK1 ?_
  refine w_seq fun K2 hK2 => ?_
  refine w_seq fun K3 hK3 => ?_
  refine w_reg gC ?_
  try simp only [W, EE, Nat.reduceAdd]
  refine seq_n hK3 ?_
  obtain ⟨y4, h, g5⟩ := Option.bind_eq_some_iff.1 h
  refine w_join gC (fun s H => y4 = () ∧ s = [.fz (a0.map (AV.int .i64)), u, u, u, u, u, u, u, u, u, u, u, u, u, u, u, u, u, u, u, u, u, u, u, u] ∧ Own H (F)) (fun K6 hK6 => ?_) (fun s H hq => ?_)
  · refine w_seq fun K7 hK7 => ?_
    refine w_if ?_
    simp only [W]
    refine w_cnd h (fun hc h => ?_) (fun hc h => ?_)
    · refine w_reg gC ?_
      try simp only [W, Nat.reduceAdd]
      exact absurd h (by simp)
    · refine w_skip ?_
      refine seq_n hK7 ?_
      refine w_kill ?_
      exact cut_n hK6 ⟨(Option.some.inj h).symm, rfl, hS⟩
  · obtain ⟨rfl, rfl, hS⟩ := hq
    replace h := g5
    try dsimp only at h
    refine seq_n hK2 ?_
    refine w_seq fun K8 hK8 => ?_
    refine w_reg gC ?_
    try simp only [W, EE, Nat.reduceAdd]
    refine w_fz rfl rfl rfl (fun _ => rfl) h fun b9 hb9 h => ?_
    try simp only [W, EE]
    refine seq_n hK8 ?_
    refine w_seq fun K10 hK10 => ?_
    refine w_seq fun K11 hK11 => ?_
    refine w_reg gC ?_
    try simp only [W, Nat.reduceAdd]
    refine seq_n hK11 ?_
    obtain ⟨y15, hw16, g22⟩ := Option.bind_eq_some_iff.1 h
    refine w_join gC (fun s H => ∃ x14 : Int, y15 = (x14) ∧ s = [u, u, u, .int .i64 x14, u, u, u, u, u, u, u, u, u, u, u, u, u, u, u, u, u, u, u, u, u] ∧ Own H (F)) (fun K17 hK17 => ?_) (fun s H hq => ?_)
    · refine w_blk fun K18 hK18 => ?_
      refine w_loop gC hw16 (fun x s H => match x with | (x12, x13) => s = [.fz (a0.map (AV.int .i64)), u, u, .int .i64 x12, .int .i64 x13, u, u, u, u, u, u, u, u, u, u, u, u, u, u, u, u, u, u, u, u] ∧ Own H (F)) ⟨rfl, hS⟩ (fun x y21 s H h hd20 hi K19 hK19 => ?_)
      obtain ⟨x12, x13⟩ := x
      try dsimp only at hi
      obtain ⟨rfl, hS⟩ := hi
      simp only [slices_Max_int_l0] at h
      refine w_seq fun K23 hK23 => ?_
      refine w_seq fun K24 hK24 => ?_
      refine w_reg gC ?_
      try simp only [W, EE, Nat.reduceAdd]
      refine seq_n hK24 ?_
      refine w_if ?_
      simp only [W]
      refine w_cnd h (fun hc h => ?_) (fun hc h => ?_)
      · refine w_skip ?_
        refine seq_n hK23 ?_
        refine w_seq fun K25 hK25 => ?_
        refine w_blk fun K26 hK26 => ?_
        refine w_reg gC ?_
        try simp only [W, EE, Nat.reduceAdd]
        refine w_fz rfl rfl rfl (fun _ => rfl) h fun b27 hb27 h => ?_
        try simp only [W, EE]
        refine blk_n0 hK26 ?_
        refine seq_n hK25 ?_
        refine w_reg gC ?_
        try simp only [W, EE, Nat.reduceAdd]
        exact lp_n hK19 h ⟨rfl, hS⟩
      · refine w_exit ?_
        refine seq_x hK23 ?_
        try obtain rfl := Option.some.inj h
        obtain rfl := hd20 _ rfl
        have h : (some (x12) : Option (Int)) = some (x12) := rfl
        refine lp_x hK19 ?_
        refine blk_e hK18 ?_
        exact cut_n hK17 ⟨_, (Option.some.inj h).symm, rfl, hS⟩
    · obtain ⟨x14, ey, rfl, hS⟩ := hq; obtain rfl := ey.symm
      replace h := g22
      try dsimp only at h
      refine seq_n hK10 ?_
      refine w_seq fun K30 hK30 => ?_
      refine w_reg gC ?_
      try simp only [W, Nat.reduceAdd]
      refine seq_n hK30 ?_
      refine w_ret ?_
      refine fin_r1 hK0 rfl ?_
      try obtain rfl := Option.some.inj h
      exact hP _ hS
theorem slices_Min_int_w {a0 : List Int} {r : (Int)} (h : slices_Min_int a0 = some r) {F : List It} {H : Heap} (hS : Own H (F)) {P : AV → Heap → Prop} (hP : ∀ H', Own H' (F) → P (.int .i64 r) H') : ACall C 174 [.fz (a0.map (AV.int .i64))] H P := by
  refine acall_of gC (res := [.tmp 2]) (n := 25) rfl rfl rfl rfl fun K0 hK0 => ?_
  simp only [W, Nat.reduceSub, Nat.reduceAdd, List.replicate]
  unfold slices_Min_int at h
  refine w_seq fun K1 hK1 => ?_
  refine w_reg gC ?_
  try simp only [W, Nat.reduceAdd]
  refine seq_n hK1 ?_
  refine w_seq fun K2 hK2 => ?_
  refine w_seq fun K3 hK3 => ?_
  refine w_reg gC ?_
  try simp only [W, EE, Nat.reduceAdd]
  refine seq_n hK3 ?_
  obtain ⟨y4, h, g5⟩ := Option.bind_eq_some_iff.1 h
  refine w_join gC (fun s H => y4 = () ∧ s = [.fz (a0.map (AV.int .i64)), u, u, u, u, u, u, u, u, u, u, u, u, u, u, u, u, u, u, u, u, u, u, u, u] ∧ Own H (F)) (fun K6 hK6 => ?_) (fun s H hq => ?_)
  · refine w_seq fun K7 hK7 => ?_
    refine w_if ?_
    simp only [W]
    refine w_cnd h (fun hc h => ?_) (fun hc h => ?_)
    · refine w_reg gC ?_
      try simp only [W, Nat.reduceAdd]
      exact absurd h (by simp)
    · refine w_skip ?_
      refine seq_n hK7 ?_
      refine w_kill ?_
      exact cut_n hK6 ⟨(Option.some.inj h).symm, rfl, hS⟩
  · obtain ⟨rfl, rfl, hS⟩ := hq
    replace h := g5
    try dsimp only at h
    refine seq_n hK2 ?_
    refine w_seq fun K8 hK8 => ?_
    refine w_reg gC ?_
    try simp only [W, EE, Nat.reduceAdd]
    refine w_fz rfl rfl rfl (fun _ => rfl) h fun b9 hb9 h => ?_
    try simp only [W, EE]
    refine seq_n hK8 ?_
    refine w_seq fun K10 hK10 => ?_
    refine w_seq fun K11 hK11 => ?_
    refine w_reg gC ?_
    try simp only [W, Nat.reduceAdd]
    refine seq_n hK11 ?_
    obtain ⟨y15, hw16, g22⟩ := Option.bind_eq_some_iff.1 h
    refine w_join gC (fun s H => ∃ x14 : Int, y15 = (x14) ∧ s = [u, u, u, .int .i64 x14, u, u, u, u, u, u, u, u, u, u, u, u, u, u, u, u, u, u, u, u, u] ∧ Own H (F)) (fun K17 hK17 => ?_) (fun s H hq => ?_)
    · refine w_blk fun K18 hK18 => ?_
      refine w_loop gC hw16 (fun x s H => match x with | (x12, x13) => s = [.fz (a0.map (AV.int .i64)), u, u, .int .i64 x12, .int .i64 x13, u, u, u, u, u, u, u, u, u, u, u, u, u, u, u, u, u, u, u, u] ∧ Own H (F)) ⟨rfl, hS⟩ (fun x y21 s H h hd20 hi K19 hK19 => ?_)
      obtain ⟨x12, x13⟩ := x
      try dsimp only at hi
      obtain ⟨rfl, hS⟩ := hi
      simp only [slices_Min_int_l0] at h
      refine w_seq fun K23 hK23 => ?_
      refine w_seq fun K24 hK24 => ?_
      refine w_reg gC ?_
      try simp only [W, EE, Nat.reduceAdd]
      refine seq_n hK24 ?_
      refine w_if ?_
      simp only [W]
      refine w_cnd h (fun hc h => ?_) (fun hc h => ?_)
      · refine w_skip ?_
        refine seq_n hK23 ?_
        refine w_seq fun K25 hK25 => ?_
        refine w_blk fun K26 hK26 => ?_
        refine w_reg gC ?_
        try simp only [W, EE, Nat.reduceAdd]
        refine w_fz rfl rfl rfl (fun _ => rfl) h fun b27 hb27 h => ?_
        try simp only [W, EE]
        refine blk_n0 hK26 ?_
        refine seq_n hK25 ?_
        refine w_reg gC ?_
        try simp only [W, EE, Nat.reduceAdd]
        exact lp_n hK19 h ⟨rfl, hS⟩
      · refine w_exit ?_
        refine seq_x hK23 ?_
        try obtain rfl := Option.some.inj h
        obtain rfl := hd20 _ rfl
        have h : (some (x12) : Option (Int)) = some (x12) := rfl
        refine lp_x hK19 ?_
        refine blk_e hK18 ?_
        exact cut_n hK17 ⟨_, (Option.some.inj h).symm, rfl, hS⟩
    · obtain ⟨x14, ey, rfl, hS⟩ := hq; obtain rfl := ey.symm
      replace h := g22
      try dsimp only at h
      refine seq_n hK10 ?_
      refine w_seq fun K30 hK30 => ?_
      refine w_reg gC ?_
      try simp only [W, Nat.reduceAdd]
      refine seq_n hK30 ?_
      refine w_ret ?_
      refine fin_r1 hK0 rfl ?_
      try obtain rfl := Option.some.inj h
      exact hP _ hS
theorem impl_SpreadOf_w {a0 : Shares} {r : (Int × Bool)} (h : impl_SpreadOf a0 = some r) {F : List It} {H : Heap} (hS : Own H (F)) {P : AV → Heap → Prop} (hP : ∀ H', Own H' (F) → P (.tup [.int .i64 r.1, .bool r.2]) H') : ACall C 42 [.agg [.fz (a0.Wins.map (AV.int .i64)), .int .i64 a0.Room]] H P := by
  refine acall_of gC (res := [.tmp 2, .tmp 3]) (n := 14) rfl rfl rfl rfl fun K0 hK0 => ?_
  simp only [W, Nat.reduceSub, Nat.reduceAdd, List.replicate]
  unfold impl_SpreadOf at h
  refine w_seq fun K1 hK1 => ?_
  refine w_reg gC ?_
  try simp only [W, Nat.reduceAdd]
  refine w_box hS rfl rfl rfl rfl fun ip2 wp2 H hS => ?_
  try simp only [W]
  refine seq_n hK1 ?_
  refine w_seq fun K4 hK4 => ?_
  refine w_seq fun K5 hK5 => ?_
  refine w_reg gC ?_
  try simp only [W, EE, reduceIte, Nat.reduceAdd, Nat.reduceLeDiff, hS.var 0 rfl]
  refine w_call h fun b6 hb6 h => ?_
  refine impl_GoodShares_w hb6 hS fun H hS => ?_
  try simp only [W]
  refine seq_n hK5 ?_
  refine w_if ?_
  simp only [W]
  refine w_cnd h (fun hc h => ?_) (fun hc h => ?_)
  · refine w_seq fun K7 hK7 => ?_
    refine w_reg gC ?_
    try simp only [W, Nat.reduceAdd]
    refine seq_n hK7 ?_
    refine w_ret ?_
    refine seq_r hK4 ?_
    refine fin_r2 hK0 rfl rfl ?_
    try obtain rfl := Option.some.inj h
    exact hP _ (hS.sel 1 [] (by decide))
  · refine w_skip ?_
    refine seq_n hK4 ?_
    refine w_seq fun K8 hK8 => ?_
    refine w_draw0 gC (by kernel_rfl) ?_
    try simp only [W, EE, Nat.reduceAdd, Nat.reduceBEq, hS.var 0 rfl]
    refine w_callS (rsh := [[.sc]]) (ys := [.fz (a0.Wins.map (AV.int .i64))]) h rfl (by rfl) fun b9 hb9 h => ⟨.int .i64 b9, slices_Max_int_w hb9 (Own.nil _) fun H hS => TV_ok rfl (TV_p rfl (TV_n rfl)), ⟨rfl, rfl, fun _ => rfl⟩, ?_⟩
    try simp only [W, EE, Nat.reduceAdd, Nat.reduceBEq, hS.var 0 rfl]
    refine w_callS (rsh := [[.sc]]) (ys := [.fz (a0.Wins.map (AV.int .i64))]) h rfl (by rfl) fun b10 hb10 h => ⟨.int .i64 b10, slices_Min_int_w hb10 (Own.nil _) fun H hS => TV_ok rfl (TV_p rfl (TV_n rfl)), ⟨rfl, rfl, fun _ => rfl⟩, ?_⟩
    try simp only [W, EE]
    refine seq_n hK8 ?_
    refine w_ret ?_
    refine fin_r2 hK0 rfl rfl ?_
    try obtain rfl := Option.some.inj h
    exact hP _ (hS.sel 1 [] (by decide))
theorem spec_DrawGoodShares_w {a0 : List Int} {r : (Shares)} (h : spec_DrawGoodShares a0 = some r) {F : List It} {H : Heap} (hS : Own H (F)) {P : AV → Heap → Prop} (hP : ∀ v13 : AV, isSl v13 → ∀ H', Own H' (⟨v13, 1, r.Wins.map (AV.int .i64)⟩ :: F) → P (.agg [v13, .int .i64 r.Room]) H') : ACall C 176 [.fz (a0.map (AV.int .u8))] H P := by
  refine acall_of gC (res := [.cell 2 55]) (n := 9) rfl rfl rfl rfl fun K0 hK0 => ?_
  simp only [W, Nat.reduceSub, Nat.reduceAdd, List.replicate]
  unfold spec_DrawGoodShares at h
  refine w_seq fun K1 hK1 => ?_
  refine w_reg gC ?_
  try simp only [W, Nat.reduceAdd]
  refine w_alloc hS rfl rfl fun ip2 wp2 H hS => ?_
  try simp only [W]
  refine seq_n hK1 ?_
  refine w_seq fun K4 hK4 => ?_
  refine w_reg gC ?_
  try simp only [W, EE, Nat.reduceAdd]
  refine w_bld rfl rfl rfl rfl rfl ?_
  try simp only [W]
  refine w_box hS rfl rfl rfl rfl fun ip5 wp5 H hS => ?_
  try simp only [W]
  refine seq_n hK4 ?_
  refine w_seq fun K7 hK7 => ?_
  refine w_reg gC ?_
  try simp only [W, Nat.reduceAdd]
  refine w_call h fun b8 hb8 h => ?_
  obtain ⟨b9, b10⟩ := b8
  try dsimp only at h
  refine spec_l1Cur_shares_w hb8 hS fun v11 qv11 H hS => ?_
  try simp only [W]
  refine w_stv (a := .agg [v11, .int .i64 b9.Room]) (y' := .agg [v11, .int .i64 b9.Room]) 2 hS rfl rfl rfl rfl rfl (by simp only [storA, List.all_cons, List.all_nil, qv11.stor]; rfl) rfl rfl fun H hS => ?_
  try simp only [W]
  refine seq_n hK7 ?_
  refine w_ret ?_
  refine fin_r hK0 (res_c rfl rfl (hS.var 2 rfl) rfl rfl) ?_
  try obtain rfl := Option.some.inj h
  exact hP _ qv11 _ (hS.sel 3 [0] (by decide))
theorem spec_DrawRoundOf_w {a0 : List Int} {r : (Shares)} (h : spec_DrawRoundOf a0 = some r) {F : List It} {H : Heap} (hS : Own H (F)) {P : AV → Heap → Prop} (hP : ∀ v8 : AV, isSl v8 → ∀ H', Own H' (⟨v8, 1, r.Wins.map (AV.int .i64)⟩ :: F) → P (.agg [v8, .int .i64 r.Room]) H') : ACall C 44 [.fz (a0.map (AV.int .u8))] H P := by
  refine acall_of gC (res := [.cell 2 55]) (n := 5) rfl rfl rfl rfl fun K0 hK0 => ?_
  simp only [W, Nat.reduceSub, Nat.reduceAdd, List.replicate]
  unfold spec_DrawRoundOf at h
  refine w_seq fun K1 hK1 => ?_
  refine w_reg gC ?_
  try simp only [W, Nat.reduceAdd]
  refine w_alloc hS rfl rfl fun ip2 wp2 H hS => ?_
  try simp only [W]
  refine seq_n hK1 ?_
  refine w_seq fun K4 hK4 => ?_
  refine w_reg gC ?_
  try simp only [W, Nat.reduceAdd]
  refine w_call h fun b5 hb5 h => ?_
  refine spec_DrawGoodShares_w hb5 hS fun v6 qv6 H hS => ?_
  try simp only [W]
  refine w_stv (a := .agg [v6, .int .i64 b5.Room]) (y' := .agg [v6, .int .i64 b5.Room]) 1 hS rfl rfl rfl rfl rfl (by simp only [storA, List.all_cons, List.all_nil, qv6.stor]; rfl) rfl rfl fun H hS => ?_
  try simp only [W]
  refine seq_n hK4 ?_
  refine w_ret ?_
  refine fin_r hK0 (res_c rfl rfl (hS.var 1 rfl) rfl rfl) ?_
  try obtain rfl := Option.some.inj h
  exact hP _ qv6 _ (hS.sel 2 [0] (by decide))
theorem spec_l10Tell_w {a0 : Shares} {r : (Shares × Bool)} (h : spec_l10Tell a0 = some r) {F : List It} {H : Heap} (hS : Own H (F)) {P : AV → Heap → Prop} (hP : ∀ H', Own H' (F) → P (.tup [.agg [.fz (r.1.Wins.map (AV.int .i64)), .int .i64 r.1.Room], .bool r.2]) H') : ACall C 178 [.agg [.fz (a0.Wins.map (AV.int .i64)), .int .i64 a0.Room]] H P := by
  refine acall_of gC (res := [.cell 2 55, .tmp 3]) (n := 9) rfl rfl rfl rfl fun K0 hK0 => ?_
  simp only [W, Nat.reduceSub, Nat.reduceAdd, List.replicate]
  unfold spec_l10Tell at h
  refine w_seq fun K1 hK1 => ?_
  refine w_reg gC ?_
  try simp only [W, Nat.reduceAdd]
  refine w_box hS rfl rfl rfl rfl fun ip2 wp2 H hS => ?_
  try simp only [W]
  refine w_alloc hS rfl rfl fun ip4 wp4 H hS => ?_
  try simp only [W]
  refine seq_n hK1 ?_
  refine w_seq fun K6 hK6 => ?_
  refine w_seq fun K7 hK7 => ?_
  refine w_reg gC ?_
  try simp only [W, EE, reduceIte, Nat.reduceAdd, Nat.reduceLeDiff, hS.var 1 rfl]
  refine w_call h fun b8 hb8 h => ?_
  refine spec_GoodShares_w hb8 hS fun H hS => ?_
  try simp only [W]
  refine seq_n hK7 ?_
  refine w_if ?_
  simp only [W]
  refine w_cnd h (fun hc h => ?_) (fun hc h => ?_)
  · refine w_seq fun K9 hK9 => ?_
    refine w_regF (fz := [(1, [([7], [.sl [.sc], .sc])])]) gC ?_
    try simp only [W, EE, Nat.reduceAdd, Nat.reduceBEq]
    refine w_bld rfl rfl rfl rfl rfl ?_
    try simp only [W, Nat.reduceAdd]
    refine FZ_agg rfl ?_
    refine TC_nl ?_
    refine TC_sc rfl ?_
    refine TC_nil ?_
    simp only [W]
    try simp only [W, EE, EN, reduceIte, Nat.reduceAdd, Nat.reduceLeDiff, Nat.reduceBEq, Nat.reduceMul, Bool.false_eq_true]
    refine w_stv (a := .agg [.fz (([] : List Int).map (AV.int .i64)), .int .i64 0]) (y' := .agg [.fz (([] : List Int).map (AV.int .i64)), .int .i64 0]) 0 hS rfl rfl rfl rfl rfl rfl rfl rfl fun H hS => ?_
    try simp only [W, Nat.reduceAdd, Nat.reduceBEq]
    refine seq_n hK9 ?_
    refine w_ret ?_
    refine seq_r hK6 ?_
    refine fin_r hK0 (res_c rfl rfl (hS.var 0 rfl) rfl (res_tc rfl rfl)) ?_
    try obtain rfl := Option.some.inj h
    exact hP _ (hS.sel 2 [] (by decide))
  · refine w_skip ?_
    refine seq_n hK6 ?_
    refine w_seq fun K10 hK10 => ?_
    refine w_reg gC ?_
    try simp only [W, EE, reduceIte, Nat.reduceAdd, Nat.reduceLeDiff, hS.var 1 rfl]
    refine w_stv (a := .agg [.fz (a0.Wins.map (AV.int .i64)), .int .i64 a0.Room]) (y' := .agg [.fz (a0.Wins.map (AV.int .i64)), .int .i64 a0.Room]) 0 hS rfl rfl rfl rfl rfl rfl rfl rfl fun H hS => ?_
    try simp only [W]
    refine seq_n hK10 ?_
    refine w_ret ?_
    refine fin_r hK0 (res_c rfl rfl (hS.var 0 rfl) rfl (res_tc rfl rfl)) ?_
    try obtain rfl := Option.some.inj h
    exact hP _ (hS.sel 2 [] (by decide))
theorem spec_RoundOf_w {a0 : Shares} {r : (Shares × Bool × Bool)} (h : spec_RoundOf a0 = some r) {F : List It} {H : Heap} (hS : Own H (F)) {P : AV → Heap → Prop} (hP : ∀ H', Own H' (F) → P (.tup [.agg [.fz (r.1.Wins.map (AV.int .i64)), .int .i64 r.1.Room], .bool r.2.1, .bool r.2.2]) H') : ACall C 46 [.agg [.fz (a0.Wins.map (AV.int .i64)), .int .i64 a0.Room]] H P := by
  refine acall_of gC (res := [.cell 2 55, .tmp 3, .tmp 4]) (n := 28) rfl rfl rfl rfl fun K0 hK0 => ?_
  simp only [W, Nat.reduceSub, Nat.reduceAdd, List.replicate]
  unfold spec_RoundOf at h
  refine w_seq fun K1 hK1 => ?_
  refine w_reg gC ?_
  try simp only [W, Nat.reduceAdd]
  refine w_box hS rfl rfl rfl rfl fun ip2 wp2 H hS => ?_
  try simp only [W]
  refine w_alloc hS rfl rfl fun ip4 wp4 H hS => ?_
  try simp only [W]
  refine seq_n hK1 ?_
  refine w_seq fun K6 hK6 => ?_
  refine w_seq fun K7 hK7 => ?_
  refine w_reg gC ?_
  try simp only [W, EE, reduceIte, Nat.reduceAdd, Nat.reduceLeDiff, hS.var 1 rfl]
  refine w_call h fun b8 hb8 h => ?_
  refine spec_GoodShares_w hb8 hS fun H hS => ?_
  try simp only [W]
  refine seq_n hK7 ?_
  refine w_if ?_
  simp only [W]
  refine w_cnd h (fun hc h => ?_) (fun hc h => ?_)
  · refine w_seq fun K9 hK9 => ?_
    refine w_regF (fz := [(1, [([12], [.sl [.sc], .sc])])]) gC ?_
    try simp only [W, EE, Nat.reduceAdd, Nat.reduceBEq]
    refine w_bld rfl rfl rfl rfl rfl ?_
    try simp only [W, Nat.reduceAdd]
    refine FZ_agg rfl ?_
    refine TC_nl ?_
    refine TC_sc rfl ?_
    refine TC_nil ?_
    simp only [W]
    try simp only [W, EE, EN, reduceIte, Nat.reduceAdd, Nat.reduceLeDiff, Nat.reduceBEq, Nat.reduceMul, Bool.false_eq_true]
    refine w_stv (a := .agg [.fz (([] : List Int).map (AV.int .i64)), .int .i64 0]) (y' := .agg [.fz (([] : List Int).map (AV.int .i64)), .int .i64 0]) 0 hS rfl rfl rfl rfl rfl rfl rfl rfl fun H hS => ?_
    try simp only [W, Nat.reduceAdd, Nat.reduceBEq]
    refine seq_n hK9 ?_
    refine w_ret ?_
    refine seq_r hK6 ?_
    refine fin_r hK0 (res_c rfl rfl (hS.var 0 rfl) rfl (res_tc rfl (res_tc rfl rfl))) ?_
    try obtain rfl := Option.some.inj h
    exact hP _ (hS.sel 2 [] (by decide))
  · refine w_skip ?_
    refine seq_n hK6 ?_
    refine w_seq fun K10 hK10 => ?_
    refine w_regF (fz := [(6, [([16], [.sl [.sc], .sc])])]) gC ?_
    try simp only [W, EE, reduceIte, Nat.reduceAdd, Nat.reduceLeDiff, Nat.reduceBEq, hS.var 1 rfl]
    refine w_call h fun b11 hb11 h => ?_
    obtain ⟨b12, b13⟩ := b11
    try dsimp only at h
    refine spec_l10Round_w hb11 hS fun v14 qv14 H hS => ?_
    try simp only [W, Nat.reduceAdd, Nat.reduceBEq]
    refine w_alloc hS rfl rfl fun ip16 wp16 H hS => ?_
    try simp only [W, Nat.reduceAdd]
    refine FZ_agg rfl ?_
    refine TC_ow 1 hS rfl qv14 (fun _ _ => by simp [takeE, takeT, plainA]) fun H hS => ?_
    refine TC_sc rfl ?_
    refine TC_nil ?_
    simp only [W, frzL_map (c := (AV.int .i64)) (fun _ => rfl)]
    try simp only [W, EE, EN, reduceIte, Nat.reduceAdd, Nat.reduceLeDiff, Nat.reduceBEq, Nat.reduceMul, Bool.false_eq_true]
    refine w_stv (a := .agg [.fz (b12.Wins.map (AV.int .i64)), .int .i64 b12.Room]) (y' := .agg [.fz (b12.Wins.map (AV.int .i64)), .int .i64 b12.Room]) 0 hS rfl rfl rfl rfl rfl rfl rfl rfl fun H hS => ?_
    try simp only [W, Nat.reduceAdd, Nat.reduceBEq]
    refine seq_n hK10 ?_
    refine w_seq fun K18 hK18 => ?_
    refine w_reg gC ?_
    try simp only [W, EE, reduceIte, Nat.reduceAdd, Nat.reduceLeDiff, hS.var 0 rfl]
    refine w_call h fun b19 hb19 h => ?_
    obtain ⟨b20, b21⟩ := b19
    try dsimp only at h
    refine spec_l10Tell_w hb19 hS fun H hS => ?_
    try simp only [W]
    refine w_alloc hS rfl rfl fun ip22 wp22 H hS => ?_
    try simp only [W]
    refine w_stv (a := .agg [.fz (b20.Wins.map (AV.int .i64)), .int .i64 b20.Room]) (y' := .agg [.fz (b20.Wins.map (AV.int .i64)), .int .i64 b20.Room]) 0 hS rfl rfl rfl rfl rfl rfl rfl rfl fun H hS => ?_
    try simp only [W]
    refine seq_n hK18 ?_
    refine w_seq fun K24 hK24 => ?_
    refine w_seq fun K25 hK25 => ?_
    refine w_reg gC ?_
    try simp only [W, Nat.reduceAdd]
    refine seq_n hK25 ?_
    refine w_if ?_
    simp only [W]
    refine w_cnd h (fun hc h => ?_) (fun hc h => ?_)
    · refine w_seq fun K26 hK26 => ?_
      refine w_regF (fz := [(1, [([25], [.sl [.sc], .sc])])]) gC ?_
      try simp only [W, EE, Nat.reduceAdd, Nat.reduceBEq]
      refine w_bld rfl rfl rfl rfl rfl ?_
      try simp only [W, Nat.reduceAdd]
      refine FZ_agg rfl ?_
      refine TC_nl ?_
      refine TC_sc rfl ?_
      refine TC_nil ?_
      simp only [W]
      try simp only [W, EE, EN, reduceIte, Nat.reduceAdd, Nat.reduceLeDiff, Nat.reduceBEq, Nat.reduceMul, Bool.false_eq_true]
      refine w_stv (a := .agg [.fz (([] : List Int).map (AV.int .i64)), .int .i64 0]) (y' := .agg [.fz (([] : List Int).map (AV.int .i64)), .int .i64 0]) 2 hS rfl rfl rfl rfl rfl rfl rfl rfl fun H hS => ?_
      try simp only [W, Nat.reduceAdd, Nat.reduceBEq]
      refine seq_n hK26 ?_
      refine w_ret ?_
      refine seq_r hK24 ?_
      refine fin_r hK0 (res_c rfl rfl (hS.var 2 rfl) rfl (res_tc rfl (res_tc rfl rfl))) ?_
      try obtain rfl := Option.some.inj h
      exact hP _ (hS.sel 4 [] (by decide))
    · refine w_skip ?_
      refine seq_n hK24 ?_
      refine w_seq fun K27 hK27 => ?_
      refine w_reg gC ?_
      try simp only [W, EE, reduceIte, Nat.reduceAdd, Nat.reduceLeDiff, hS.var 0 rfl]
      refine w_stv (a := .agg [.fz (b20.Wins.map (AV.int .i64)), .int .i64 b20.Room]) (y' := .agg [.fz (b20.Wins.map (AV.int .i64)), .int .i64 b20.Room]) 2 hS rfl rfl rfl rfl rfl rfl rfl rfl fun H hS => ?_
      try simp only [W]
      refine seq_n hK27 ?_
      refine w_ret ?_
      refine fin_r hK0 (res_c rfl rfl (hS.var 2 rfl) rfl (res_tc rfl (res_tc rfl rfl))) ?_
      try obtain rfl := Option.some.inj h
      exact hP _ (hS.sel 4 [] (by decide))
theorem laws_sumOf_w {a0 : List Int} {r : (Int)} (h : laws_sumOf a0 = some r) {F : List It} {H : Heap} (hS : Own H (F)) {P : AV → Heap → Prop} (hP : ∀ H', Own H' (F) → P (.int .i64 r) H') : ACall C 18 [.fz (a0.map (AV.int .i64))] H P := by
  refine acall_of gC (res := [.tmp 2]) (n := 17) rfl rfl rfl rfl fun K0 hK0 => ?_
  simp only [W, Nat.reduceSub, Nat.reduceAdd, List.replicate]
  unfold laws_sumOf at h
  refine w_seq fun K1 hK1 => ?_
  refine w_reg gC ?_
  try simp only [W, Nat.reduceAdd]
  refine seq_n hK1 ?_
  refine w_seq fun K2 hK2 => ?_
  refine w_reg gC ?_
  try simp only [W, Nat.reduceAdd]
  refine seq_n hK2 ?_
  refine w_seq fun K3 hK3 => ?_
  refine w_seq fun K4 hK4 => ?_
  refine w_reg gC ?_
  try simp only [W, EE, Nat.reduceAdd]
  refine seq_n hK4 ?_
  obtain ⟨y8, hw9, g15⟩ := Option.bind_eq_some_iff.1 h
  refine w_join gC (fun s H => ∃ x7 : Int, y8 = (x7) ∧ s = [u, u, u, .int .i64 x7, u, u, u, u, u, u, u, u, u, u, u, u, u] ∧ Own H (F)) (fun K10 hK10 => ?_) (fun s H hq => ?_)
  · refine w_blk fun K11 hK11 => ?_
    refine w_loop gC hw9 (fun x s H => match x with | (x5, x6) => s = [u, u, u, .int .i64 x5, u, u, .fz (a0.map (AV.int .i64)), .int .i64 (a0.length : Int), .int .i64 x6, u, u, u, u, u, u, u, u] ∧ Own H (F)) ⟨rfl, hS⟩ (fun x y14 s H h hd13 hi K12 hK12 => ?_)
    obtain ⟨x5, x6⟩ := x
    try dsimp only at hi
    obtain ⟨rfl, hS⟩ := hi
    simp only [laws_sumOf_l0] at h
    refine w_seq fun K16 hK16 => ?_
    refine w_reg gC ?_
    try simp only [W, EE, Nat.reduceAdd]
    refine seq_n hK16 ?_
    refine w_seq fun K17 hK17 => ?_
    refine w_if ?_
    simp only [W]
    refine w_cnd h (fun hc h => ?_) (fun hc h => ?_)
    · refine w_skip ?_
      refine seq_n hK17 ?_
      refine w_seq fun K18 hK18 => ?_
      refine w_blk fun K19 hK19 => ?_
      refine w_seq fun K20 hK20 => ?_
      refine w_reg gC ?_
      try simp only [W, EE, Nat.reduceAdd]
      refine w_fz rfl rfl rfl (fun _ => rfl) h fun b21 hb21 h => ?_
      try simp only [W, EE]
      refine seq_n hK20 ?_
      refine w_reg gC ?_
      try simp only [W, EE, Nat.reduceAdd]
      refine blk_n0 hK19 ?_
      refine seq_n hK18 ?_
      refine w_reg gC ?_
      try simp only [W, EE, Nat.reduceAdd]
      exact lp_n hK12 h ⟨rfl, hS⟩
    · refine w_exit ?_
      refine seq_x hK17 ?_
      try obtain rfl := Option.some.inj h
      obtain rfl := hd13 _ rfl
      have h : (some (x5) : Option (Int)) = some (x5) := rfl
      refine lp_x hK12 ?_
      refine blk_e hK11 ?_
      exact cut_n hK10 ⟨_, (Option.some.inj h).symm, rfl, hS⟩
  · obtain ⟨x7, ey, rfl, hS⟩ := hq; obtain rfl := ey.symm
    replace h := g15
    try dsimp only at h
    refine seq_n hK3 ?_
    refine w_seq fun K24 hK24 => ?_
    refine w_reg gC ?_
    try simp only [W, Nat.reduceAdd]
    refine seq_n hK24 ?_
    refine w_ret ?_
    refine fin_r1 hK0 rfl ?_
    try obtain rfl := Option.some.inj h
    exact hP _ hS
theorem laws_FnRounds_w {a0 : List Int} {a1 : List Int} {r : (Bool)} (h : laws_FnRounds a0 a1 = some r) {F : List It} {H : Heap} (hS : Own H (F)) {P : AV → Heap → Prop} (hP : ∀ H', Own H' (F) → P (.bool r) H') : ACall C 5 [.fz (a0.map (AV.int .u8)), .fz (a1.map (AV.int .u8))] H P := by
  refine acall_of gC (res := [.tmp 4]) (n := 140) rfl rfl rfl rfl fun K0 hK0 => ?_
  simp only [W, Nat.reduceSub, Nat.reduceAdd, List.replicate]
  unfold laws_FnRounds at h
  refine w_seq fun K1 hK1 => ?_
  refine w_reg gC ?_
  try simp only [W, Nat.reduceAdd]
  refine seq_n hK1 ?_
  refine w_seq fun K2 hK2 => ?_
  refine w_seq fun K3 hK3 => ?_
  refine w_reg gC ?_
  try simp only [W, EE, Nat.reduceAdd]
  refine seq_n hK3 ?_
  refine w_if ?_
  simp only [W]
  refine w_cnd h (fun hc h => ?_) (fun hc h => ?_)
  · refine w_seq fun K4 hK4 => ?_
    refine w_reg gC ?_
    try simp only [W, Nat.reduceAdd]
    refine seq_n hK4 ?_
    refine w_ret ?_
    refine seq_r hK2 ?_
    refine fin_r1 hK0 rfl ?_
    try obtain rfl := Option.some.inj h
    exact hP _ hS
  · refine w_skip ?_
    refine seq_n hK2 ?_
    refine w_seq fun K5 hK5 => ?_
    refine w_regF (fz := [(6, [([34], [.sl [.sc], .sc])])]) gC ?_
    try simp only [W, Nat.reduceAdd, Nat.reduceBEq]
    refine w_call h fun b6 hb6 h => ?_
    obtain ⟨b7, b8⟩ := b6
    try dsimp only at h
    refine spec_DrawRoundsOf_w hb6 hS fun v9 qv9 H hS => ?_
    try simp only [W, Nat.reduceAdd, Nat.reduceBEq]
    refine w_alloc hS rfl rfl fun ip11 wp11 H hS => ?_
    try simp only [W, Nat.reduceAdd]
    refine FZ_agg rfl ?_
    refine TC_ow 1 hS rfl qv9 (fun _ _ => by simp [takeE, takeT, plainA]) fun H hS => ?_
    refine TC_sc rfl ?_
    refine TC_nil ?_
    simp only [W, frzL_map (c := (AV.int .i64)) (fun _ => rfl)]
    try simp only [W, EE, EN, reduceIte, Nat.reduceAdd, Nat.reduceLeDiff, Nat.reduceBEq, Nat.reduceMul, Bool.false_eq_true]
    refine w_stv (a := .agg [.fz (b7.Wins.map (AV.int .i64)), .int .i64 b7.Room]) (y' := .agg [.fz (b7.Wins.map (AV.int .i64)), .int .i64 b7.Room]) 0 hS rfl rfl rfl rfl rfl rfl rfl rfl fun H hS => ?_
    try simp only [W, Nat.reduceAdd, Nat.reduceBEq]
    refine seq_n hK5 ?_
    refine w_seq fun K13 hK13 => ?_
    refine w_reg gC ?_
    try simp only [W, EE, reduceIte, Nat.reduceAdd, Nat.reduceLeDiff, hS.var 0 rfl]
    refine w_call h fun b14 hb14 h => ?_
    obtain ⟨b15, b16, b17⟩ := b14
    try dsimp only at h
    refine impl_RoundsOf_w hb14 hS fun H hS => ?_
    try simp only [W]
    refine w_alloc hS rfl rfl fun ip18 wp18 H hS => ?_
    try simp only [W]
    refine w_stv (a := .agg [.fz (b15.Wins.map (AV.int .i64)), .int .i64 b15.Room]) (y' := .agg [.fz (b15.Wins.map (AV.int .i64)), .int .i64 b15.Room]) 0 hS rfl rfl rfl rfl rfl rfl rfl rfl fun H hS => ?_
    try simp only [W]
    refine seq_n hK13 ?_
    refine w_seq fun K20 hK20 => ?_
    refine w_reg gC ?_
    try simp only [W, EE, reduceIte, Nat.reduceAdd, Nat.reduceLeDiff, hS.var 1 rfl]
    refine w_call h fun b21 hb21 h => ?_
    obtain ⟨b22, b23, b24⟩ := b21
    try dsimp only at h
    refine spec_RoundsOf_w hb21 hS fun v25 qv25 H hS => ?_
    try simp only [W]
    refine w_alloc hS rfl rfl fun ip27 wp27 H hS => ?_
    try simp only [W]
    refine w_stv (a := .agg [v25, .int .i64 b22.Room]) (y' := .agg [v25, .int .i64 b22.Room]) 0 hS rfl rfl rfl rfl rfl (by simp only [storA, List.all_cons, List.all_nil, qv25.stor]; rfl) rfl rfl fun H hS => ?_
    try simp only [W]
    refine seq_n hK20 ?_
    refine w_seq fun K29 hK29 => ?_
    refine w_seq fun K30 hK30 => ?_
    obtain ⟨y32, h, g33⟩ := Option.bind_eq_some_iff.1 h
    refine w_join gC (fun s H => ∃ x31 : Bool, y32 = (x31) ∧ s = [u, .fz (a1.map (AV.int .u8)), u, u, u, .ptr ip11 wp11 0 0, u, .ptr ip18 wp18 0 0, .int .i64 b16, .bool b17, u, u, u, u, u, u, u, u, u, u, u, u, u, u, u, u, u, u, u, u, u, u, u, u, u, u, u, u, u, u, u, u, u, u, u, u, u, u, u, u, u, u, u, u, u, u, u, u, u, u, u, u, u, .bool x31, u, u, u, u, u, u, u, u, u, u, u, u, u, u, u, u, u, u, u, u, u, u, u, u, u, u, u, u, u, u, u, u, u, u, u, u, u, u, u, u, u, u, u, u, u, u, u, u, u, u, u, u, u, u, u, u, u, u, u, u, u, u, u, u, u, u, u, u, u, u, u, u, u, u, u, u] ∧ Own H (⟨.ptr ip11 wp11 0 0, 2, [.agg [.fz (b7.Wins.map (AV.int .i64)), .int .i64 b7.Room]]⟩ :: ⟨.ptr ip18 wp18 0 0, 2, [.agg [.fz (b15.Wins.map (AV.int .i64)), .int .i64 b15.Room]]⟩ :: F)) (fun K34 hK34 => ?_) (fun s H hq => ?_)
    · refine w_seq fun K35 hK35 => ?_
      refine w_reg gC ?_
      try simp only [W, EE, Nat.reduceAdd]
      rw [b_bneq _ _ _ _ (h := rfl) rfl, resV_s]
      try simp only [W]
      refine w_grdT h (fun hc h => ?_) (fun hc h => ?_)
      · try simp only [W, hc]
        refine seq_n hK35 ?_
        refine w_kill ?_
        exact cut_n hK34 ⟨_, (Option.some.inj h).symm, rfl, (hS.sel 4 [3, 2] (by decide))⟩
      · try simp only [W, EE, reduceIte, Bool.false_eq_true, hc]
        refine w_grdT h (fun hc h => ?_) (fun hc h => ?_)
        · try simp only [W, hc]
          refine seq_n hK35 ?_
          refine w_kill ?_
          exact cut_n hK34 ⟨_, (Option.some.inj h).symm, rfl, (hS.sel 4 [3, 2] (by decide))⟩
        · try simp only [W, EE, reduceIte, Nat.reduceAdd, Nat.reduceLeDiff, hS.var 2 rfl, hS.var 0 rfl, hc]
          refine w_callS (rsh := [[.sc]]) (ys := [.agg [.fz (b15.Wins.map (AV.int .i64)), .int .i64 b15.Room], .agg [.fz (b22.Wins.map (AV.int .i64)), .int .i64 b22.Room]]) h rfl (pv_c rfl (pv_c (sn_agg (sm_c (sn_ow hS 1 rfl qv25 (fun _ => rfl)) (sm_c rfl (sm_n _)))) pv_n)) fun b36 hb36 h => ⟨.bool b36, laws_sameShares_w hb36 (Own.nil _) fun H hS => TV_ok rfl (TV_p rfl (TV_n rfl)), ⟨rfl, rfl, fun _ => rfl⟩, ?_⟩
          try simp only [W, reduceIte, Bool.false_eq_true]
          refine seq_n hK35 ?_
          refine w_kill ?_
          exact cut_n hK34 ⟨_, (Option.some.inj h).symm, rfl, (hS.sel 4 [3, 2] (by decide))⟩
    · obtain ⟨x31, ey, rfl, hS⟩ := hq; obtain rfl := ey.symm
      replace h := g33
      try dsimp only at h
      refine seq_n hK30 ?_
      refine w_if ?_
      simp only [W]
      refine w_cnd h (fun hc h => ?_) (fun hc h => ?_)
      · refine w_seq fun K37 hK37 => ?_
        refine w_reg gC ?_
        try simp only [W, Nat.reduceAdd]
        refine seq_n hK37 ?_
        refine w_ret ?_
        refine seq_r hK29 ?_
        refine fin_r1 hK0 rfl ?_
        try obtain rfl := Option.some.inj h
        exact hP _ (hS.sel 2 [] (by decide))
      · refine w_skip ?_
        refine seq_n hK29 ?_
        refine w_seq fun K38 hK38 => ?_
        refine w_seq fun K39 hK39 => ?_
        refine w_reg gC ?_
        try simp only [W, Nat.reduceAdd]
        refine seq_n hK39 ?_
        obtain ⟨y40, h, g41⟩ := Option.bind_eq_some_iff.1 h
        refine w_join gC (fun s H => y40 = LR.next () ∧ s = [u, .fz (a1.map (AV.int .u8)), u, u, u, u, u, u, u, u, u, u, u, u, u, u, u, u, u, u, u, u, u, u, u, u, u, u, u, u, u, u, u, u, u, u, u, u, u, u, u, u, u, u, u, u, u, u, u, u, u, u, u, u, u, u, u, u, u, u, u, u, u, u, u, u, u, u, u, u, u, u, u, u, u, u, u, u, u, u, u, u, u, u, u, u, u, u, u, u, u, u, u, u, u, u, u, u, u, u, u, u, u, u, u, u, u, u, u, u, u, u, u, u, u, u, u, u, u, u, u, u, u, u, u, u, u, u, u, u, u, u, u, u, u, u, u, u, u, u] ∧ Own H (F)) (fun K42 hK42 => ?_) (fun s H hq => ?_)
        · refine w_seq fun K43 hK43 => ?_
          refine w_if ?_
          simp only [W]
          refine w_cnd h (fun hc h => ?_) (fun hc h => ?_)
          · refine w_seq fun K44 hK44 => ?_
            refine w_reg gC ?_
            try simp only [W, EE, reduceIte, Nat.reduceAdd, Nat.reduceLeDiff, hS.var 0 rfl]
            refine w_call h fun b45 hb45 h => ?_
            obtain ⟨b46, b47⟩ := b45
            try dsimp only at h
            refine impl_SpreadOf_w hb45 hS fun H hS => ?_
            try simp only [W]
            refine seq_n hK44 ?_
            refine w_seq fun K48 hK48 => ?_
            refine w_reg gC ?_
            try simp only [W, EE, reduceIte, Nat.reduceAdd, Nat.reduceLeDiff, hS.var 1 rfl]
            refine w_call h fun b49 hb49 h => ?_
            obtain ⟨b50, b51⟩ := b49
            try dsimp only at h
            refine impl_SpreadOf_w hb49 hS fun H hS => ?_
            try simp only [W]
            refine seq_n hK48 ?_
            refine w_seq fun K52 hK52 => ?_
            refine w_seq fun K53 hK53 => ?_
            refine w_reg gC ?_
            try simp only [W, Nat.reduceAdd]
            refine seq_n hK53 ?_
            obtain ⟨y57, hw58, g64⟩ := Option.bind_eq_some_iff.1 h
            refine w_join gC (fun s H => ∃ x56 : Int, y57 = (x56) ∧ s = [u, .fz (a1.map (AV.int .u8)), u, u, u, u, u, .ptr ip18 wp18 0 0, u, u, u, u, u, .int .i64 x56, .bool b47, .int .i64 b50, .bool b51, u, u, u, u, u, u, u, u, u, u, u, u, u, u, u, u, u, u, u, u, u, u, u, u, u, u, u, u, u, u, u, u, u, u, u, u, u, u, u, u, u, u, u, u, u, u, u, u, u, u, u, u, u, u, u, u, u, u, u, u, u, u, u, u, u, u, u, u, u, u, u, u, u, u, u, u, u, u, u, u, u, u, u, u, u, u, u, u, u, u, u, u, u, u, u, u, u, u, u, u, u, u, u, u, u, u, u, u, u, u, u, u, u, u, u, u, u, u, u, u, u, u, u] ∧ Own H (⟨.ptr ip18 wp18 0 0, 2, [.agg [.fz (b15.Wins.map (AV.int .i64)), .int .i64 b15.Room]]⟩ :: F)) (fun K59 hK59 => ?_) (fun s H hq => ?_)
            · refine w_blk fun K60 hK60 => ?_
              refine w_loop gC hw58 (fun x s H => match x with | (x54, x55) => s = [u, .fz (a1.map (AV.int .u8)), u, u, u, u, u, .ptr ip18 wp18 0 0, .int .i64 b16, u, u, u, u, .int .i64 x54, .bool b47, .int .i64 b50, .bool b51, .int .i64 x55, u, u, u, u, u, u, u, u, u, u, u, u, u, u, u, u, u, u, u, u, u, u, u, u, u, u, u, u, u, u, u, u, u, u, u, u, u, u, u, u, u, u, u, u, u, u, u, u, u, u, u, u, u, u, u, u, u, u, u, u, u, u, u, u, u, u, u, u, u, u, u, u, u, u, u, u, u, u, u, u, u, u, u, u, u, u, u, u, u, u, u, u, u, u, u, u, u, u, u, u, u, u, u, u, u, u, u, u, u, u, u, u, u, u, u, u, u, u, u, u, u, u] ∧ Own H (⟨.ptr ip18 wp18 0 0, 2, [.agg [.fz (b15.Wins.map (AV.int .i64)), .int .i64 b15.Room]]⟩ :: F)) ⟨rfl, (hS.sel 2 [1] (by decide))⟩ (fun x y63 s H h hd62 hi K61 hK61 => ?_)
              obtain ⟨x54, x55⟩ := x
              try dsimp only at hi
              obtain ⟨rfl, hS⟩ := hi
              simp only [laws_FnRounds_l0] at h
              refine w_seq fun K65 hK65 => ?_
              refine w_seq fun K66 hK66 => ?_
              refine w_reg gC ?_
              try simp only [W, EE, Nat.reduceAdd]
              refine seq_n hK66 ?_
              refine w_if ?_
              simp only [W]
              refine w_cnd h (fun hc h => ?_) (fun hc h => ?_)
              · refine w_skip ?_
                refine seq_n hK65 ?_
                refine w_seq fun K67 hK67 => ?_
                refine w_blk fun K68 hK68 => ?_
                refine w_reg gC ?_
                try simp only [W, EE, Nat.reduceAdd]
                rw [dv_lit _ _ _ rfl, Option.map_some, resV_s]
                try simp only [W]
                refine blk_n0 hK68 ?_
                refine seq_n hK67 ?_
                refine w_reg gC ?_
                try simp only [W, EE, Nat.reduceAdd]
                exact lp_n hK61 h ⟨rfl, hS⟩
              · refine w_exit ?_
                refine seq_x hK65 ?_
                try obtain rfl := Option.some.inj h
                obtain rfl := hd62 _ rfl
                have h : (some (x54) : Option (Int)) = some (x54) := rfl
                refine lp_x hK61 ?_
                refine blk_e hK60 ?_
                exact cut_n hK59 ⟨_, (Option.some.inj h).symm, rfl, hS⟩
            · obtain ⟨x56, ey, rfl, hS⟩ := hq; obtain rfl := ey.symm
              replace h := g64
              try dsimp only at h
              refine seq_n hK52 ?_
              refine w_seq fun K71 hK71 => ?_
              obtain ⟨y73, h, g74⟩ := Option.bind_eq_some_iff.1 h
              refine w_join gC (fun s H => ∃ x72 : Bool, y73 = (x72) ∧ s = [u, .fz (a1.map (AV.int .u8)), u, u, u, u, u, u, u, u, u, u, u, u, u, u, u, u, u, u, u, u, u, u, u, u, u, u, u, u, u, u, u, u, u, u, u, u, u, u, u, u, u, u, u, u, u, u, u, u, u, u, u, u, u, u, u, u, u, u, u, u, u, u, u, u, u, u, u, u, u, u, u, u, u, u, u, u, u, u, u, u, u, u, u, u, u, u, u, u, u, u, u, u, u, u, u, u, .bool x72, u, u, u, u, u, u, u, u, u, u, u, u, u, u, u, u, u, u, u, u, u, u, u, u, u, u, u, u, u, u, u, u, u, u, u, u, u, u, u, u, u] ∧ Own H (F)) (fun K75 hK75 => ?_) (fun s H hq => ?_)
              · refine w_seq fun K76 hK76 => ?_
                refine w_reg gC ?_
                try simp only [W, Nat.reduceAdd]
                refine w_grdT h (fun hc h => ?_) (fun hc h => ?_)
                · try simp only [W, hc]
                  refine seq_n hK76 ?_
                  refine w_kill ?_
                  exact cut_n hK75 ⟨_, (Option.some.inj h).symm, rfl, (hS.sel 1 [] (by decide))⟩
                · try simp only [W, reduceIte, Bool.false_eq_true, hc]
                  refine w_grdT h (fun hc h => ?_) (fun hc h => ?_)
                  · try simp only [W, hc]
                    refine seq_n hK76 ?_
                    refine w_kill ?_
                    exact cut_n hK75 ⟨_, (Option.some.inj h).symm, rfl, (hS.sel 1 [] (by decide))⟩
                  · try simp only [W, EE, reduceIte, Bool.false_eq_true, hc]
                    refine w_grdT h (fun hc h => ?_) (fun hc h => ?_)
                    · try simp only [W, hc]
                      refine seq_n hK76 ?_
                      refine w_kill ?_
                      exact cut_n hK75 ⟨_, (Option.some.inj h).symm, rfl, (hS.sel 1 [] (by decide))⟩
                    · try simp only [W, EE, reduceIte, Nat.reduceAdd, Nat.reduceLeDiff, hS.var 0 rfl, hc]
                      refine w_call h fun b77 hb77 h => ?_
                      refine impl_GoodShares_w hb77 hS fun H hS => ?_
                      try simp only [W, reduceIte, Bool.false_eq_true]
                      refine seq_n hK76 ?_
                      refine w_kill ?_
                      exact cut_n hK75 ⟨_, (Option.some.inj h).symm, rfl, (hS.sel 1 [] (by decide))⟩
              · obtain ⟨x72, ey, rfl, hS⟩ := hq; obtain rfl := ey.symm
                replace h := g74
                try dsimp only at h
                refine seq_n hK71 ?_
                refine w_if ?_
                simp only [W]
                refine w_cnd h (fun hc h => ?_) (fun hc h => ?_)
                · refine w_seq fun K78 hK78 => ?_
                  refine w_reg gC ?_
                  try simp only [W, Nat.reduceAdd]
                  refine seq_n hK78 ?_
                  refine w_ret ?_
                  refine seq_r hK43 ?_
                  try obtain rfl := Option.some.inj h
                  obtain rfl := Option.some.inj g41
                  have h : (some false : Option (Bool)) = some false := rfl
                  refine cut_r hK42 ?_
                  refine seq_r hK38 ?_
                  refine fin_r1 hK0 rfl ?_
                  try obtain rfl := Option.some.inj h
                  exact hP _ hS
                · refine w_skip ?_
                  refine seq_n hK43 ?_
                  refine w_kill ?_
                  exact cut_n hK42 ⟨(Option.some.inj h).symm, rfl, hS⟩
          · refine w_skip ?_
            refine seq_n hK43 ?_
            refine w_kill ?_
            exact cut_n hK42 ⟨(Option.some.inj h).symm, rfl, (hS.sel 2 [] (by decide))⟩
        · obtain ⟨rfl, rfl, hS⟩ := hq
          replace h := g41
          try dsimp only at h
          refine seq_n hK38 ?_
          refine w_seq fun K81 hK81 => ?_
          refine w_regF (fz := [(3, [([100], [.sl [.sc], .sc])])]) gC ?_
          try simp only [W, Nat.reduceAdd, Nat.reduceBEq]
          refine w_call h fun b82 hb82 h => ?_
          refine spec_DrawRoundOf_w hb82 hS fun v83 qv83 H hS => ?_
          try simp only [W, Nat.reduceAdd, Nat.reduceBEq]
          refine w_alloc hS rfl rfl fun ip85 wp85 H hS => ?_
          try simp only [W, Nat.reduceAdd]
          refine FZ_agg rfl ?_
          refine TC_ow 1 hS rfl qv83 (fun _ _ => by simp [takeE, takeT, plainA]) fun H hS => ?_
          refine TC_sc rfl ?_
          refine TC_nil ?_
          simp only [W, frzL_map (c := (AV.int .i64)) (fun _ => rfl)]
          try simp only [W, EE, EN, reduceIte, Nat.reduceAdd, Nat.reduceLeDiff, Nat.reduceBEq, Nat.reduceMul, Bool.false_eq_true]
          refine w_stv (a := .agg [.fz (b82.Wins.map (AV.int .i64)), .int .i64 b82.Room]) (y' := .agg [.fz (b82.Wins.map (AV.int .i64)), .int .i64 b82.Room]) 0 hS rfl rfl rfl rfl rfl rfl rfl rfl fun H hS => ?_
          try simp only [W, Nat.reduceAdd]
          refine seq_n hK81 ?_
          refine w_seq fun K87 hK87 => ?_
          refine w_reg gC ?_
          try simp only [W, EE, reduceIte, Nat.reduceAdd, Nat.reduceLeDiff, Nat.reduceBEq, hS.var 0 rfl, List.contains_cons, Nat.reduceBEq, Bool.or_self]
          refine w_call h fun b88 hb88 h => ?_
          obtain ⟨b89, b90, b91⟩ := b88
          try dsimp only at h
          refine impl_RoundOf_w hb88 hS fun v92 qv92 H hS => ?_
          try simp only [W]
          refine w_alloc hS rfl rfl fun ip94 wp94 H hS => ?_
          try simp only [W]
          refine w_stv (a := .agg [v92, .int .i64 b89.Room]) (y' := .agg [v92, .int .i64 b89.Room]) 0 hS rfl rfl rfl rfl rfl (by simp only [storA, List.all_cons, List.all_nil, qv92.stor]; rfl) rfl rfl fun H hS => ?_
          try simp only [W]
          refine seq_n hK87 ?_
          refine w_seq fun K96 hK96 => ?_
          refine w_reg gC ?_
          try simp only [W, EE, reduceIte, Nat.reduceAdd, Nat.reduceLeDiff, hS.var 2 rfl]
          refine w_call h fun b97 hb97 h => ?_
          obtain ⟨b98, b99, b100⟩ := b97
          try dsimp only at h
          refine spec_RoundOf_w hb97 hS fun H hS => ?_
          try simp only [W]
          refine w_alloc hS rfl rfl fun ip101 wp101 H hS => ?_
          try simp only [W]
          refine w_stv (a := .agg [.fz (b98.Wins.map (AV.int .i64)), .int .i64 b98.Room]) (y' := .agg [.fz (b98.Wins.map (AV.int .i64)), .int .i64 b98.Room]) 0 hS rfl rfl rfl rfl rfl rfl rfl rfl fun H hS => ?_
          try simp only [W]
          refine seq_n hK96 ?_
          refine w_seq fun K103 hK103 => ?_
          refine w_draw0 gC (by kernel_rfl) ?_
          try simp only [W, EE, Nat.reduceAdd]
          rw [b_beql _ _ _ _ (h := rfl) rfl, resV_s]
          try simp only [W]
          refine w_grdT h (fun hc h => ?_) (fun hc h => ?_)
          · try simp only [W, EE, hc]
            rw [b_beql _ _ _ _ (h := rfl) rfl, resV_s]
            try simp only [W, reduceIte]
            refine w_grdT h (fun hc h => ?_) (fun hc h => ?_)
            · try simp only [W, EE, reduceIte, Nat.reduceAdd, Nat.reduceLeDiff, hS.var 0 rfl, hS.var 1 rfl, hc]
              refine w_callS (rsh := [[.sc]]) (ys := [.agg [.fz (b89.Wins.map (AV.int .i64)), .int .i64 b89.Room], .agg [.fz (b98.Wins.map (AV.int .i64)), .int .i64 b98.Room]]) h rfl (pv_c (sn_agg (sm_c (sn_ow hS 2 rfl qv92 (fun _ => rfl)) (sm_c rfl (sm_n _)))) (pv_c rfl pv_n)) fun b104 hb104 h => ⟨.bool b104, laws_sameShares_w hb104 (Own.nil _) fun H hS => TV_ok rfl (TV_p rfl (TV_n rfl)), ⟨rfl, rfl, fun _ => rfl⟩, ?_⟩
              try simp only [W, reduceIte]
              refine w_grdT h (fun hc h => ?_) (fun hc h => ?_)
              · try simp only [W, hc]
                refine w_grdT h (fun hc h => ?_) (fun hc h => ?_)
                · try simp only [W, reduceIte, hc]
                  refine seq_n hK103 ?_
                  refine w_ret ?_
                  refine fin_r1 hK0 rfl ?_
                  try obtain rfl := Option.some.inj h
                  exact hP _ (hS.sel 4 [] (by decide))
                · try simp only [W, EE, Nat.reduceAdd, Nat.reduceBEq, hS.var 3 rfl, hc]
                  refine w_callS (rsh := [[.sc]]) (ys := [.fz (b82.Wins.map (AV.int .i64))]) h rfl (by rfl) fun b105 hb105 h => ⟨.int .i64 b105, laws_sumOf_w hb105 (Own.nil _) fun H hS => TV_ok rfl (TV_p rfl (TV_n rfl)), ⟨rfl, rfl, fun _ => rfl⟩, ?_⟩
                  try simp only [W, EE, Nat.reduceAdd, Nat.reduceBEq, hS.var 3 rfl]
                  rw [b_beql _ _ _ _ (h := rfl) rfl, resV_s]
                  try simp only [W, reduceIte, Bool.false_eq_true]
                  refine seq_n hK103 ?_
                  refine w_ret ?_
                  refine fin_r1 hK0 rfl ?_
                  try obtain rfl := Option.some.inj h
                  exact hP _ (hS.sel 4 [] (by decide))
              · try simp only [W, hc]
                refine seq_n hK103 ?_
                refine w_ret ?_
                refine fin_r1 hK0 rfl ?_
                try obtain rfl := Option.some.inj h
                exact hP _ (hS.sel 4 [] (by decide))
            · try simp only [W, hc]
              refine seq_n hK103 ?_
              refine w_ret ?_
              refine fin_r1 hK0 rfl ?_
              try obtain rfl := Option.some.inj h
              exact hP _ (hS.sel 4 [] (by decide))
          · try simp only [W, hc]
            refine seq_n hK103 ?_
            refine w_ret ?_
            refine fin_r1 hK0 rfl ?_
            try obtain rfl := Option.some.inj h
            exact hP _ (hS.sel 4 [] (by decide))
end Go.VxW
