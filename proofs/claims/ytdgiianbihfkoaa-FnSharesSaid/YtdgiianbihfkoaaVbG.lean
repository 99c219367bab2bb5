import Derived.Test.YtdgiianbihfkoaaVyGF
import Derived.Test.YtdgiianbihfkoaaProg
import Derived.Test.YtdgiianbihfkoaaVaE
import Derived.KernelRfl
open Go Go.VS
set_option maxRecDepth 8000
set_option maxHeartbeats 4000000
namespace Go.VxW
def e_Shares (x : Shares) : AV := .agg [.fz (x.Wins.map (AV.int .i64)), .int .i64 x.Room]
def e_L1Cur (x : L1Cur) : AV := .agg [.fz (x.Code.map (AV.int .u8)), .int .i64 x.At, .int .u64 x.Seed]
def E : TEnv := fun t => match t with
  | 3 => some { sz := 1, agg := false, zero := [AV.int IntKind.i64 0], bytes := 8, und := UD.it IntKind.i64, eqok := true }
  | 4 => some { sz := 1, agg := false, zero := [AV.bool false], bytes := 1, und := UD.bl, eqok := true }
  | 5 => some { sz := 1, agg := false, zero := [AV.int IntKind.u8 0], bytes := 1, und := UD.it IntKind.u8, eqok := true }
  | 22 => some { sz := 1, agg := false, zero := [AV.nil], bytes := 24, und := UD.sl 5, eqok := true }
  | 24 => some { sz := 1, agg := false, zero := [AV.nil], bytes := 24, und := UD.sl 3, eqok := true }
  | 55 => some { sz := 2, agg := true, zero := [AV.nil, AV.int IntKind.i64 0], bytes := 32, und := UD.st [(0, 24), (1, 3)], eqok := true }
  | 150 => some { sz := 1, agg := false, zero := [AV.nilp], bytes := 8, und := UD.pt, eqok := true }
  | 151 => some { sz := 1, agg := false, zero := [AV.int IntKind.u64 0], bytes := 8, und := UD.it IntKind.u64, eqok := true }
  | 153 => some { sz := 3, agg := true, zero := [AV.nil, AV.int IntKind.i64 0, AV.int IntKind.u64 0], bytes := 40, und := UD.st [(0, 22), (1, 3), (2, 151)], eqok := true }
  | 155 => some { sz := 1, agg := false, zero := [AV.undef], bytes := 8, und := UD.ot, eqok := true }
  | 156 => some { sz := 1, agg := false, zero := [AV.undef], bytes := 8, und := UD.ot, eqok := true }
  | _ => none
def pol : FuncId → FPol := fun f => match f with
  | 6 => { rsh := [[.sc]], regs := [(4, [], [1])], frz := [(12, [], some [1, 5, 6, 7, 10, 11, 12, 16, 20, 21, 136]), (14, [], some [1, 5, 6, 7, 16, 20, 21, 150]), (19, [], some [1, 16, 20, 21, 176]), (23, [], some [1, 191])], fz := [(3, [(3, [([43], [.sl [.sc], .sc])])])], cnds := [(151, [1, 16, 20, 21]), (177, [1])] }
  | 22 => { rsh := [[.sc]], loops := [(0, { keep := [0, 1, 12, 13] })], blocks := [(0, [])] }
  | 41 => { rsh := [[.sc]] }
  | 42 => { rsh := [[.sc], [.sc]] }
  | 43 => { rsh := [[.sc]] }
  | 47 => { rsh := [[.sl [.sc], .sc]] }
  | 48 => { rsh := [[.sl [.sc], .sc], [.sc]] }
  | 49 => { rsh := [[.sl [.sc], .sc], [.sc]], fz := [(3, [(2, [([9], [.sl [.sc], .sc])])]), (2, [(1, [([7], [.sl [.sc], .sc])])])] }
  | 50 => { rsh := [[.sc], [.sc], [.sc]], loops := [(0, { keep := [1, 5, 13, 14, 15] })], blocks := [(0, [1, 5])] }
  | 51 => { rsh := [[.sc], [.sc], [.sc]] }
  | 52 => { rsh := [[.sc], [.sc]] }
  | 53 => { rsh := [[.sl [.sc], .sc], [.sc]] }
  | 54 => { rsh := [[.sl [.sc], .sc], [.sc]], fz := [(3, [(2, [([9], [.sl [.sc], .sc])])]), (2, [(1, [([7], [.sl [.sc], .sc])])])] }
  | 55 => { rsh := [[.sc], [.sc]], frz := [(3, [], some [6, 7, 9, 10, 38])] }
  | 56 => { rsh := [[.sl [.sc], .sc], [.sl [.sc], .sc]], regs := [(5, [2, 3], []), (6, [2, 3, 4], [])], frz := [(4, [], some [2, 3, 4, 5, 6, 22])], fz := [(2, [(3, [([12], [.sl [.sc], .sc])])])] }
  | 57 => { rsh := [[.sc], [.sc]], frz := [(1, [], some [2, 3, 26])] }
  | 141 => { rsh := [[.sc]], cnds := [(11, [1, 5])] }
  | 142 => { rsh := [[.sc]] }
  | 143 => { rsh := [[.sc]] }
  | 145 => { rsh := [[.sc]] }
  | 147 => { rsh := [[.sc]] }
  | 150 => { rsh := [[.sc]], loops := [(0, { keep := [1, 2, 9, 10, 11] })], blocks := [(0, [])] }
  | 153 => { rsh := [[.sc]] }
  | 162 => { rsh := [[.sc]] }
  | 168 => { rsh := [[.sl [.sc], .sc]], loops := [(0, { keep := [0, 2, 3, 4] })], blocks := [(0, [0, 2, 3]), (2, [2, 3])], regs := [(5, [3, 8, 6], []), (8, [4, 6], [])], fz := [(10, [(2, [([37], [.sl [.sc]])])]), (11, [(1, [([40], [.sl [.sc], .sc])])])], cnds := [(26, [2, 3]), (34, [2, 3])] }
  | 170 => { rsh := [[.sc]] }
  | 173 => { rsh := [[.sc]], loops := [(0, { keep := [0, 3, 4] })], blocks := [(0, [3])], cnds := [(7, [0])] }
  | 174 => { rsh := [[.sc]], loops := [(0, { keep := [0, 3, 4] })], blocks := [(0, [3])], cnds := [(7, [0])] }
  | 175 => { rsh := [[.sc]] }
  | 176 => { rsh := [[.sl [.sc], .sc]] }
  | 177 => { rsh := [[.sc]], loops := [(0, { keep := [3, 6, 7, 8] })], blocks := [(0, [3])] }
  | 178 => { rsh := [[.sl [.sc], .sc], [.sc]], fz := [(2, [(1, [([7], [.sl [.sc], .sc])])])] }
  | 179 => { rsh := [[.sl [.sc], .sc], [.sc]], loops := [(0, { keep := [1, 2, 4, 6, 13, 14, 15] })], blocks := [(0, [2, 4, 6])], regs := [(5, [4, 8, 6], [])], frz := [(7, [], some [4, 6, 35])] }
  | 180 => { rsh := [[.sc]] }
  | 181 => { rsh := [[.sl [.sc], .sc]], loops := [(0, { keep := [2, 3, 10, 11, 12] })], blocks := [(0, [2, 3])] }
  | 182 => { rsh := [[.sc], [.sc]], loops := [(0, { keep := [1, 4, 5, 12, 13, 14] })], blocks := [(0, [1, 4, 5])] }
  | 183 => { rsh := [[.sc]], loops := [(0, { keep := [3, 4, 16, 17, 18] })], blocks := [(0, [3, 4])] }
  | 184 => { rsh := [[.sc]] }
  | 185 => { rsh := [[.sl [.sc], .sc]], loops := [(0, { keep := [2, 3, 10, 11, 12] })], blocks := [(0, [2, 3])], regs := [(5, [8, 6], [])] }
  | 210 => { rsh := [[.sc]] }
  | 245 => { rsh := [[.sc]], loops := [(0, { keep := [3, 6, 7, 8] })], blocks := [(0, [3])] }
  | 252 => { rsh := [[.sc]], cnds := [(13, [0, 3])] }
  | 255 => { rsh := [[.sc]], loops := [(0, { keep := [0, 1, 7, 8] })], blocks := [(0, [])] }
  | _ => {}
noncomputable def code : FuncId → Option Func := fun f => match f with
  | 6 => some Go.Proofs.Try.f6
  | 22 => some Go.Proofs.Try.f22
  | 41 => some Go.Proofs.Try.f41
  | 42 => some Go.Proofs.Try.f42
  | 43 => some Go.Proofs.Try.f43
  | 47 => some Go.Proofs.Try.f47
  | 48 => some Go.Proofs.Try.f48
  | 49 => some Go.Proofs.Try.f49
  | 50 => some Go.Proofs.Try.f50
  | 51 => some Go.Proofs.Try.f51
  | 52 => some Go.Proofs.Try.f52
  | 53 => some Go.Proofs.Try.f53
  | 54 => some Go.Proofs.Try.f54
  | 55 => some Go.Proofs.Try.f55
  | 56 => some Go.Proofs.Try.f56
  | 57 => some Go.Proofs.Try.f57
  | 141 => some Go.Proofs.Try.f141
  | 142 => some Go.Proofs.Try.f142
  | 143 => some Go.Proofs.Try.f143
  | 145 => some Go.Proofs.Try.f145
  | 147 => some Go.Proofs.Try.f147
  | 150 => some Go.Proofs.Try.f150
  | 153 => some Go.Proofs.Try.f153
  | 162 => some Go.Proofs.Try.f162
  | 168 => some Go.Proofs.Try.f168
  | 170 => some Go.Proofs.Try.f170
  | 173 => some Go.Proofs.Try.f173
  | 174 => some Go.Proofs.Try.f174
  | 175 => some Go.Proofs.Try.f175
  | 176 => some Go.Proofs.Try.f176
  | 177 => some Go.Proofs.Try.f177
  | 178 => some Go.Proofs.Try.f178
  | 179 => some Go.Proofs.Try.f179
  | 180 => some Go.Proofs.Try.f180
  | 181 => some Go.Proofs.Try.f181
  | 182 => some Go.Proofs.Try.f182
  | 183 => some Go.Proofs.Try.f183
  | 184 => some Go.Proofs.Try.f184
  | 185 => some Go.Proofs.Try.f185
  | 210 => some Go.Proofs.Try.f210
  | 245 => some Go.Proofs.Try.f245
  | 252 => some Go.Proofs.Try.f252
  | 255 => some Go.Proofs.Try.f255
  | _ => none
noncomputable def C : Ctx := ⟨E, pol, code, fun _ _ _ _ => False⟩
theorem gC : Good C := ⟨fun _ _ _ _ _ _ h => h, fun _ _ _ _ h => h.elim⟩
theorem cE : C.E = E := rfl
theorem E3 : E 3 = some { sz := 1, agg := false, zero := [AV.int IntKind.i64 0], bytes := 8, und := UD.it IntKind.i64, eqok := true } := rfl
theorem E4 : E 4 = some { sz := 1, agg := false, zero := [AV.bool false], bytes := 1, und := UD.bl, eqok := true } := rfl
theorem E5 : E 5 = some { sz := 1, agg := false, zero := [AV.int IntKind.u8 0], bytes := 1, und := UD.it IntKind.u8, eqok := true } := rfl
theorem E22 : E 22 = some { sz := 1, agg := false, zero := [AV.nil], bytes := 24, und := UD.sl 5, eqok := true } := rfl
theorem E24 : E 24 = some { sz := 1, agg := false, zero := [AV.nil], bytes := 24, und := UD.sl 3, eqok := true } := rfl
theorem E55 : E 55 = some { sz := 2, agg := true, zero := [AV.nil, AV.int IntKind.i64 0], bytes := 32, und := UD.st [(0, 24), (1, 3)], eqok := true } := rfl
theorem E150 : E 150 = some { sz := 1, agg := false, zero := [AV.nilp], bytes := 8, und := UD.pt, eqok := true } := rfl
theorem E151 : E 151 = some { sz := 1, agg := false, zero := [AV.int IntKind.u64 0], bytes := 8, und := UD.it IntKind.u64, eqok := true } := rfl
theorem E153 : E 153 = some { sz := 3, agg := true, zero := [AV.nil, AV.int IntKind.i64 0, AV.int IntKind.u64 0], bytes := 40, und := UD.st [(0, 22), (1, 3), (2, 151)], eqok := true } := rfl
theorem E155 : E 155 = some { sz := 1, agg := false, zero := [AV.undef], bytes := 8, und := UD.ot, eqok := true } := rfl
theorem E156 : E 156 = some { sz := 1, agg := false, zero := [AV.undef], bytes := 8, und := UD.ot, eqok := true } := rfl
theorem EE : type_of% (And.intro @cE <| And.intro @E3 <| And.intro @E4 <| And.intro @E5 <| And.intro @E22 <| And.intro @E24 <| And.intro @E55 <| And.intro @E150 <| And.intro @E151 <| And.intro @E153 <| And.intro @E155 @E156) := And.intro @cE <| And.intro @E3 <| And.intro @E4 <| And.intro @E5 <| And.intro @E22 <| And.intro @E24 <| And.intro @E55 <| And.intro @E150 <| And.intro @E151 <| And.intro @E153 <| And.intro @E155 @E156
theorem e_L1Cur_d (x : L1Cur) : e_L1Cur x = .agg [.fz (x.Code.map (AV.int .u8)), .int .i64 x.At, .int .u64 x.Seed] := rfl
theorem e_Shares_d (x : Shares) : e_Shares x = .agg [.fz (x.Wins.map (AV.int .i64)), .int .i64 x.Room] := rfl
theorem EN : type_of% (And.intro @e_L1Cur_d <| And.intro @e_Shares_d @killB_n) := And.intro @e_L1Cur_d <| And.intro @e_Shares_d @killB_n
theorem spec_l1Cur_next_w {a0 : L1Cur} {i0 : Nat} {w0 : Nat} {r : (Int × L1Cur)} (h : spec_l1Cur_next a0 = some r) {F : List It} {H : Heap} (hS : Own H (⟨.ptr i0 w0 0 0, 3, [.agg [.fz (a0.Code.map (AV.int .u8)), .int .i64 a0.At, .int .u64 a0.Seed]]⟩ :: F)) {P : AV → Heap → Prop} (hP : ∀ H', Own H' (⟨.ptr i0 w0 0 0, 3, [.agg [.fz (r.2.Code.map (AV.int .u8)), .int .i64 r.2.At, .int .u64 r.2.Seed]]⟩ :: F) → P (.int .i64 r.1) H') : ACall C 252 [.ptr i0 w0 0 0] H P := by
  refine acall_of gC (res := [.tmp 2]) (n := 62) rfl rfl rfl rfl fun K0 hK0 => ?_
  simp only [W, Nat.reduceSub, Nat.reduceAdd, List.replicate]
  unfold spec_l1Cur_next at h
  refine w_seq fun K1 hK1 => ?_
  refine w_reg gC ?_
  try simp only [W, Nat.reduceAdd]
  refine seq_n hK1 ?_
  refine w_seq fun K2 hK2 => ?_
  refine w_reg gC ?_
  try simp only [W, Nat.reduceAdd]
  refine seq_n hK2 ?_
  refine w_seq fun K3 hK3 => ?_
  refine w_seq fun K4 hK4 => ?_
  refine w_draw0 gC (by kernel_rfl) ?_
  try simp only [W, EE, Nat.reduceAdd, Nat.reduceBEq, hS.var 0 rfl]
  refine seq_n hK4 ?_
  obtain ⟨y6, h, g7⟩ := Option.bind_eq_some_iff.1 h
  refine w_join gC (fun s H => ∃ x5 : Int, y6 = (x5) ∧ s = [.ptr i0 w0 0 0, u, u, .int .i64 x5, u, u, u, u, u, u, u, u, u, u, u, u, u, u, u, u, u, u, u, u, u, u, u, u, u, u, u, u, u, u, u, u, u, u, u, u, u, u, u, u, u, u, u, u, u, u, u, u, u, u, u, u, u, u, u, u, u, u] ∧ Own H (⟨.ptr i0 w0 0 0, 3, [.agg [.fz (a0.Code.map (AV.int .u8)), .int .i64 a0.At, .int .u64 a0.Seed]]⟩ :: F)) (fun K8 hK8 => ?_) (fun s H hq => ?_)
  · refine w_seq fun K9 hK9 => ?_
    refine w_if ?_
    simp only [W]
    refine w_cnd h (fun hc h => ?_) (fun hc h => ?_)
    · refine w_draw0 gC (by kernel_rfl) ?_
      try simp only [W, EE, Nat.reduceAdd, Nat.reduceBEq, hS.var 0 rfl]
      refine w_fz rfl rfl rfl (fun _ => rfl) h fun b10 hb10 h => ?_
      try simp only [W, EE]
      refine seq_n hK9 ?_
      refine w_kill ?_
      exact cut_n hK8 ⟨_, (Option.some.inj h).symm, rfl, hS⟩
    · refine w_skip ?_
      refine seq_n hK9 ?_
      refine w_kill ?_
      exact cut_n hK8 ⟨_, (Option.some.inj h).symm, rfl, hS⟩
  · obtain ⟨x5, ey, rfl, hS⟩ := hq; obtain rfl := ey.symm
    replace h := g7
    try dsimp only at h
    refine seq_n hK3 ?_
    refine w_seq fun K11 hK11 => ?_
    refine w_reg gC ?_
    try simp only [W, EE, Nat.reduceAdd, Nat.reduceBEq, hS.var 0 rfl]
    refine w_stv (a := .int .i64 (IntKind.i64.wrap (a0.At + 1))) (y' := .agg [.fz (a0.Code.map (AV.int .u8)), .int .i64 (IntKind.i64.wrap (a0.At + 1)), .int .u64 a0.Seed]) 0 hS rfl rfl rfl rfl rfl rfl rfl rfl fun H hS => ?_
    try simp only [W]
    refine seq_n hK11 ?_
    refine w_seq fun K12 hK12 => ?_
    refine w_reg gC ?_
    try simp only [W, EE, Nat.reduceAdd, Nat.reduceBEq, hS.var 0 rfl]
    refine w_stv (a := .int .u64 (IntKind.u64.wrap ((IntKind.u64.wrap ((IntKind.u64.wrap (a0.Seed * 6364136223846793005)) + (IntKind.u64.wrap x5))) + 1442695040888963407))) (y' := .agg [.fz (a0.Code.map (AV.int .u8)), .int .i64 (IntKind.i64.wrap (a0.At + 1)), .int .u64 (IntKind.u64.wrap ((IntKind.u64.wrap ((IntKind.u64.wrap (a0.Seed * 6364136223846793005)) + (IntKind.u64.wrap x5))) + 1442695040888963407))]) 0 hS rfl rfl rfl rfl rfl rfl rfl rfl fun H hS => ?_
    try simp only [W]
    refine seq_n hK12 ?_
    refine w_seq fun K13 hK13 => ?_
    refine w_seq fun K14 hK14 => ?_
    refine w_draw0 gC (by kernel_rfl) ?_
    try simp only [W, EE, Nat.reduceAdd, Nat.reduceBEq, hS.var 0 rfl]
    refine seq_n hK14 ?_
    refine w_if ?_
    simp only [W]
    refine w_cnd h (fun hc h => ?_) (fun hc h => ?_)
    · refine w_seq fun K15 hK15 => ?_
      refine w_reg gC ?_
      try simp only [W, Nat.reduceAdd]
      refine seq_n hK15 ?_
      refine w_ret ?_
      refine seq_r hK13 ?_
      refine fin_r1 hK0 rfl ?_
      try obtain rfl := Option.some.inj h
      exact hP _ hS
    · refine w_skip ?_
      refine seq_n hK13 ?_
      refine w_seq fun K16 hK16 => ?_
      refine w_reg gC ?_
      try simp only [W, EE, Nat.reduceAdd, Nat.reduceBEq, hS.var 0 rfl]
      rw [sr_lit _ _ _ rfl, Option.map_some, resV_s]
      try simp only [W, EE]
      refine seq_n hK16 ?_
      refine w_ret ?_
      refine fin_r1 hK0 rfl ?_
      try obtain rfl := Option.some.inj h
      exact hP _ hS
theorem spec_l1Cur_pick_w {a0 : L1Cur} {a1 : Int} {i0 : Nat} {w0 : Nat} {r : (Int × L1Cur)} (h : spec_l1Cur_pick a0 a1 = some r) {F : List It} {H : Heap} (hS : Own H (⟨.ptr i0 w0 0 0, 3, [.agg [.fz (a0.Code.map (AV.int .u8)), .int .i64 a0.At, .int .u64 a0.Seed]]⟩ :: F)) {P : AV → Heap → Prop} (hP : ∀ H', Own H' (⟨.ptr i0 w0 0 0, 3, [.agg [.fz (r.2.Code.map (AV.int .u8)), .int .i64 r.2.At, .int .u64 r.2.Seed]]⟩ :: F) → P (.int .i64 r.1) H') : ACall C 141 [.ptr i0 w0 0 0, .int .i64 a1] H P := by
  refine acall_of gC (res := [.tmp 4]) (n := 20) rfl rfl rfl rfl fun K0 hK0 => ?_
  simp only [W, Nat.reduceSub, Nat.reduceAdd, List.replicate]
  unfold spec_l1Cur_pick at h
  refine w_seq fun K1 hK1 => ?_
  refine w_reg gC ?_
  try simp only [W, Nat.reduceAdd]
  refine seq_n hK1 ?_
  refine w_seq fun K2 hK2 => ?_
  refine w_seq fun K3 hK3 => ?_
  refine w_reg gC ?_
  try simp only [W, EE, Nat.reduceAdd]
  refine seq_n hK3 ?_
  refine w_if ?_
  simp only [W]
  refine w_cnd h (fun hc h => ?_) (fun hc h => ?_)
  · refine w_seq fun K4 hK4 => ?_
    refine w_reg gC ?_
    try simp only [W, Nat.reduceAdd]
    refine seq_n hK4 ?_
    refine w_ret ?_
    refine seq_r hK2 ?_
    refine fin_r1 hK0 rfl ?_
    try obtain rfl := Option.some.inj h
    exact hP _ hS
  · refine w_skip ?_
    refine seq_n hK2 ?_
    refine w_seq fun K5 hK5 => ?_
    refine w_reg gC ?_
    try simp only [W, Nat.reduceAdd]
    refine w_call h fun b6 hb6 h => ?_
    obtain ⟨b7, b8⟩ := b6
    try dsimp only at h
    refine spec_l1Cur_next_w hb6 hS fun H hS => ?_
    try simp only [W]
    refine seq_n hK5 ?_
    refine w_seq fun K9 hK9 => ?_
    refine w_seq fun K10 hK10 => ?_
    refine w_reg gC ?_
    try simp only [W, EE, Nat.reduceAdd]
    refine seq_n hK10 ?_
    obtain ⟨y15, h, g16⟩ := Option.bind_eq_some_iff.1 h
    refine w_join gC (fun s H => ∃ x11 : Int, ∃ x12 : List Int, ∃ x13 : Int, ∃ x14 : Int, y15 = (x11, x12, x13, x14) ∧ s = [u, .int .i64 a1, u, u, u, .int .i64 x11, u, u, u, u, u, u, u, u, u, u, u, u, u, u] ∧ Own H (⟨.ptr i0 w0 0 0, 3, [.agg [.fz (x12.map (AV.int .u8)), .int .i64 x13, .int .u64 x14]]⟩ :: F)) (fun K17 hK17 => ?_) (fun s H hq => ?_)
    · refine w_seq fun K18 hK18 => ?_
      refine w_if ?_
      simp only [W]
      refine w_cnd h (fun hc h => ?_) (fun hc h => ?_)
      · refine w_reg gC ?_
        try simp only [W, EE, Nat.reduceAdd]
        refine w_call h fun b19 hb19 h => ?_
        obtain ⟨b20, b21⟩ := b19
        try dsimp only at h
        refine spec_l1Cur_next_w hb19 hS fun H hS => ?_
        try simp only [W, EE]
        refine seq_n hK18 ?_
        refine w_kill ?_
        exact cut_n hK17 ⟨_, _, _, _, (Option.some.inj h).symm, rfl, hS⟩
      · refine w_skip ?_
        refine seq_n hK18 ?_
        refine w_kill ?_
        exact cut_n hK17 ⟨_, _, _, _, (Option.some.inj h).symm, rfl, hS⟩
    · obtain ⟨x11, x12, x13, x14, rfl, rfl, hS⟩ := hq
      replace h := g16
      try dsimp only at h
      refine seq_n hK9 ?_
      refine w_seq fun K22 hK22 => ?_
      refine w_reg gC ?_
      try simp only [W, EE, Nat.reduceAdd]
      refine w_num _ h fun x23 hx23 h => ?_
      try simp only [W]
      refine seq_n hK22 ?_
      refine w_ret ?_
      refine fin_r1 hK0 rfl ?_
      try obtain rfl := Option.some.inj h
      exact hP _ hS
theorem spec_l1Cur_among_w {a0 : L1Cur} {a1 : List Int} {i0 : Nat} {w0 : Nat} {r : (Int × L1Cur)} (h : spec_l1Cur_among a0 a1 = some r) {F : List It} {H : Heap} (hS : Own H (⟨.ptr i0 w0 0 0, 3, [.agg [.fz (a0.Code.map (AV.int .u8)), .int .i64 a0.At, .int .u64 a0.Seed]]⟩ :: F)) {P : AV → Heap → Prop} (hP : ∀ H', Own H' (⟨.ptr i0 w0 0 0, 3, [.agg [.fz (r.2.Code.map (AV.int .u8)), .int .i64 r.2.At, .int .u64 r.2.Seed]]⟩ :: F) → P (.int .i64 r.1) H') : ACall C 143 [.ptr i0 w0 0 0, .fz (a1.map (AV.int .i64))] H P := by
  refine acall_of gC (res := [.tmp 4]) (n := 12) rfl rfl rfl rfl fun K0 hK0 => ?_
  simp only [W, Nat.reduceSub, Nat.reduceAdd, List.replicate]
  unfold spec_l1Cur_among at h
  refine w_seq fun K1 hK1 => ?_
  refine w_reg gC ?_
  try simp only [W, Nat.reduceAdd]
  refine seq_n hK1 ?_
  refine w_seq fun K2 hK2 => ?_
  refine w_reg gC ?_
  try simp only [W, EE, Nat.reduceAdd]
  refine w_call h fun b3 hb3 h => ?_
  obtain ⟨b4, b5⟩ := b3
  try dsimp only at h
  refine spec_l1Cur_pick_w hb3 hS fun H hS => ?_
  try simp only [W, EE]
  refine w_fz rfl rfl rfl (fun _ => rfl) h fun b6 hb6 h => ?_
  try simp only [W, EE]
  refine seq_n hK2 ?_
  refine w_ret ?_
  refine fin_r1 hK0 rfl ?_
  try obtain rfl := Option.some.inj h
  exact hP _ hS
theorem spec_l1Cur_among_w_1_0 {a0 : L1Cur} {a1 : List Int} {i0 : Nat} {w0 : Nat} {m10 : AV} {r : (Int × L1Cur)} (h : spec_l1Cur_among a0 a1 = some r) {F : List It} {H : Heap} (hS : Own H (⟨.ptr i0 w0 0 0, 3, [.agg [.fz (a0.Code.map (AV.int .u8)), .int .i64 a0.At, .int .u64 a0.Seed]]⟩ :: ⟨m10, 1, a1.map (AV.int .i64)⟩ :: F)) (qm10 : isSl m10) {P : AV → Heap → Prop} (hP : ∀ H', Own H' (⟨.ptr i0 w0 0 0, 3, [.agg [.fz (r.2.Code.map (AV.int .u8)), .int .i64 r.2.At, .int .u64 r.2.Seed]]⟩ :: ⟨m10, 1, a1.map (AV.int .i64)⟩ :: F) → P (.int .i64 r.1) H') : ACall C 143 [.ptr i0 w0 0 0, m10] H P := by
  refine acall_of gC (res := [.tmp 4]) (n := 12) rfl rfl rfl rfl fun K0 hK0 => ?_
  simp only [W, Nat.reduceSub, Nat.reduceAdd, List.replicate]
  unfold spec_l1Cur_among at h
  refine w_seq fun K1 hK1 => ?_
  refine w_reg gC ?_
  try simp only [W, Nat.reduceAdd]
  refine seq_n hK1 ?_
  refine w_seq fun K2 hK2 => ?_
  refine w_reg gC ?_
  try simp only [W, EE, Nat.reduceAdd]
  refine w_len 1 hS rfl qm10 rfl ?_
  try simp only [W]
  refine w_call h fun b3 hb3 h => ?_
  obtain ⟨b4, b5⟩ := b3
  try dsimp only at h
  refine spec_l1Cur_pick_w hb3 hS fun H hS => ?_
  try simp only [W, EE]
  refine w_ow 1 hS rfl rfl rfl rfl rfl h (fun b6 in7 wn7 on7 hb6 h en7 => ?_) qm10.ne
  obtain ⟨kn7, hbn7, hen7⟩ := hS.elem 1 rfl en7 hb6
  try simp only [W, EE, hbn7, hen7]
  refine seq_n hK2 ?_
  refine w_ret ?_
  refine fin_r1 hK0 rfl ?_
  try obtain rfl := Option.some.inj h
  exact hP _ hS
theorem spec_l1Cur_shares_w {a0 : L1Cur} {i0 : Nat} {w0 : Nat} {r : (Shares × L1Cur)} (h : spec_l1Cur_shares a0 = some r) {F : List It} {H : Heap} (hS : Own H (⟨.ptr i0 w0 0 0, 3, [.agg [.fz (a0.Code.map (AV.int .u8)), .int .i64 a0.At, .int .u64 a0.Seed]]⟩ :: F)) {P : AV → Heap → Prop} (hP : ∀ H', Own H' (⟨.ptr i0 w0 0 0, 3, [.agg [.fz (r.2.Code.map (AV.int .u8)), .int .i64 r.2.At, .int .u64 r.2.Seed]]⟩ :: F) → P (.agg [.fz (r.1.Wins.map (AV.int .i64)), .int .i64 r.1.Room]) H') : ACall C 168 [.ptr i0 w0 0 0] H P := by
  refine acall_of gC (res := [.cell 2 55]) (n := 41) rfl rfl rfl rfl fun K0 hK0 => ?_
  simp only [W, Nat.reduceSub, Nat.reduceAdd, List.replicate]
  unfold spec_l1Cur_shares at h
  refine w_seq fun K1 hK1 => ?_
  refine w_reg gC ?_
  try simp only [W, Nat.reduceAdd]
  refine w_alloc hS rfl rfl fun ip2 wp2 H hS => ?_
  try simp only [W]
  refine seq_n hK1 ?_
  refine w_seq fun K4 hK4 => ?_
  refine w_reg gC ?_
  try simp only [W, Nat.reduceAdd]
  refine w_call h fun b5 hb5 h => ?_
  obtain ⟨b6, b7⟩ := b5
  try dsimp only at h
  refine spec_l1Cur_pick_w hb5 (hS.sel 2 [1, 0] (by decide)) fun H hS => ?_
  try simp only [W, EE]
  refine w_bld rfl rfl rfl rfl rfl ?_
  try simp only [W]
  refine w_alloc hS rfl rfl fun ip8 wp8 H hS => ?_
  try simp only [W]
  refine w_stv (a := .agg [.nil, .int .i64 (IntKind.i64.wrap (1 + b6))]) (y' := .agg [.nil, .int .i64 (IntKind.i64.wrap (1 + b6))]) 0 hS rfl rfl rfl rfl rfl rfl rfl rfl fun H hS => ?_
  try simp only [W]
  refine seq_n hK4 ?_
  refine w_seq fun K10 hK10 => ?_
  refine w_seq fun K11 hK11 => ?_
  refine w_reg gC ?_
  try simp only [W, Nat.reduceAdd]
  refine w_call h fun b12 hb12 h => ?_
  obtain ⟨b13, b14⟩ := b12
  try dsimp only at h
  refine spec_l1Cur_pick_w hb12 (hS.sel 3 [1, 0, 2] (by decide)) fun H hS => ?_
  try simp only [W, EE]
  refine seq_n hK11 ?_
  obtain ⟨y27, hw28, g34⟩ := Option.bind_eq_some_iff.1 h
  refine w_join gC (fun s H => ∃ x22 : List Int, ∃ x23 : Int, ∃ x24 : Int, ∃ x25 : List Int, y27 = (x22, x23, x24, x25) ∧ ∃ v26 : AV, isSl v26 ∧ s = [.ptr i0 w0 0 0, u, .ptr ip2 wp2 0 0, .ptr ip8 wp8 0 0, u, u, u, u, u, u, u, u, u, u, u, u, u, u, u, u, u, u, u, u, u, u, u, u, u, u, u, u, u, u, u, u, u, u, u, u, u] ∧ Own H (⟨v26, 1, x25.map (AV.int .i64)⟩ :: ⟨.ptr i0 w0 0 0, 3, [.agg [.fz (x22.map (AV.int .u8)), .int .i64 x23, .int .u64 x24]]⟩ :: ⟨.ptr ip2 wp2 0 0, 2, [.agg [.nil, .int .i64 0]]⟩ :: ⟨.ptr ip8 wp8 0 0, 2, [.agg [v26, .int .i64 (IntKind.i64.wrap (1 + b6))]]⟩ :: F)) (fun K29 hK29 => ?_) (fun s H hq => ?_)
  · refine w_blk fun K30 hK30 => ?_
    refine w_loop gC hw28 (fun x s H => match x with | (x15, x16, x17, x18, x19) => ∃ v20 : AV, isSl v20 ∧ s = [.ptr i0 w0 0 0, u, .ptr ip2 wp2 0 0, .ptr ip8 wp8 0 0, .int .i64 x15, u, u, u, u, u, u, u, u, u, u, u, u, u, u, u, u, u, u, u, u, u, u, u, u, u, u, u, u, u, u, u, u, u, u, u, u] ∧ Own H (⟨v20, 1, x19.map (AV.int .i64)⟩ :: ⟨.ptr i0 w0 0 0, 3, [.agg [.fz (x16.map (AV.int .u8)), .int .i64 x17, .int .u64 x18]]⟩ :: ⟨.ptr ip2 wp2 0 0, 2, [.agg [.nil, .int .i64 0]]⟩ :: ⟨.ptr ip8 wp8 0 0, 2, [.agg [v20, .int .i64 (IntKind.i64.wrap (1 + b6))]]⟩ :: F)) ⟨_, isSl_nil, rfl, ((hS.nil_ 1).sel 4 [0, 1, 3, 2] (by decide))⟩ (fun x y33 s H h hd32 hi K31 hK31 => ?_)
    obtain ⟨x15, x16, x17, x18, x19⟩ := x
    try dsimp only at hi
    obtain ⟨v20, qv20, rfl, hS⟩ := hi
    simp only [spec_l1Cur_shares_l0] at h
    refine w_seq fun K35 hK35 => ?_
    refine w_seq fun K36 hK36 => ?_
    refine w_reg gC ?_
    try simp only [W, EE, Nat.reduceAdd]
    refine seq_n hK36 ?_
    refine w_if ?_
    simp only [W]
    refine w_cnd h (fun hc h => ?_) (fun hc h => ?_)
    · refine w_skip ?_
      refine seq_n hK35 ?_
      refine w_seq fun K37 hK37 => ?_
      refine w_blk fun K38 hK38 => ?_
      refine w_drawL gC [(3, [0, 1]), (8, []), (6, [])] (by kernel_rfl) rfl (by kernel_rfl) ?_
      try simp only [W, EE, reduceIte, Nat.reduceAdd, Nat.reduceBEq, hS.var 3 rfl, tabAt, qAt, Nat.reduceEqDiff]
      refine w_call h fun b39 hb39 h => ?_
      obtain ⟨b40, b41⟩ := b39
      try dsimp only at h
      refine spec_l1Cur_pick_w hb39 (hS.sel 4 [1, 0, 2, 3] (by decide)) fun H hS => ?_
      refine goK_late ?_
      refine lateG_s (by first | rfl | (simp [evalOp, W, EE, hS.var 3 rfl]; done)) ?_
      refine lateG_s (by first | rfl | (simp [evalOp, W, EE, rdAt, mkT, subL, AV.cells, hS.var 3 rfl]; done)) ?_
      refine lateG_n ?_
      try simp only [W, EE]
      refine w_lit (el := ([(IntKind.i64.wrap (1 + b40))] : List Int).map (AV.int .i64)) hS rfl rfl rfl rfl rfl rfl rfl fun v42 H qv42 hS => ?_
      try simp only [W, EE]
      refine w_appV (l := x19) (c := (AV.int .i64)) 2 hS rfl qv20 rfl rfl rfl (hS.elems 0 rfl qv42) (fun _ => rfl) rfl h fun v45 H x44 qv45 hm h hS => ?_
      try simp only [W, EE, Nat.reduceAdd, Nat.reduceBEq, hS.var 4 rfl]
      refine w_stv (a := v45) (y' := .agg [v45, .int .i64 (IntKind.i64.wrap (1 + b6))]) 4 hS rfl rfl rfl rfl (by rw [qv45.cells]; rfl) qv45.stora (qv45.wr _ _ (by simp)) rfl fun H hS => ?_
      try simp only [W]
      refine blk_n0 hK38 ?_
      refine seq_n hK37 ?_
      refine w_reg gC ?_
      try simp only [W, EE, Nat.reduceAdd]
      exact lp_n hK31 h ⟨_, qv45, rfl, (hS.sel 5 [2, 1, 3, 4] (by decide))⟩
    · refine w_exit ?_
      refine seq_x hK35 ?_
      try obtain rfl := Option.some.inj h
      obtain rfl := hd32 _ rfl
      have h : (some (x16, x17, x18, x19) : Option ((List Int) × Int × Int × (List Int))) = some (x16, x17, x18, x19) := rfl
      refine lp_x hK31 ?_
      refine blk_e hK30 ?_
      exact cut_n hK29 ⟨_, _, _, _, (Option.some.inj h).symm, _, qv20, rfl, hS⟩
  · obtain ⟨x22, x23, x24, x25, rfl, v26, qv26, rfl, hS⟩ := hq
    replace h := g34
    try dsimp only at h
    refine seq_n hK10 ?_
    refine w_seq fun K49 hK49 => ?_
    refine w_seq fun K50 hK50 => ?_
    refine w_reg gC ?_
    try simp only [W, Nat.reduceAdd]
    refine w_call h fun b51 hb51 h => ?_
    obtain ⟨b52, b53⟩ := b51
    try dsimp only at h
    refine spec_l1Cur_pick_w hb51 (hS.sel 4 [1, 0, 2, 3] (by decide)) fun H hS => ?_
    try simp only [W]
    refine seq_n hK50 ?_
    obtain ⟨y60, h, g61⟩ := Option.bind_eq_some_iff.1 h
    refine w_join gC (fun s H => ∃ x55 : List Int, ∃ x56 : Int, ∃ x57 : Int, ∃ x58 : List Int, ∃ x59 : Int, y60 = (x55, x56, x57, x58, x59) ∧ s = [u, u, .ptr ip2 wp2 0 0, .ptr ip8 wp8 0 0, u, u, u, u, u, u, u, u, u, u, u, u, u, u, u, u, u, u, u, u, u, u, u, u, u, u, u, u, u, u, u, u, u, u, u, u, u] ∧ Own H (⟨v26, 1, x58.map (AV.int .i64)⟩ :: ⟨.ptr i0 w0 0 0, 3, [.agg [.fz (x55.map (AV.int .u8)), .int .i64 x56, .int .u64 x57]]⟩ :: ⟨.ptr ip2 wp2 0 0, 2, [.agg [.nil, .int .i64 0]]⟩ :: ⟨.ptr ip8 wp8 0 0, 2, [.agg [v26, .int .i64 x59]]⟩ :: F)) (fun K62 hK62 => ?_) (fun s H hq => ?_)
    · refine w_blk fun K54 hK54 => ?_
      refine w_seq fun K63 hK63 => ?_
      refine w_reg gC ?_
      try simp only [W, EE, Nat.reduceAdd]
      refine seq_n hK63 ?_
      obtain ⟨y69, h, g70⟩ := Option.bind_eq_some_iff.1 h
      refine w_join gC (fun s H => ∃ x64 : List Int, ∃ x65 : Int, ∃ x66 : Int, ∃ x67 : List Int, ∃ x68 : Int, y69 = (x64, x65, x66, x67, x68) ∧ s = [u, u, .ptr ip2 wp2 0 0, .ptr ip8 wp8 0 0, u, u, u, u, u, u, u, u, u, u, u, u, u, u, u, u, u, u, u, u, u, u, u, u, u, u, u, u, u, u, u, u, u, u, u, u, u] ∧ Own H (⟨v26, 1, x67.map (AV.int .i64)⟩ :: ⟨.ptr i0 w0 0 0, 3, [.agg [.fz (x64.map (AV.int .u8)), .int .i64 x65, .int .u64 x66]]⟩ :: ⟨.ptr ip2 wp2 0 0, 2, [.agg [.nil, .int .i64 0]]⟩ :: ⟨.ptr ip8 wp8 0 0, 2, [.agg [v26, .int .i64 x68]]⟩ :: F)) (fun K71 hK71 => ?_) (fun s H hq => ?_)
      · refine w_seq fun K72 hK72 => ?_
        refine w_if ?_
        simp only [W]
        refine w_cnd h (fun hc h => ?_) (fun hc h => ?_)
        · refine w_drawL gC [(4, [0, 1]), (6, [])] (by kernel_rfl) rfl (by kernel_rfl) ?_
          try simp only [W, EE, reduceIte, Nat.reduceAdd, Nat.reduceBEq, hS.var 3 rfl, tabAt, qAt, Nat.reduceEqDiff]
          refine w_lit (el := ([0, 10000, 10001] : List Int).map (AV.int .i64)) hS rfl rfl rfl rfl rfl rfl rfl fun v73 H qv73 hS => ?_
          try simp only [W]
          refine w_call h fun b75 hb75 h => ?_
          obtain ⟨b76, b77⟩ := b75
          try dsimp only at h
          refine spec_l1Cur_among_w_1_0 hb75 (hS.sel 5 [1, 0, 2, 3, 4] (by decide)) qv73 fun H hS => ?_
          refine goK_late ?_
          refine lateG_s (by first | rfl | (simp [evalOp, W, EE, hS.var 4 rfl]; done)) ?_
          refine lateG_s (by first | rfl | (simp [evalOp, W, EE, rdAt, mkT, subL, AV.cells, hS.var 4 rfl]; done)) ?_
          refine lateG_n ?_
          try simp only [W, EE]
          refine w_ow 2 hS rfl rfl rfl rfl rfl h (fun b78 in79 wn79 on79 hb78 h en79 => ?_) qv26.ne
          obtain ⟨kn79, hbn79, hen79⟩ := hS.elem 2 rfl en79 hb78
          try simp only [W]
          refine w_ste (a := .int .i64 b76) (y' := b76) 2 hS rfl en79 hb78 rfl rfl rfl rfl rfl rfl rfl fun H hS => ?_
          try simp only [W]
          refine seq_n hK72 ?_
          refine w_kill ?_
          exact cut_n hK71 ⟨_, _, _, _, _, (Option.some.inj h).symm, rfl, (hS.sel 5 [2, 0, 3, 4] (by decide))⟩
        · refine w_seq fun K80 hK80 => ?_
          refine w_reg gC ?_
          try simp only [W, EE, Nat.reduceAdd]
          refine seq_n hK80 ?_
          obtain ⟨y85, h, g86⟩ := Option.bind_eq_some_iff.1 h
          refine w_join gC (fun s H => ∃ x81 : List Int, ∃ x82 : Int, ∃ x83 : Int, ∃ x84 : Int, y85 = (x81, x82, x83, x84) ∧ s = [u, u, .ptr ip2 wp2 0 0, .ptr ip8 wp8 0 0, u, u, u, u, u, u, u, u, u, u, u, u, u, u, u, u, u, u, u, u, u, u, u, u, u, u, u, u, u, u, u, u, u, u, u, u, u] ∧ Own H (⟨v26, 1, x25.map (AV.int .i64)⟩ :: ⟨.ptr i0 w0 0 0, 3, [.agg [.fz (x81.map (AV.int .u8)), .int .i64 x82, .int .u64 x83]]⟩ :: ⟨.ptr ip2 wp2 0 0, 2, [.agg [.nil, .int .i64 0]]⟩ :: ⟨.ptr ip8 wp8 0 0, 2, [.agg [v26, .int .i64 x84]]⟩ :: F)) (fun K87 hK87 => ?_) (fun s H hq => ?_)
          · refine w_seq fun K88 hK88 => ?_
            refine w_if ?_
            simp only [W]
            refine w_cnd h (fun hc h => ?_) (fun hc h => ?_)
            · refine w_regF (fz := [(2, [([37], [.sl [.sc]])])]) gC ?_
              try simp only [W, Nat.reduceAdd, Nat.reduceBEq]
              refine w_lit (el := ([0, 40000, 40001] : List Int).map (AV.int .i64)) hS rfl rfl rfl rfl rfl rfl rfl fun v89 H qv89 hS => ?_
              try simp only [W, Nat.reduceAdd]
              refine FZ_own 0 hS rfl qv89 rfl (fun _ _ => by simp [takeE, takeT, plainA]) (fun _ => rfl) fun H hsame hS => ?_
              try simp only [W]
              refine w_call h fun b91 hb91 h => ?_
              obtain ⟨b92, b93⟩ := b91
              try dsimp only at h
              refine spec_l1Cur_among_w hb91 hS fun H hS => ?_
              try simp only [W, EE, Nat.reduceAdd, Nat.reduceBEq, hS.var 3 rfl]
              refine w_stv (a := .int .i64 b92) (y' := .agg [v26, .int .i64 b92]) 3 hS rfl rfl rfl rfl rfl rfl rfl rfl fun H hS => ?_
              try simp only [W, Nat.reduceAdd]
              refine seq_n hK88 ?_
              refine w_kill ?_
              exact cut_n hK87 ⟨_, _, _, _, (Option.some.inj h).symm, rfl, (hS.sel 4 [1, 0, 2, 3] (by decide))⟩
            · refine w_skip ?_
              refine seq_n hK88 ?_
              refine w_kill ?_
              exact cut_n hK87 ⟨_, _, _, _, (Option.some.inj h).symm, rfl, (hS.sel 4 [1, 0, 2, 3] (by decide))⟩
          · obtain ⟨x81, x82, x83, x84, rfl, rfl, hS⟩ := hq
            replace h := g86
            try dsimp only at h
            refine seq_n hK72 ?_
            refine w_kill ?_
            exact cut_n hK71 ⟨_, _, _, _, _, (Option.some.inj h).symm, rfl, hS⟩
      · obtain ⟨x64, x65, x66, x67, x68, rfl, rfl, hS⟩ := hq
        replace h := g70
        try dsimp only at h
        refine blk_n hK54 ?_
        exact cut_n hK62 ⟨_, _, _, _, _, (Option.some.inj h).symm, rfl, hS⟩
    · obtain ⟨x55, x56, x57, x58, x59, rfl, rfl, hS⟩ := hq
      replace h := g61
      try dsimp only at h
      refine seq_n hK49 ?_
      refine w_seq fun K94 hK94 => ?_
      refine w_regF (fz := [(1, [([40], [.sl [.sc], .sc])])]) gC ?_
      try simp only [W, EE, reduceIte, Nat.reduceAdd, Nat.reduceLeDiff, Nat.reduceBEq, hS.var 3 rfl]
      refine FZ_agg rfl ?_
      refine TC_ow 0 hS rfl qv26 (fun _ _ => by simp [takeE, takeT, plainA]) fun H hS => ?_
      refine TC_sc rfl ?_
      refine TC_nil ?_
      simp only [W, frzL_map (c := (AV.int .i64)) (fun _ => rfl)]
      try simp only [W, EE, EN, reduceIte, Nat.reduceAdd, Nat.reduceLeDiff, Nat.reduceBEq, Nat.reduceMul, Bool.false_eq_true]
      refine w_stv (a := .agg [.fz (x58.map (AV.int .i64)), .int .i64 x59]) (y' := .agg [.fz (x58.map (AV.int .i64)), .int .i64 x59]) 1 hS rfl rfl rfl rfl rfl rfl rfl rfl fun H hS => ?_
      try simp only [W, Nat.reduceAdd]
      refine seq_n hK94 ?_
      refine w_ret ?_
      refine fin_r hK0 (res_c rfl rfl (hS.var 1 rfl) rfl rfl) ?_
      try obtain rfl := Option.some.inj h
      exact hP _ (hS.sel 3 [0] (by decide))
theorem spec_DrawGoodShares_w {a0 : List Int} {r : (Shares)} (h : spec_DrawGoodShares a0 = some r) {F : List It} {H : Heap} (hS : Own H (F)) {P : AV → Heap → Prop} (hP : ∀ H', Own H' (F) → P (.agg [.fz (r.Wins.map (AV.int .i64)), .int .i64 r.Room]) H') : ACall C 176 [.fz (a0.map (AV.int .u8))] H P := by
  refine acall_of gC (res := [.cell 2 55]) (n := 9) rfl rfl rfl rfl fun K0 hK0 => ?_
  simp only [W, Nat.reduceSub, Nat.reduceAdd, List.replicate]
  unfold spec_DrawGoodShares at h
  refine w_seq fun K1 hK1 => ?_
  refine w_reg gC ?_
  try simp only [W, Nat.reduceAdd]
  refine w_alloc hS rfl rfl fun ip2 wp2 H hS => ?_
  try simp only [W]
  refine seq_n hK1 ?_
  refine w_seq fun K4 hK4 => ?_
  refine w_reg gC ?_
  try simp only [W, EE, Nat.reduceAdd]
  refine w_bld rfl rfl rfl rfl rfl ?_
  try simp only [W]
  refine w_box hS rfl rfl rfl rfl fun ip5 wp5 H hS => ?_
  try simp only [W]
  refine seq_n hK4 ?_
  refine w_seq fun K7 hK7 => ?_
  refine w_reg gC ?_
  try simp only [W, Nat.reduceAdd]
  refine w_call h fun b8 hb8 h => ?_
  obtain ⟨b9, b10⟩ := b8
  try dsimp only at h
  refine spec_l1Cur_shares_w hb8 hS fun H hS => ?_
  try simp only [W]
  refine w_stv (a := .agg [.fz (b9.Wins.map (AV.int .i64)), .int .i64 b9.Room]) (y' := .agg [.fz (b9.Wins.map (AV.int .i64)), .int .i64 b9.Room]) 1 hS rfl rfl rfl rfl rfl rfl rfl rfl fun H hS => ?_
  try simp only [W]
  refine seq_n hK7 ?_
  refine w_ret ?_
  refine fin_r hK0 (res_c rfl rfl (hS.var 1 rfl) rfl rfl) ?_
  try obtain rfl := Option.some.inj h
  exact hP _ (hS.sel 2 [] (by decide))
theorem spec_DrawGrowAll_w {a0 : List Int} {r : (Shares)} (h : spec_DrawGrowAll a0 = some r) {F : List It} {H : Heap} (hS : Own H (F)) {P : AV → Heap → Prop} (hP : ∀ H', Own H' (F) → P (.agg [.fz (r.Wins.map (AV.int .i64)), .int .i64 r.Room]) H') : ACall C 47 [.fz (a0.map (AV.int .u8))] H P := by
  refine acall_of gC (res := [.cell 2 55]) (n := 5) rfl rfl rfl rfl fun K0 hK0 => ?_
  simp only [W, Nat.reduceSub, Nat.reduceAdd, List.replicate]
  unfold spec_DrawGrowAll at h
  refine w_seq fun K1 hK1 => ?_
  refine w_reg gC ?_
  try simp only [W, Nat.reduceAdd]
  refine w_alloc hS rfl rfl fun ip2 wp2 H hS => ?_
  try simp only [W]
  refine seq_n hK1 ?_
  refine w_seq fun K4 hK4 => ?_
  refine w_reg gC ?_
  try simp only [W, Nat.reduceAdd]
  refine w_call h fun b5 hb5 h => ?_
  refine spec_DrawGoodShares_w hb5 hS fun H hS => ?_
  try simp only [W]
  refine w_stv (a := .agg [.fz (b5.Wins.map (AV.int .i64)), .int .i64 b5.Room]) (y' := .agg [.fz (b5.Wins.map (AV.int .i64)), .int .i64 b5.Room]) 0 hS rfl rfl rfl rfl rfl rfl rfl rfl fun H hS => ?_
  try simp only [W]
  refine seq_n hK4 ?_
  refine w_ret ?_
  refine fin_r hK0 (res_c rfl rfl (hS.var 0 rfl) rfl rfl) ?_
  try obtain rfl := Option.some.inj h
  exact hP _ (hS.sel 1 [] (by decide))
theorem impl_in_w {a0 : Int} {a1 : Int} {a2 : Int} {r : (Bool)} (h : impl_in a0 a1 a2 = some r) {F : List It} {H : Heap} (hS : Own H (F)) {P : AV → Heap → Prop} (hP : ∀ H', Own H' (F) → P (.bool r) H') : ACall C 147 [.int .i64 a0, .int .i64 a1, .int .i64 a2] H P := by
  refine acall_of gC (res := [.tmp 6]) (n := 15) rfl rfl rfl rfl fun K0 hK0 => ?_
  simp only [W, Nat.reduceSub, Nat.reduceAdd, List.replicate]
  unfold impl_in at h
  refine w_seq fun K1 hK1 => ?_
  refine w_reg gC ?_
  try simp only [W, Nat.reduceAdd]
  refine seq_n hK1 ?_
  refine w_seq fun K2 hK2 => ?_
  refine w_reg gC ?_
  try simp only [W, EE, Nat.reduceAdd]
  refine w_grdT h (fun hc h => ?_) (fun hc h => ?_)
  · try simp only [W, EE, reduceIte, hc]
    refine seq_n hK2 ?_
    refine w_ret ?_
    refine fin_r1 hK0 rfl ?_
    try obtain rfl := Option.some.inj h
    exact hP _ hS
  · try simp only [W, hc]
    refine seq_n hK2 ?_
    refine w_ret ?_
    refine fin_r1 hK0 rfl ?_
    try obtain rfl := Option.some.inj h
    exact hP _ hS
theorem slices_IndexFunc_int_w {a0 : List Int} {g1 : Int → Option Bool} {f1 : FuncId} {c1 : List AV} {r : (Int)} (h : slices_IndexFunc_int a0 g1 = some r) {F : List It} {H : Heap} (hg1 : ∀ {x0 : Int} {r : Bool}, g1 x0 = some r → ∀ (L : List It) (n : Nat), L.drop n = F → ∀ (H : Heap), Own H L → ∀ (P : AV → Heap → Prop), (∀ H', Own H' L → P (.bool r) H') → ACall C f1 ([.int .i64 x0] ++ c1) H P) (hS : Own H (F)) {P : AV → Heap → Prop} (hP : ∀ H', Own H' (F) → P (.int .i64 r) H') : ACall C 255 [.fz (a0.map (AV.int .i64)), .fn f1 c1] H P := by
  refine acall_of gC (res := [.tmp 4]) (n := 19) rfl rfl rfl rfl fun K0 hK0 => ?_
  simp only [W, Nat.reduceSub, Nat.reduceAdd, List.replicate]
  unfold slices_IndexFunc_int at h
  refine w_seq fun K1 hK1 => ?_
  refine w_reg gC ?_
  try simp only [W, Nat.reduceAdd]
  refine seq_n hK1 ?_
  refine w_seq fun K2 hK2 => ?_
  refine w_seq fun K3 hK3 => ?_
  refine w_reg gC ?_
  try simp only [W, EE, Nat.reduceAdd]
  refine seq_n hK3 ?_
  obtain ⟨y5, hw6, g12⟩ := Option.bind_eq_some_iff.1 h
  refine w_join gC (fun s H => y5 = LR.next () ∧ s = [u, u, u, u, u, u, u, u, u, u, u, u, u, u, u, u, u, u, u] ∧ Own H (F)) (fun K7 hK7 => ?_) (fun s H hq => ?_)
  · refine w_blk fun K8 hK8 => ?_
    refine w_loop gC hw6 (fun x s H => s = [.fz (a0.map (AV.int .i64)), .fn f1 c1, u, u, u, u, u, .int .i64 (a0.length : Int), .int .i64 x, u, u, u, u, u, u, u, u, u, u] ∧ Own H (F)) ⟨rfl, hS⟩ (fun x4 y11 s H h hd10 hi K9 hK9 => ?_)
    skip
    try dsimp only at hi
    obtain ⟨rfl, hS⟩ := hi
    simp only [slices_IndexFunc_int_l0] at h
    refine w_seq fun K13 hK13 => ?_
    refine w_reg gC ?_
    try simp only [W, EE, Nat.reduceAdd]
    refine seq_n hK13 ?_
    refine w_seq fun K14 hK14 => ?_
    refine w_if ?_
    simp only [W]
    refine w_cnd h (fun hc h => ?_) (fun hc h => ?_)
    · refine w_skip ?_
      refine seq_n hK14 ?_
      refine w_seq fun K15 hK15 => ?_
      refine w_blk fun K16 hK16 => ?_
      refine w_seq fun K17 hK17 => ?_
      refine w_reg gC ?_
      try simp only [W, Nat.reduceAdd]
      refine seq_n hK17 ?_
      refine w_seq fun K18 hK18 => ?_
      refine w_reg gC ?_
      try simp only [W, EE, Nat.reduceAdd]
      refine w_fz rfl rfl rfl (fun _ => rfl) h fun b19 hb19 h => ?_
      try simp only [W, EE]
      refine w_call h fun b20 hb20 h => ?_
      refine hg1 hb20 _ 0 rfl _ hS _ fun H hS => ?_
      try simp only [W]
      refine seq_n hK18 ?_
      refine w_if ?_
      simp only [W]
      refine w_cnd h (fun hc h => ?_) (fun hc h => ?_)
      · refine w_seq fun K21 hK21 => ?_
        refine w_reg gC ?_
        try simp only [W, Nat.reduceAdd]
        refine seq_n hK21 ?_
        refine w_ret ?_
        refine blk_r hK16 ?_
        refine seq_r hK15 ?_
        try obtain rfl := Option.some.inj h
        obtain rfl := hd10 _ rfl
        have h : (some (LR.done x4) : Option (LR Unit (Int))) = some (LR.done x4) := rfl
        refine lp_r hK9 ?_
        refine blk_r hK8 ?_
        try obtain rfl := Option.some.inj h
        obtain rfl := Option.some.inj g12
        have h : (some x4 : Option (Int)) = some x4 := rfl
        refine cut_r hK7 ?_
        refine seq_r hK2 ?_
        refine fin_r1 hK0 rfl ?_
        try obtain rfl := Option.some.inj h
        exact hP _ hS
      · refine w_skip ?_
        refine blk_n0 hK16 ?_
        refine seq_n hK15 ?_
        refine w_reg gC ?_
        try simp only [W, EE, Nat.reduceAdd]
        exact lp_n hK9 h ⟨rfl, hS⟩
    · refine w_exit ?_
      refine seq_x hK14 ?_
      try obtain rfl := Option.some.inj h
      obtain rfl := hd10 _ rfl
      have h : (some (LR.next ()) : Option (LR Unit (Int))) = some (LR.next ()) := rfl
      refine lp_x hK9 ?_
      refine blk_e hK8 ?_
      exact cut_n hK7 ⟨(Option.some.inj h).symm, rfl, hS⟩
  · obtain ⟨rfl, rfl, hS⟩ := hq
    replace h := g12
    try dsimp only at h
    refine seq_n hK2 ?_
    refine w_seq fun K28 hK28 => ?_
    refine w_reg gC ?_
    try simp only [W, Nat.reduceAdd]
    refine seq_n hK28 ?_
    refine w_ret ?_
    refine fin_r1 hK0 rfl ?_
    try obtain rfl := Option.some.inj h
    exact hP _ hS
theorem slices_ContainsFunc_int_w {a0 : List Int} {g1 : Int → Option Bool} {f1 : FuncId} {c1 : List AV} {r : (Bool)} (h : slices_ContainsFunc_int a0 g1 = some r) {F : List It} {H : Heap} (hg1 : ∀ {x0 : Int} {r : Bool}, g1 x0 = some r → ∀ (L : List It) (n : Nat), L.drop n = F → ∀ (H : Heap), Own H L → ∀ (P : AV → Heap → Prop), (∀ H', Own H' L → P (.bool r) H') → ACall C f1 ([.int .i64 x0] ++ c1) H P) (hS : Own H (F)) {P : AV → Heap → Prop} (hP : ∀ H', Own H' (F) → P (.bool r) H') : ACall C 145 [.fz (a0.map (AV.int .i64)), .fn f1 c1] H P := by
  refine acall_of gC (res := [.tmp 4]) (n := 9) rfl rfl rfl rfl fun K0 hK0 => ?_
  simp only [W, Nat.reduceSub, Nat.reduceAdd, List.replicate]
  unfold slices_ContainsFunc_int at h
  refine w_seq fun K1 hK1 => ?_
  refine w_reg gC ?_
  try simp only [W, Nat.reduceAdd]
  refine seq_n hK1 ?_
  refine w_seq fun K2 hK2 => ?_
  refine w_reg gC ?_
  try simp only [W, Nat.reduceAdd]
  refine w_call h fun b3 hb3 h => ?_
  refine slices_IndexFunc_int_w hb3 hg1 hS fun H hS => ?_
  try simp only [W, EE]
  refine seq_n hK2 ?_
  refine w_ret ?_
  refine fin_r1 hK0 rfl ?_
  try obtain rfl := Option.some.inj h
  exact hP _ hS
theorem impl_GoodShares_1_w {a0 : Int} {r : (Bool)} (h : impl_GoodShares_1 a0 = some r) {F : List It} {H : Heap} (hS : Own H (F)) {P : AV → Heap → Prop} (hP : ∀ H', Own H' (F) → P (.bool r) H') : ACall C 175 [.int .i64 a0] H P := by
  refine acall_of gC (res := [.tmp 2]) (n := 6) rfl rfl rfl rfl fun K0 hK0 => ?_
  simp only [W, Nat.reduceSub, Nat.reduceAdd, List.replicate]
  unfold impl_GoodShares_1 at h
  refine w_seq fun K1 hK1 => ?_
  refine w_reg gC ?_
  try simp only [W, Nat.reduceAdd]
  refine seq_n hK1 ?_
  refine w_seq fun K2 hK2 => ?_
  refine w_reg gC ?_
  try simp only [W, Nat.reduceAdd]
  refine w_call h fun b3 hb3 h => ?_
  refine impl_in_w hb3 hS fun H hS => ?_
  try simp only [W]
  refine seq_n hK2 ?_
  refine w_ret ?_
  refine fin_r1 hK0 rfl ?_
  try obtain rfl := Option.some.inj h
  exact hP _ hS
theorem impl_GoodShares_w {a0 : Shares} {r : (Bool)} (h : impl_GoodShares a0 = some r) {F : List It} {H : Heap} (hS : Own H (F)) {P : AV → Heap → Prop} (hP : ∀ H', Own H' (F) → P (.bool r) H') : ACall C 43 [.agg [.fz (a0.Wins.map (AV.int .i64)), .int .i64 a0.Room]] H P := by
  refine acall_of gC (res := [.tmp 2]) (n := 18) rfl rfl rfl rfl fun K0 hK0 => ?_
  simp only [W, Nat.reduceSub, Nat.reduceAdd, List.replicate]
  unfold impl_GoodShares at h
  refine w_seq fun K1 hK1 => ?_
  refine w_reg gC ?_
  try simp only [W, Nat.reduceAdd]
  refine w_box hS rfl rfl rfl rfl fun ip2 wp2 H hS => ?_
  try simp only [W]
  refine seq_n hK1 ?_
  refine w_seq fun K4 hK4 => ?_
  refine w_reg gC ?_
  try simp only [W, EE, Nat.reduceAdd, Nat.reduceBEq, hS.var 0 rfl]
  refine w_call h fun b5 hb5 h => ?_
  refine impl_in_w hb5 hS fun H hS => ?_
  try simp only [W]
  refine w_grdT h (fun hc h => ?_) (fun hc h => ?_)
  · try simp only [W, EE, Nat.reduceAdd, Nat.reduceBEq, hS.var 0 rfl, hc]
    refine w_call h fun b6 hb6 h => ?_
    refine slices_ContainsFunc_int_w hb6 (fun h _ n hL _ hS _ hP => impl_GoodShares_1_w h hS hP) hS fun H hS => ?_
    try simp only [W, reduceIte]
    refine w_grdT h (fun hc h => ?_) (fun hc h => ?_)
    · try simp only [W, EE, Nat.reduceAdd, Nat.reduceBEq, hS.var 0 rfl, hc]
      refine w_call h fun b7 hb7 h => ?_
      refine impl_in_w hb7 hS fun H hS => ?_
      try simp only [W, reduceIte]
      refine seq_n hK4 ?_
      refine w_ret ?_
      refine fin_r1 hK0 rfl ?_
      try obtain rfl := Option.some.inj h
      exact hP _ (hS.sel 1 [] (by decide))
    · try simp only [W, hc]
      refine seq_n hK4 ?_
      refine w_ret ?_
      refine fin_r1 hK0 rfl ?_
      try obtain rfl := Option.some.inj h
      exact hP _ (hS.sel 1 [] (by decide))
  · try simp only [W, hc]
    refine seq_n hK4 ?_
    refine w_ret ?_
    refine fin_r1 hK0 rfl ?_
    try obtain rfl := Option.some.inj h
    exact hP _ (hS.sel 1 [] (by decide))
theorem impl_Shares_changed_w {a0 : Shares} {g1 : Int → Option Int} {f1 : FuncId} {c1 : List AV} {r : (Shares × Bool)} (h : impl_Shares_changed a0 g1 = some r) {F : List It} {H : Heap} (hg1 : ∀ {x0 : Int} {r : Int}, g1 x0 = some r → ∀ (L : List It) (n : Nat), L.drop n = F → ∀ (H : Heap), Own H L → ∀ (P : AV → Heap → Prop), (∀ H', Own H' L → P (.int .i64 r) H') → ACall C f1 ([.int .i64 x0] ++ c1) H P) (hS : Own H (F)) {P : AV → Heap → Prop} (hP : ∀ v50 : AV, isSl v50 → ∀ H', Own H' (⟨v50, 1, r.1.Wins.map (AV.int .i64)⟩ :: F) → P (.tup [.agg [v50, .int .i64 r.1.Room], .bool r.2]) H') : ACall C 179 [.agg [.fz (a0.Wins.map (AV.int .i64)), .int .i64 a0.Room], .fn f1 c1] H P := by
  refine acall_of gC (res := [.cell 4 55, .tmp 5]) (n := 38) rfl rfl rfl rfl fun K0 hK0 => ?_
  simp only [W, Nat.reduceSub, Nat.reduceAdd, List.replicate]
  unfold impl_Shares_changed at h
  refine w_seq fun K1 hK1 => ?_
  refine w_reg gC ?_
  try simp only [W, Nat.reduceAdd]
  refine w_box hS rfl rfl rfl rfl fun ip2 wp2 H hS => ?_
  try simp only [W]
  refine w_alloc hS rfl rfl fun ip4 wp4 H hS => ?_
  try simp only [W]
  refine seq_n hK1 ?_
  refine w_seq fun K6 hK6 => ?_
  refine w_reg gC ?_
  try simp only [W, EE, Nat.reduceAdd, Nat.reduceBEq, hS.var 1 rfl]
  refine w_bld rfl rfl rfl rfl rfl ?_
  try simp only [W]
  refine w_alloc hS rfl rfl fun ip7 wp7 H hS => ?_
  try simp only [W]
  refine w_stv (a := .agg [.nil, .int .i64 a0.Room]) (y' := .agg [.nil, .int .i64 a0.Room]) 0 hS rfl rfl rfl rfl rfl rfl rfl rfl fun H hS => ?_
  try simp only [W]
  refine seq_n hK6 ?_
  refine w_seq fun K9 hK9 => ?_
  refine w_seq fun K10 hK10 => ?_
  refine w_reg gC ?_
  try simp only [W, EE, Nat.reduceAdd, Nat.reduceBEq, hS.var 2 rfl]
  refine seq_n hK10 ?_
  obtain ⟨y17, hw18, g24⟩ := Option.bind_eq_some_iff.1 h
  refine w_join gC (fun s H => ∃ x15 : List Int, y17 = (x15) ∧ ∃ v16 : AV, isSl v16 ∧ s = [u, u, .ptr ip2 wp2 0 0, u, .ptr ip4 wp4 0 0, u, .ptr ip7 wp7 0 0, u, u, u, u, u, u, u, u, u, u, u, u, u, u, u, u, u, u, u, u, u, u, u, u, u, u, u, u, u, u, u] ∧ Own H (⟨v16, 1, x15.map (AV.int .i64)⟩ :: ⟨.ptr ip2 wp2 0 0, 2, [.agg [.fz (a0.Wins.map (AV.int .i64)), .int .i64 a0.Room]]⟩ :: ⟨.ptr ip4 wp4 0 0, 2, [.agg [.nil, .int .i64 0]]⟩ :: ⟨.ptr ip7 wp7 0 0, 2, [.agg [v16, .int .i64 a0.Room]]⟩ :: F)) (fun K19 hK19 => ?_) (fun s H hq => ?_)
  · refine w_blk fun K20 hK20 => ?_
    refine w_loop gC hw18 (fun x s H => match x with | (x11, x12) => ∃ v13 : AV, isSl v13 ∧ s = [u, .fn f1 c1, .ptr ip2 wp2 0 0, u, .ptr ip4 wp4 0 0, u, .ptr ip7 wp7 0 0, u, u, u, u, u, u, .fz (a0.Wins.map (AV.int .i64)), .int .i64 (a0.Wins.length : Int), .int .i64 x11, u, u, u, u, u, u, u, u, u, u, u, u, u, u, u, u, u, u, u, u, u, u] ∧ Own H (⟨v13, 1, x12.map (AV.int .i64)⟩ :: ⟨.ptr ip2 wp2 0 0, 2, [.agg [.fz (a0.Wins.map (AV.int .i64)), .int .i64 a0.Room]]⟩ :: ⟨.ptr ip4 wp4 0 0, 2, [.agg [.nil, .int .i64 0]]⟩ :: ⟨.ptr ip7 wp7 0 0, 2, [.agg [v13, .int .i64 a0.Room]]⟩ :: F)) ⟨_, isSl_nil, rfl, ((hS.nil_ 1).sel 4 [0, 3, 2, 1] (by decide))⟩ (fun x y23 s H h hd22 hi K21 hK21 => ?_)
    obtain ⟨x11, x12⟩ := x
    try dsimp only at hi
    obtain ⟨v13, qv13, rfl, hS⟩ := hi
    simp only [impl_Shares_changed_l0] at h
    refine w_seq fun K25 hK25 => ?_
    refine w_reg gC ?_
    try simp only [W, EE, Nat.reduceAdd]
    refine seq_n hK25 ?_
    refine w_seq fun K26 hK26 => ?_
    refine w_if ?_
    simp only [W]
    refine w_cnd h (fun hc h => ?_) (fun hc h => ?_)
    · refine w_skip ?_
      refine seq_n hK26 ?_
      refine w_seq fun K27 hK27 => ?_
      refine w_blk fun K28 hK28 => ?_
      refine w_seq fun K29 hK29 => ?_
      refine w_reg gC ?_
      try simp only [W, EE, Nat.reduceAdd]
      refine w_fz rfl rfl rfl (fun _ => rfl) h fun b30 hb30 h => ?_
      try simp only [W, EE]
      refine seq_n hK29 ?_
      refine w_drawL gC [(4, [0, 1]), (8, []), (6, [])] (by kernel_rfl) rfl (by kernel_rfl) ?_
      try simp only [W, EE, reduceIte, Nat.reduceAdd, Nat.reduceBEq, hS.var 3 rfl, tabAt, qAt, Nat.reduceEqDiff]
      refine w_call h fun b31 hb31 h => ?_
      refine hg1 hb31 _ 4 rfl _ hS _ fun H hS => ?_
      refine goK_late ?_
      refine lateG_s (by first | rfl | (simp [evalOp, W, EE, hS.var 3 rfl]; done)) ?_
      refine lateG_s (by first | rfl | (simp [evalOp, W, EE, rdAt, mkT, subL, AV.cells, hS.var 3 rfl]; done)) ?_
      refine lateG_n ?_
      try simp only [W]
      refine w_lit (el := ([b31] : List Int).map (AV.int .i64)) hS rfl rfl rfl rfl rfl rfl rfl fun v32 H qv32 hS => ?_
      try simp only [W, EE]
      refine w_appV (l := x12) (c := (AV.int .i64)) 1 hS rfl qv13 rfl rfl rfl (hS.elems 0 rfl qv32) (fun _ => rfl) rfl h fun v35 H x34 qv35 hm h hS => ?_
      try simp only [W, EE, Nat.reduceAdd, Nat.reduceBEq, hS.var 4 rfl]
      refine w_stv (a := v35) (y' := .agg [v35, .int .i64 a0.Room]) 4 hS rfl rfl rfl rfl (by rw [qv35.cells]; rfl) qv35.stora (qv35.wr _ _ (by simp)) rfl fun H hS => ?_
      try simp only [W]
      refine blk_n0 hK28 ?_
      refine seq_n hK27 ?_
      refine w_reg gC ?_
      try simp only [W, EE, Nat.reduceAdd]
      exact lp_n hK21 h ⟨_, qv35, rfl, (hS.sel 5 [1, 2, 3, 4] (by decide))⟩
    · refine w_exit ?_
      refine seq_x hK26 ?_
      try obtain rfl := Option.some.inj h
      obtain rfl := hd22 _ rfl
      have h : (some (x12) : Option ((List Int))) = some (x12) := rfl
      refine lp_x hK21 ?_
      refine blk_e hK20 ?_
      exact cut_n hK19 ⟨_, (Option.some.inj h).symm, _, qv13, rfl, hS⟩
  · obtain ⟨x15, ey, v16, qv16, rfl, hS⟩ := hq; obtain rfl := ey.symm
    replace h := g24
    try dsimp only at h
    refine seq_n hK9 ?_
    refine w_seq fun K39 hK39 => ?_
    refine w_seq fun K40 hK40 => ?_
    obtain ⟨y42, h, g43⟩ := Option.bind_eq_some_iff.1 h
    refine w_join gC (fun s H => ∃ x41 : Bool, y42 = (x41) ∧ s = [u, u, u, u, .ptr ip4 wp4 0 0, u, .ptr ip7 wp7 0 0, u, u, u, u, u, u, u, u, u, u, u, u, u, u, u, u, u, u, u, u, u, u, u, u, u, u, u, u, .bool x41, u, u] ∧ Own H (⟨v16, 1, x15.map (AV.int .i64)⟩ :: ⟨.ptr ip4 wp4 0 0, 2, [.agg [.nil, .int .i64 0]]⟩ :: ⟨.ptr ip7 wp7 0 0, 2, [.agg [v16, .int .i64 a0.Room]]⟩ :: F)) (fun K44 hK44 => ?_) (fun s H hq => ?_)
    · refine w_seq fun K45 hK45 => ?_
      refine w_reg gC ?_
      try simp only [W, EE, reduceIte, Nat.reduceAdd, Nat.reduceLeDiff, hS.var 1 rfl]
      refine w_call h fun b46 hb46 h => ?_
      refine impl_GoodShares_w hb46 hS fun H hS => ?_
      try simp only [W]
      refine w_grdT h (fun hc h => ?_) (fun hc h => ?_)
      · try simp only [W, hc]
        refine seq_n hK45 ?_
        refine w_kill ?_
        exact cut_n hK44 ⟨_, (Option.some.inj h).symm, rfl, (hS.sel 4 [0, 2, 3] (by decide))⟩
      · try simp only [W, EE, reduceIte, Nat.reduceAdd, Nat.reduceLeDiff, hS.var 3 rfl, hc]
        refine w_callS (rsh := [[.sc]]) (ys := [.agg [.fz (x15.map (AV.int .i64)), .int .i64 a0.Room]]) h rfl (pv_c (sn_agg (sm_c (sn_ow hS 0 rfl qv16 (fun _ => rfl)) (sm_c rfl (sm_n _)))) pv_n) fun b47 hb47 h => ⟨.bool b47, impl_GoodShares_w hb47 (Own.nil _) fun H hS => TV_ok rfl (TV_p rfl (TV_n rfl)), ⟨rfl, rfl, fun _ => rfl⟩, ?_⟩
        try simp only [W, reduceIte, Bool.false_eq_true]
        refine seq_n hK45 ?_
        refine w_kill ?_
        exact cut_n hK44 ⟨_, (Option.some.inj h).symm, rfl, (hS.sel 4 [0, 2, 3] (by decide))⟩
    · obtain ⟨x41, ey, rfl, hS⟩ := hq; obtain rfl := ey.symm
      replace h := g43
      try dsimp only at h
      refine seq_n hK40 ?_
      refine w_if ?_
      simp only [W]
      refine w_cnd h (fun hc h => ?_) (fun hc h => ?_)
      · refine w_seq fun K48 hK48 => ?_
        refine w_reg gC ?_
        try simp only [W, EE, Nat.reduceAdd]
        refine w_bld rfl rfl rfl rfl rfl ?_
        try simp only [W]
        refine w_stv (a := .agg [.nil, .int .i64 0]) (y' := .agg [.nil, .int .i64 0]) 1 hS rfl rfl rfl rfl rfl rfl rfl rfl fun H hS => ?_
        try simp only [W]
        refine seq_n hK48 ?_
        refine w_ret ?_
        refine seq_r hK39 ?_
        refine fin_r hK0 (res_c rfl rfl (hS.var 1 rfl) rfl (res_tc rfl rfl)) ?_
        try obtain rfl := Option.some.inj h
        exact hP _ isSl_nil _ ((hS.nil_ 1).sel 4 [0] (by decide))
      · refine w_skip ?_
        refine seq_n hK39 ?_
        refine w_seq fun K49 hK49 => ?_
        refine w_reg gC ?_
        try simp only [W, EE, reduceIte, Nat.reduceAdd, Nat.reduceLeDiff, hS.var 2 rfl]
        refine w_stv (a := .agg [v16, .int .i64 a0.Room]) (y' := .agg [v16, .int .i64 a0.Room]) 1 hS rfl rfl rfl rfl rfl (by simp only [storA, List.all_cons, List.all_nil, qv16.stor]; rfl) rfl rfl fun H hS => ?_
        try simp only [W]
        refine seq_n hK49 ?_
        refine w_ret ?_
        refine fin_r hK0 (res_c rfl rfl (hS.var 1 rfl) rfl (res_tc rfl rfl)) ?_
        try obtain rfl := Option.some.inj h
        exact hP _ qv16 _ (hS.sel 3 [0] (by decide))
theorem impl_GrowAll_1_w {a0 : Int} {r : (Int)} (h : impl_GrowAll_1 a0 = some r) {F : List It} {H : Heap} (hS : Own H (F)) {P : AV → Heap → Prop} (hP : ∀ H', Own H' (F) → P (.int .i64 r) H') : ACall C 180 [.int .i64 a0] H P := by
  refine acall_of gC (res := [.tmp 2]) (n := 5) rfl rfl rfl rfl fun K0 hK0 => ?_
  simp only [W, Nat.reduceSub, Nat.reduceAdd, List.replicate]
  unfold impl_GrowAll_1 at h
  refine w_seq fun K1 hK1 => ?_
  refine w_reg gC ?_
  try simp only [W, Nat.reduceAdd]
  refine seq_n hK1 ?_
  refine w_seq fun K2 hK2 => ?_
  refine w_reg gC ?_
  try simp only [W, EE, Nat.reduceAdd]
  refine seq_n hK2 ?_
  refine w_ret ?_
  refine fin_r1 hK0 rfl ?_
  try obtain rfl := Option.some.inj h
  exact hP _ hS
theorem impl_GrowAll_w {a0 : Shares} {r : (Shares × Bool)} (h : impl_GrowAll a0 = some r) {F : List It} {H : Heap} (hS : Own H (F)) {P : AV → Heap → Prop} (hP : ∀ v12 : AV, isSl v12 → ∀ H', Own H' (⟨v12, 1, r.1.Wins.map (AV.int .i64)⟩ :: F) → P (.tup [.agg [v12, .int .i64 r.1.Room], .bool r.2]) H') : ACall C 48 [.agg [.fz (a0.Wins.map (AV.int .i64)), .int .i64 a0.Room]] H P := by
  refine acall_of gC (res := [.cell 2 55, .tmp 3]) (n := 8) rfl rfl rfl rfl fun K0 hK0 => ?_
  simp only [W, Nat.reduceSub, Nat.reduceAdd, List.replicate]
  unfold impl_GrowAll at h
  refine w_seq fun K1 hK1 => ?_
  refine w_reg gC ?_
  try simp only [W, Nat.reduceAdd]
  refine w_box hS rfl rfl rfl rfl fun ip2 wp2 H hS => ?_
  try simp only [W]
  refine w_alloc hS rfl rfl fun ip4 wp4 H hS => ?_
  try simp only [W]
  refine seq_n hK1 ?_
  refine w_seq fun K6 hK6 => ?_
  refine w_reg gC ?_
  try simp only [W, EE, reduceIte, Nat.reduceAdd, Nat.reduceLeDiff, hS.var 1 rfl]
  refine w_call h fun b7 hb7 h => ?_
  obtain ⟨b8, b9⟩ := b7
  try dsimp only at h
  refine impl_Shares_changed_w hb7 (fun h _ n hL _ hS _ hP => impl_GrowAll_1_w h hS hP) hS fun v10 qv10 H hS => ?_
  try simp only [W]
  refine w_stv (a := .agg [v10, .int .i64 b8.Room]) (y' := .agg [v10, .int .i64 b8.Room]) 1 hS rfl rfl rfl rfl rfl (by simp only [storA, List.all_cons, List.all_nil, qv10.stor]; rfl) rfl rfl fun H hS => ?_
  try simp only [W]
  refine seq_n hK6 ?_
  refine w_ret ?_
  refine fin_r hK0 (res_c rfl rfl (hS.var 1 rfl) rfl (res_tc rfl rfl)) ?_
  try obtain rfl := Option.some.inj h
  exact hP _ qv10 _ (hS.sel 3 [0] (by decide))
theorem spec_l1In_w {a0 : Int} {a1 : Int} {a2 : Int} {r : (Bool)} (h : spec_l1In a0 a1 a2 = some r) {F : List It} {H : Heap} (hS : Own H (F)) {P : AV → Heap → Prop} (hP : ∀ H', Own H' (F) → P (.bool r) H') : ACall C 153 [.int .i64 a0, .int .i64 a1, .int .i64 a2] H P := by
  refine acall_of gC (res := [.tmp 6]) (n := 15) rfl rfl rfl rfl fun K0 hK0 => ?_
  simp only [W, Nat.reduceSub, Nat.reduceAdd, List.replicate]
  unfold spec_l1In at h
  refine w_seq fun K1 hK1 => ?_
  refine w_reg gC ?_
  try simp only [W, Nat.reduceAdd]
  refine seq_n hK1 ?_
  refine w_seq fun K2 hK2 => ?_
  refine w_reg gC ?_
  try simp only [W, EE, Nat.reduceAdd]
  refine w_grdT h (fun hc h => ?_) (fun hc h => ?_)
  · try simp only [W, EE, reduceIte, hc]
    refine seq_n hK2 ?_
    refine w_ret ?_
    refine fin_r1 hK0 rfl ?_
    try obtain rfl := Option.some.inj h
    exact hP _ hS
  · try simp only [W, hc]
    refine seq_n hK2 ?_
    refine w_ret ?_
    refine fin_r1 hK0 rfl ?_
    try obtain rfl := Option.some.inj h
    exact hP _ hS
theorem spec_l1All_w {a0 : List Int} {a1 : Int} {a2 : Int} {r : (Bool)} (h : spec_l1All a0 a1 a2 = some r) {F : List It} {H : Heap} (hS : Own H (F)) {P : AV → Heap → Prop} (hP : ∀ H', Own H' (F) → P (.bool r) H') : ACall C 150 [.fz (a0.map (AV.int .i64)), .int .i64 a1, .int .i64 a2] H P := by
  refine acall_of gC (res := [.tmp 6]) (n := 21) rfl rfl rfl rfl fun K0 hK0 => ?_
  simp only [W, Nat.reduceSub, Nat.reduceAdd, List.replicate]
  unfold spec_l1All at h
  refine w_seq fun K1 hK1 => ?_
  refine w_reg gC ?_
  try simp only [W, Nat.reduceAdd]
  refine seq_n hK1 ?_
  refine w_seq fun K2 hK2 => ?_
  refine w_seq fun K3 hK3 => ?_
  refine w_reg gC ?_
  try simp only [W, EE, Nat.reduceAdd]
  refine seq_n hK3 ?_
  obtain ⟨y5, hw6, g12⟩ := Option.bind_eq_some_iff.1 h
  refine w_join gC (fun s H => y5 = LR.next () ∧ s = [u, u, u, u, u, u, u, u, u, u, u, u, u, u, u, u, u, u, u, u, u] ∧ Own H (F)) (fun K7 hK7 => ?_) (fun s H hq => ?_)
  · refine w_blk fun K8 hK8 => ?_
    refine w_loop gC hw6 (fun x s H => s = [u, .int .i64 a1, .int .i64 a2, u, u, u, u, u, u, .fz (a0.map (AV.int .i64)), .int .i64 (a0.length : Int), .int .i64 x, u, u, u, u, u, u, u, u, u] ∧ Own H (F)) ⟨rfl, hS⟩ (fun x4 y11 s H h hd10 hi K9 hK9 => ?_)
    skip
    try dsimp only at hi
    obtain ⟨rfl, hS⟩ := hi
    simp only [spec_l1All_l0] at h
    refine w_seq fun K13 hK13 => ?_
    refine w_reg gC ?_
    try simp only [W, EE, Nat.reduceAdd]
    refine seq_n hK13 ?_
    refine w_seq fun K14 hK14 => ?_
    refine w_if ?_
    simp only [W]
    refine w_cnd h (fun hc h => ?_) (fun hc h => ?_)
    · refine w_skip ?_
      refine seq_n hK14 ?_
      refine w_seq fun K15 hK15 => ?_
      refine w_blk fun K16 hK16 => ?_
      refine w_seq fun K17 hK17 => ?_
      refine w_reg gC ?_
      try simp only [W, EE, Nat.reduceAdd]
      refine w_fz rfl rfl rfl (fun _ => rfl) h fun b18 hb18 h => ?_
      try simp only [W, EE]
      refine seq_n hK17 ?_
      refine w_seq fun K19 hK19 => ?_
      refine w_reg gC ?_
      try simp only [W, Nat.reduceAdd]
      refine w_call h fun b20 hb20 h => ?_
      refine spec_l1In_w hb20 hS fun H hS => ?_
      try simp only [W]
      refine seq_n hK19 ?_
      refine w_if ?_
      simp only [W]
      refine w_cnd h (fun hc h => ?_) (fun hc h => ?_)
      · refine w_seq fun K21 hK21 => ?_
        refine w_reg gC ?_
        try simp only [W, Nat.reduceAdd]
        refine seq_n hK21 ?_
        refine w_ret ?_
        refine blk_r hK16 ?_
        refine seq_r hK15 ?_
        try obtain rfl := Option.some.inj h
        obtain rfl := hd10 _ rfl
        have h : (some (LR.done false) : Option (LR Unit (Bool))) = some (LR.done false) := rfl
        refine lp_r hK9 ?_
        refine blk_r hK8 ?_
        try obtain rfl := Option.some.inj h
        obtain rfl := Option.some.inj g12
        have h : (some false : Option (Bool)) = some false := rfl
        refine cut_r hK7 ?_
        refine seq_r hK2 ?_
        refine fin_r1 hK0 rfl ?_
        try obtain rfl := Option.some.inj h
        exact hP _ hS
      · refine w_skip ?_
        refine blk_n0 hK16 ?_
        refine seq_n hK15 ?_
        refine w_reg gC ?_
        try simp only [W, EE, Nat.reduceAdd]
        exact lp_n hK9 h ⟨rfl, hS⟩
    · refine w_exit ?_
      refine seq_x hK14 ?_
      try obtain rfl := Option.some.inj h
      obtain rfl := hd10 _ rfl
      have h : (some (LR.next ()) : Option (LR Unit (Bool))) = some (LR.next ()) := rfl
      refine lp_x hK9 ?_
      refine blk_e hK8 ?_
      exact cut_n hK7 ⟨(Option.some.inj h).symm, rfl, hS⟩
  · obtain ⟨rfl, rfl, hS⟩ := hq
    replace h := g12
    try dsimp only at h
    refine seq_n hK2 ?_
    refine w_seq fun K28 hK28 => ?_
    refine w_reg gC ?_
    try simp only [W, Nat.reduceAdd]
    refine seq_n hK28 ?_
    refine w_ret ?_
    refine fin_r1 hK0 rfl ?_
    try obtain rfl := Option.some.inj h
    exact hP _ hS
theorem spec_GoodShares_w {a0 : Shares} {r : (Bool)} (h : spec_GoodShares a0 = some r) {F : List It} {H : Heap} (hS : Own H (F)) {P : AV → Heap → Prop} (hP : ∀ H', Own H' (F) → P (.bool r) H') : ACall C 170 [.agg [.fz (a0.Wins.map (AV.int .i64)), .int .i64 a0.Room]] H P := by
  refine acall_of gC (res := [.tmp 2]) (n := 17) rfl rfl rfl rfl fun K0 hK0 => ?_
  simp only [W, Nat.reduceSub, Nat.reduceAdd, List.replicate]
  unfold spec_GoodShares at h
  refine w_seq fun K1 hK1 => ?_
  refine w_reg gC ?_
  try simp only [W, Nat.reduceAdd]
  refine w_box hS rfl rfl rfl rfl fun ip2 wp2 H hS => ?_
  try simp only [W]
  refine seq_n hK1 ?_
  refine w_seq fun K4 hK4 => ?_
  refine w_reg gC ?_
  try simp only [W, EE, Nat.reduceAdd, Nat.reduceBEq, hS.var 0 rfl]
  refine w_call h fun b5 hb5 h => ?_
  refine spec_l1In_w hb5 hS fun H hS => ?_
  try simp only [W]
  refine w_grdT h (fun hc h => ?_) (fun hc h => ?_)
  · try simp only [W, EE, Nat.reduceAdd, Nat.reduceBEq, hS.var 0 rfl, hc]
    refine w_call h fun b6 hb6 h => ?_
    refine spec_l1All_w hb6 hS fun H hS => ?_
    try simp only [W, reduceIte]
    refine w_grdT h (fun hc h => ?_) (fun hc h => ?_)
    · try simp only [W, EE, Nat.reduceAdd, Nat.reduceBEq, hS.var 0 rfl, hc]
      refine w_call h fun b7 hb7 h => ?_
      refine spec_l1In_w hb7 hS fun H hS => ?_
      try simp only [W, reduceIte]
      refine seq_n hK4 ?_
      refine w_ret ?_
      refine fin_r1 hK0 rfl ?_
      try obtain rfl := Option.some.inj h
      exact hP _ (hS.sel 1 [] (by decide))
    · try simp only [W, hc]
      refine seq_n hK4 ?_
      refine w_ret ?_
      refine fin_r1 hK0 rfl ?_
      try obtain rfl := Option.some.inj h
      exact hP _ (hS.sel 1 [] (by decide))
  · try simp only [W, hc]
    refine seq_n hK4 ?_
    refine w_ret ?_
    refine fin_r1 hK0 rfl ?_
    try obtain rfl := Option.some.inj h
    exact hP _ (hS.sel 1 [] (by decide))
theorem spec_l10Grow_w {a0 : Shares} {r : (Shares)} (h : spec_l10Grow a0 = some r) {F : List It} {H : Heap} (hS : Own H (F)) {P : AV → Heap → Prop} (hP : ∀ v39 : AV, isSl v39 → ∀ H', Own H' (⟨v39, 1, r.Wins.map (AV.int .i64)⟩ :: F) → P (.agg [v39, .int .i64 r.Room]) H') : ACall C 181 [.agg [.fz (a0.Wins.map (AV.int .i64)), .int .i64 a0.Room]] H P := by
  refine acall_of gC (res := [.cell 2 55]) (n := 25) rfl rfl rfl rfl fun K0 hK0 => ?_
  simp only [W, Nat.reduceSub, Nat.reduceAdd, List.replicate]
  unfold spec_l10Grow at h
  refine w_seq fun K1 hK1 => ?_
  refine w_reg gC ?_
  try simp only [W, Nat.reduceAdd]
  refine w_box hS rfl rfl rfl rfl fun ip2 wp2 H hS => ?_
  try simp only [W]
  refine w_alloc hS rfl rfl fun ip4 wp4 H hS => ?_
  try simp only [W]
  refine seq_n hK1 ?_
  refine w_seq fun K6 hK6 => ?_
  refine w_reg gC ?_
  try simp only [W, EE, Nat.reduceAdd, Nat.reduceBEq, hS.var 1 rfl]
  refine w_bld rfl rfl rfl rfl rfl ?_
  try simp only [W]
  refine w_alloc hS rfl rfl fun ip7 wp7 H hS => ?_
  try simp only [W]
  refine w_stv (a := .agg [.nil, .int .i64 a0.Room]) (y' := .agg [.nil, .int .i64 a0.Room]) 0 hS rfl rfl rfl rfl rfl rfl rfl rfl fun H hS => ?_
  try simp only [W]
  refine seq_n hK6 ?_
  refine w_seq fun K9 hK9 => ?_
  refine w_seq fun K10 hK10 => ?_
  refine w_reg gC ?_
  try simp only [W, EE, Nat.reduceAdd, Nat.reduceBEq, hS.var 2 rfl]
  refine seq_n hK10 ?_
  obtain ⟨y17, hw18, g24⟩ := Option.bind_eq_some_iff.1 h
  refine w_join gC (fun s H => ∃ x15 : List Int, y17 = (x15) ∧ ∃ v16 : AV, isSl v16 ∧ s = [u, u, .ptr ip4 wp4 0 0, .ptr ip7 wp7 0 0, u, u, u, u, u, u, u, u, u, u, u, u, u, u, u, u, u, u, u, u, u] ∧ Own H (⟨v16, 1, x15.map (AV.int .i64)⟩ :: ⟨.ptr ip4 wp4 0 0, 2, [.agg [.nil, .int .i64 0]]⟩ :: ⟨.ptr ip7 wp7 0 0, 2, [.agg [v16, .int .i64 a0.Room]]⟩ :: F)) (fun K19 hK19 => ?_) (fun s H hq => ?_)
  · refine w_blk fun K20 hK20 => ?_
    refine w_loop gC hw18 (fun x s H => match x with | (x11, x12) => ∃ v13 : AV, isSl v13 ∧ s = [u, u, .ptr ip4 wp4 0 0, .ptr ip7 wp7 0 0, u, u, u, u, u, u, .fz (a0.Wins.map (AV.int .i64)), .int .i64 (a0.Wins.length : Int), .int .i64 x11, u, u, u, u, u, u, u, u, u, u, u, u] ∧ Own H (⟨v13, 1, x12.map (AV.int .i64)⟩ :: ⟨.ptr ip4 wp4 0 0, 2, [.agg [.nil, .int .i64 0]]⟩ :: ⟨.ptr ip7 wp7 0 0, 2, [.agg [v13, .int .i64 a0.Room]]⟩ :: F)) ⟨_, isSl_nil, rfl, ((hS.nil_ 1).sel 4 [0, 2, 1] (by decide))⟩ (fun x y23 s H h hd22 hi K21 hK21 => ?_)
    obtain ⟨x11, x12⟩ := x
    try dsimp only at hi
    obtain ⟨v13, qv13, rfl, hS⟩ := hi
    simp only [spec_l10Grow_l0] at h
    refine w_seq fun K25 hK25 => ?_
    refine w_reg gC ?_
    try simp only [W, EE, Nat.reduceAdd]
    refine seq_n hK25 ?_
    refine w_seq fun K26 hK26 => ?_
    refine w_if ?_
    simp only [W]
    refine w_cnd h (fun hc h => ?_) (fun hc h => ?_)
    · refine w_skip ?_
      refine seq_n hK26 ?_
      refine w_seq fun K27 hK27 => ?_
      refine w_blk fun K28 hK28 => ?_
      refine w_seq fun K29 hK29 => ?_
      refine w_reg gC ?_
      try simp only [W, EE, Nat.reduceAdd]
      refine w_fz rfl rfl rfl (fun _ => rfl) h fun b30 hb30 h => ?_
      try simp only [W, EE]
      refine seq_n hK29 ?_
      refine w_reg gC ?_
      try simp only [W, EE, Nat.reduceAdd, Nat.reduceBEq, hS.var 2 rfl]
      refine w_lit (el := ([(IntKind.i64.wrap (b30 + 1))] : List Int).map (AV.int .i64)) hS rfl rfl rfl rfl rfl rfl rfl fun v31 H qv31 hS => ?_
      try simp only [W, EE]
      refine w_appV (l := x12) (c := (AV.int .i64)) 1 hS rfl qv13 rfl rfl rfl (hS.elems 0 rfl qv31) (fun _ => rfl) rfl h fun v34 H x33 qv34 hm h hS => ?_
      try simp only [W, EE, Nat.reduceAdd, Nat.reduceBEq, hS.var 3 rfl]
      refine w_stv (a := v34) (y' := .agg [v34, .int .i64 a0.Room]) 3 hS rfl rfl rfl rfl (by rw [qv34.cells]; rfl) qv34.stora (qv34.wr _ _ (by simp)) rfl fun H hS => ?_
      try simp only [W]
      refine blk_n0 hK28 ?_
      refine seq_n hK27 ?_
      refine w_reg gC ?_
      try simp only [W, EE, Nat.reduceAdd]
      exact lp_n hK21 h ⟨_, qv34, rfl, (hS.sel 4 [1, 2, 3] (by decide))⟩
    · refine w_exit ?_
      refine seq_x hK26 ?_
      try obtain rfl := Option.some.inj h
      obtain rfl := hd22 _ rfl
      have h : (some (x12) : Option ((List Int))) = some (x12) := rfl
      refine lp_x hK21 ?_
      refine blk_e hK20 ?_
      exact cut_n hK19 ⟨_, (Option.some.inj h).symm, _, qv13, rfl, hS⟩
  · obtain ⟨x15, ey, v16, qv16, rfl, hS⟩ := hq; obtain rfl := ey.symm
    replace h := g24
    try dsimp only at h
    refine seq_n hK9 ?_
    refine w_seq fun K38 hK38 => ?_
    refine w_reg gC ?_
    try simp only [W, EE, reduceIte, Nat.reduceAdd, Nat.reduceLeDiff, hS.var 2 rfl]
    refine w_stv (a := .agg [v16, .int .i64 a0.Room]) (y' := .agg [v16, .int .i64 a0.Room]) 1 hS rfl rfl rfl rfl rfl (by simp only [storA, List.all_cons, List.all_nil, qv16.stor]; rfl) rfl rfl fun H hS => ?_
    try simp only [W]
    refine seq_n hK38 ?_
    refine w_ret ?_
    refine fin_r hK0 (res_c rfl rfl (hS.var 1 rfl) rfl rfl) ?_
    try obtain rfl := Option.some.inj h
    exact hP _ qv16 _ (hS.sel 3 [0] (by decide))
theorem spec_l10Tell_w {a0 : Shares} {r : (Shares × Bool)} (h : spec_l10Tell a0 = some r) {F : List It} {H : Heap} (hS : Own H (F)) {P : AV → Heap → Prop} (hP : ∀ H', Own H' (F) → P (.tup [.agg [.fz (r.1.Wins.map (AV.int .i64)), .int .i64 r.1.Room], .bool r.2]) H') : ACall C 178 [.agg [.fz (a0.Wins.map (AV.int .i64)), .int .i64 a0.Room]] H P := by
  refine acall_of gC (res := [.cell 2 55, .tmp 3]) (n := 9) rfl rfl rfl rfl fun K0 hK0 => ?_
  simp only [W, Nat.reduceSub, Nat.reduceAdd, List.replicate]
  unfold spec_l10Tell at h
  refine w_seq fun K1 hK1 => ?_
  refine w_reg gC ?_
  try simp only [W, Nat.reduceAdd]
  refine w_box hS rfl rfl rfl rfl fun ip2 wp2 H hS => ?_
  try simp only [W]
  refine w_alloc hS rfl rfl fun ip4 wp4 H hS => ?_
  try simp only [W]
  refine seq_n hK1 ?_
  refine w_seq fun K6 hK6 => ?_
  refine w_seq fun K7 hK7 => ?_
  refine w_reg gC ?_
  try simp only [W, EE, reduceIte, Nat.reduceAdd, Nat.reduceLeDiff, hS.var 1 rfl]
  refine w_call h fun b8 hb8 h => ?_
  refine spec_GoodShares_w hb8 hS fun H hS => ?_
  try simp only [W]
  refine seq_n hK7 ?_
  refine w_if ?_
  simp only [W]
  refine w_cnd h (fun hc h => ?_) (fun hc h => ?_)
  · refine w_seq fun K9 hK9 => ?_
    refine w_regF (fz := [(1, [([7], [.sl [.sc], .sc])])]) gC ?_
    try simp only [W, EE, Nat.reduceAdd, Nat.reduceBEq]
    refine w_bld rfl rfl rfl rfl rfl ?_
    try simp only [W, Nat.reduceAdd]
    refine FZ_agg rfl ?_
    refine TC_nl ?_
    refine TC_sc rfl ?_
    refine TC_nil ?_
    simp only [W]
    try simp only [W, EE, EN, reduceIte, Nat.reduceAdd, Nat.reduceLeDiff, Nat.reduceBEq, Nat.reduceMul, Bool.false_eq_true]
    refine w_stv (a := .agg [.fz (([] : List Int).map (AV.int .i64)), .int .i64 0]) (y' := .agg [.fz (([] : List Int).map (AV.int .i64)), .int .i64 0]) 0 hS rfl rfl rfl rfl rfl rfl rfl rfl fun H hS => ?_
    try simp only [W, Nat.reduceAdd, Nat.reduceBEq]
    refine seq_n hK9 ?_
    refine w_ret ?_
    refine seq_r hK6 ?_
    refine fin_r hK0 (res_c rfl rfl (hS.var 0 rfl) rfl (res_tc rfl rfl)) ?_
    try obtain rfl := Option.some.inj h
    exact hP _ (hS.sel 2 [] (by decide))
  · refine w_skip ?_
    refine seq_n hK6 ?_
    refine w_seq fun K10 hK10 => ?_
    refine w_reg gC ?_
    try simp only [W, EE, reduceIte, Nat.reduceAdd, Nat.reduceLeDiff, hS.var 1 rfl]
    refine w_stv (a := .agg [.fz (a0.Wins.map (AV.int .i64)), .int .i64 a0.Room]) (y' := .agg [.fz (a0.Wins.map (AV.int .i64)), .int .i64 a0.Room]) 0 hS rfl rfl rfl rfl rfl rfl rfl rfl fun H hS => ?_
    try simp only [W]
    refine seq_n hK10 ?_
    refine w_ret ?_
    refine fin_r hK0 (res_c rfl rfl (hS.var 0 rfl) rfl (res_tc rfl rfl)) ?_
    try obtain rfl := Option.some.inj h
    exact hP _ (hS.sel 2 [] (by decide))
theorem spec_GrowAll_w {a0 : Shares} {r : (Shares × Bool)} (h : spec_GrowAll a0 = some r) {F : List It} {H : Heap} (hS : Own H (F)) {P : AV → Heap → Prop} (hP : ∀ H', Own H' (F) → P (.tup [.agg [.fz (r.1.Wins.map (AV.int .i64)), .int .i64 r.1.Room], .bool r.2]) H') : ACall C 49 [.agg [.fz (a0.Wins.map (AV.int .i64)), .int .i64 a0.Room]] H P := by
  refine acall_of gC (res := [.cell 2 55, .tmp 3]) (n := 13) rfl rfl rfl rfl fun K0 hK0 => ?_
  simp only [W, Nat.reduceSub, Nat.reduceAdd, List.replicate]
  unfold spec_GrowAll at h
  refine w_seq fun K1 hK1 => ?_
  refine w_reg gC ?_
  try simp only [W, Nat.reduceAdd]
  refine w_box hS rfl rfl rfl rfl fun ip2 wp2 H hS => ?_
  try simp only [W]
  refine w_alloc hS rfl rfl fun ip4 wp4 H hS => ?_
  try simp only [W]
  refine seq_n hK1 ?_
  refine w_seq fun K6 hK6 => ?_
  refine w_seq fun K7 hK7 => ?_
  refine w_reg gC ?_
  try simp only [W, EE, reduceIte, Nat.reduceAdd, Nat.reduceLeDiff, hS.var 1 rfl]
  refine w_call h fun b8 hb8 h => ?_
  refine spec_GoodShares_w hb8 hS fun H hS => ?_
  try simp only [W]
  refine seq_n hK7 ?_
  refine w_if ?_
  simp only [W]
  refine w_cnd h (fun hc h => ?_) (fun hc h => ?_)
  · refine w_seq fun K9 hK9 => ?_
    refine w_regF (fz := [(1, [([7], [.sl [.sc], .sc])])]) gC ?_
    try simp only [W, EE, Nat.reduceAdd, Nat.reduceBEq]
    refine w_bld rfl rfl rfl rfl rfl ?_
    try simp only [W, Nat.reduceAdd]
    refine FZ_agg rfl ?_
    refine TC_nl ?_
    refine TC_sc rfl ?_
    refine TC_nil ?_
    simp only [W]
    try simp only [W, EE, EN, reduceIte, Nat.reduceAdd, Nat.reduceLeDiff, Nat.reduceBEq, Nat.reduceMul, Bool.false_eq_true]
    refine w_stv (a := .agg [.fz (([] : List Int).map (AV.int .i64)), .int .i64 0]) (y' := .agg [.fz (([] : List Int).map (AV.int .i64)), .int .i64 0]) 0 hS rfl rfl rfl rfl rfl rfl rfl rfl fun H hS => ?_
    try simp only [W, Nat.reduceAdd, Nat.reduceBEq]
    refine seq_n hK9 ?_
    refine w_ret ?_
    refine seq_r hK6 ?_
    refine fin_r hK0 (res_c rfl rfl (hS.var 0 rfl) rfl (res_tc rfl rfl)) ?_
    try obtain rfl := Option.some.inj h
    exact hP _ (hS.sel 2 [] (by decide))
  · refine w_skip ?_
    refine seq_n hK6 ?_
    refine w_seq fun K10 hK10 => ?_
    refine w_regF (fz := [(2, [([9], [.sl [.sc], .sc])])]) gC ?_
    try simp only [W, EE, reduceIte, Nat.reduceAdd, Nat.reduceLeDiff, Nat.reduceBEq, hS.var 1 rfl]
    refine w_call h fun b11 hb11 h => ?_
    refine spec_l10Grow_w hb11 hS fun v12 qv12 H hS => ?_
    try simp only [W, Nat.reduceAdd]
    refine FZ_agg rfl ?_
    refine TC_ow 0 hS rfl qv12 (fun _ _ => by simp [takeE, takeT, plainA]) fun H hS => ?_
    refine TC_sc rfl ?_
    refine TC_nil ?_
    simp only [W, frzL_map (c := (AV.int .i64)) (fun _ => rfl)]
    try simp only [W, EE, EN, reduceIte, Nat.reduceAdd, Nat.reduceLeDiff, Nat.reduceBEq, Nat.reduceMul, Bool.false_eq_true]
    refine w_call h fun b14 hb14 h => ?_
    obtain ⟨b15, b16⟩ := b14
    try dsimp only at h
    refine spec_l10Tell_w hb14 hS fun H hS => ?_
    try simp only [W, Nat.reduceAdd, Nat.reduceBEq]
    refine w_stv (a := .agg [.fz (b15.Wins.map (AV.int .i64)), .int .i64 b15.Room]) (y' := .agg [.fz (b15.Wins.map (AV.int .i64)), .int .i64 b15.Room]) 0 hS rfl rfl rfl rfl rfl rfl rfl rfl fun H hS => ?_
    try simp only [W, Nat.reduceAdd, Nat.reduceBEq]
    refine seq_n hK10 ?_
    refine w_ret ?_
    refine fin_r hK0 (res_c rfl rfl (hS.var 0 rfl) rfl (res_tc rfl rfl)) ?_
    try obtain rfl := Option.some.inj h
    exact hP _ (hS.sel 2 [] (by decide))
theorem impl_sum_w {a0 : List Int} {r : (Int)} (h : impl_sum a0 = some r) {F : List It} {H : Heap} (hS : Own H (F)) {P : AV → Heap → Prop} (hP : ∀ H', Own H' (F) → P (.int .i64 r) H') : ACall C 177 [.fz (a0.map (AV.int .i64))] H P := by
  refine acall_of gC (res := [.tmp 2]) (n := 17) rfl rfl rfl rfl fun K0 hK0 => ?_
  simp only [W, Nat.reduceSub, Nat.reduceAdd, List.replicate]
  unfold impl_sum at h
  refine w_seq fun K1 hK1 => ?_
  refine w_reg gC ?_
  try simp only [W, Nat.reduceAdd]
  refine seq_n hK1 ?_
  refine w_seq fun K2 hK2 => ?_
  refine w_reg gC ?_
  try simp only [W, Nat.reduceAdd]
  refine seq_n hK2 ?_
  refine w_seq fun K3 hK3 => ?_
  refine w_seq fun K4 hK4 => ?_
  refine w_reg gC ?_
  try simp only [W, EE, Nat.reduceAdd]
  refine seq_n hK4 ?_
  obtain ⟨y8, hw9, g15⟩ := Option.bind_eq_some_iff.1 h
  refine w_join gC (fun s H => ∃ x7 : Int, y8 = (x7) ∧ s = [u, u, u, .int .i64 x7, u, u, u, u, u, u, u, u, u, u, u, u, u] ∧ Own H (F)) (fun K10 hK10 => ?_) (fun s H hq => ?_)
  · refine w_blk fun K11 hK11 => ?_
    refine w_loop gC hw9 (fun x s H => match x with | (x5, x6) => s = [u, u, u, .int .i64 x5, u, u, .fz (a0.map (AV.int .i64)), .int .i64 (a0.length : Int), .int .i64 x6, u, u, u, u, u, u, u, u] ∧ Own H (F)) ⟨rfl, hS⟩ (fun x y14 s H h hd13 hi K12 hK12 => ?_)
    obtain ⟨x5, x6⟩ := x
    try dsimp only at hi
    obtain ⟨rfl, hS⟩ := hi
    simp only [impl_sum_l0] at h
    refine w_seq fun K16 hK16 => ?_
    refine w_reg gC ?_
    try simp only [W, EE, Nat.reduceAdd]
    refine seq_n hK16 ?_
    refine w_seq fun K17 hK17 => ?_
    refine w_if ?_
    simp only [W]
    refine w_cnd h (fun hc h => ?_) (fun hc h => ?_)
    · refine w_skip ?_
      refine seq_n hK17 ?_
      refine w_seq fun K18 hK18 => ?_
      refine w_blk fun K19 hK19 => ?_
      refine w_seq fun K20 hK20 => ?_
      refine w_reg gC ?_
      try simp only [W, EE, Nat.reduceAdd]
      refine w_fz rfl rfl rfl (fun _ => rfl) h fun b21 hb21 h => ?_
      try simp only [W, EE]
      refine seq_n hK20 ?_
      refine w_reg gC ?_
      try simp only [W, EE, Nat.reduceAdd]
      refine blk_n0 hK19 ?_
      refine seq_n hK18 ?_
      refine w_reg gC ?_
      try simp only [W, EE, Nat.reduceAdd]
      exact lp_n hK12 h ⟨rfl, hS⟩
    · refine w_exit ?_
      refine seq_x hK17 ?_
      try obtain rfl := Option.some.inj h
      obtain rfl := hd13 _ rfl
      have h : (some (x5) : Option (Int)) = some (x5) := rfl
      refine lp_x hK12 ?_
      refine blk_e hK11 ?_
      exact cut_n hK10 ⟨_, (Option.some.inj h).symm, rfl, hS⟩
  · obtain ⟨x7, ey, rfl, hS⟩ := hq; obtain rfl := ey.symm
    replace h := g15
    try dsimp only at h
    refine seq_n hK3 ?_
    refine w_seq fun K24 hK24 => ?_
    refine w_reg gC ?_
    try simp only [W, Nat.reduceAdd]
    refine seq_n hK24 ?_
    refine w_ret ?_
    refine fin_r1 hK0 rfl ?_
    try obtain rfl := Option.some.inj h
    exact hP _ hS
theorem impl_FairnessOf_w {a0 : Shares} {r : (Int × Int × Bool)} (h : impl_FairnessOf a0 = some r) {F : List It} {H : Heap} (hS : Own H (F)) {P : AV → Heap → Prop} (hP : ∀ H', Own H' (F) → P (.tup [.int .i64 r.1, .int .i64 r.2.1, .bool r.2.2]) H') : ACall C 50 [.agg [.fz (a0.Wins.map (AV.int .i64)), .int .i64 a0.Room]] H P := by
  refine acall_of gC (res := [.tmp 2, .tmp 3, .tmp 4]) (n := 36) rfl rfl rfl rfl fun K0 hK0 => ?_
  simp only [W, Nat.reduceSub, Nat.reduceAdd, List.replicate]
  unfold impl_FairnessOf at h
  refine w_seq fun K1 hK1 => ?_
  refine w_reg gC ?_
  try simp only [W, Nat.reduceAdd]
  refine w_box hS rfl rfl rfl rfl fun ip2 wp2 H hS => ?_
  try simp only [W]
  refine seq_n hK1 ?_
  refine w_seq fun K4 hK4 => ?_
  refine w_seq fun K5 hK5 => ?_
  refine w_reg gC ?_
  try simp only [W, EE, reduceIte, Nat.reduceAdd, Nat.reduceLeDiff, hS.var 0 rfl]
  refine w_call h fun b6 hb6 h => ?_
  refine impl_GoodShares_w hb6 hS fun H hS => ?_
  try simp only [W]
  refine seq_n hK5 ?_
  refine w_if ?_
  simp only [W]
  refine w_cnd h (fun hc h => ?_) (fun hc h => ?_)
  · refine w_seq fun K7 hK7 => ?_
    refine w_reg gC ?_
    try simp only [W, Nat.reduceAdd]
    refine seq_n hK7 ?_
    refine w_ret ?_
    refine seq_r hK4 ?_
    refine fin_r3 hK0 rfl rfl rfl ?_
    try obtain rfl := Option.some.inj h
    exact hP _ (hS.sel 1 [] (by decide))
  · refine w_skip ?_
    refine seq_n hK4 ?_
    refine w_seq fun K8 hK8 => ?_
    refine w_reg gC ?_
    try simp only [W, Nat.reduceAdd]
    refine seq_n hK8 ?_
    refine w_seq fun K9 hK9 => ?_
    refine w_seq fun K10 hK10 => ?_
    refine w_reg gC ?_
    try simp only [W, EE, Nat.reduceAdd, Nat.reduceBEq, hS.var 0 rfl]
    refine seq_n hK10 ?_
    obtain ⟨y14, hw15, g21⟩ := Option.bind_eq_some_iff.1 h
    refine w_join gC (fun s H => ∃ x13 : Int, y14 = (x13) ∧ s = [u, .ptr ip2 wp2 0 0, u, u, u, .int .i64 x13, u, u, u, u, u, u, u, u, u, u, u, u, u, u, u, u, u, u, u, u, u, u, u, u, u, u, u, u, u, u] ∧ Own H (⟨.ptr ip2 wp2 0 0, 2, [.agg [.fz (a0.Wins.map (AV.int .i64)), .int .i64 a0.Room]]⟩ :: F)) (fun K16 hK16 => ?_) (fun s H hq => ?_)
    · refine w_blk fun K17 hK17 => ?_
      refine w_loop gC hw15 (fun x s H => match x with | (x11, x12) => s = [u, .ptr ip2 wp2 0 0, u, u, u, .int .i64 x11, u, u, u, u, u, u, u, .fz (a0.Wins.map (AV.int .i64)), .int .i64 (a0.Wins.length : Int), .int .i64 x12, u, u, u, u, u, u, u, u, u, u, u, u, u, u, u, u, u, u, u, u] ∧ Own H (⟨.ptr ip2 wp2 0 0, 2, [.agg [.fz (a0.Wins.map (AV.int .i64)), .int .i64 a0.Room]]⟩ :: F)) ⟨rfl, hS⟩ (fun x y20 s H h hd19 hi K18 hK18 => ?_)
      obtain ⟨x11, x12⟩ := x
      try dsimp only at hi
      obtain ⟨rfl, hS⟩ := hi
      simp only [impl_FairnessOf_l0] at h
      refine w_seq fun K22 hK22 => ?_
      refine w_reg gC ?_
      try simp only [W, EE, Nat.reduceAdd]
      refine seq_n hK22 ?_
      refine w_seq fun K23 hK23 => ?_
      refine w_if ?_
      simp only [W]
      refine w_cnd h (fun hc h => ?_) (fun hc h => ?_)
      · refine w_skip ?_
        refine seq_n hK23 ?_
        refine w_seq fun K24 hK24 => ?_
        refine w_blk fun K25 hK25 => ?_
        refine w_seq fun K26 hK26 => ?_
        refine w_reg gC ?_
        try simp only [W, EE, Nat.reduceAdd]
        refine w_fz rfl rfl rfl (fun _ => rfl) h fun b27 hb27 h => ?_
        try simp only [W, EE]
        refine seq_n hK26 ?_
        refine w_reg gC ?_
        try simp only [W, EE, Nat.reduceAdd]
        refine blk_n0 hK25 ?_
        refine seq_n hK24 ?_
        refine w_reg gC ?_
        try simp only [W, EE, Nat.reduceAdd]
        exact lp_n hK18 h ⟨rfl, hS⟩
      · refine w_exit ?_
        refine seq_x hK23 ?_
        try obtain rfl := Option.some.inj h
        obtain rfl := hd19 _ rfl
        have h : (some (x11) : Option (Int)) = some (x11) := rfl
        refine lp_x hK18 ?_
        refine blk_e hK17 ?_
        exact cut_n hK16 ⟨_, (Option.some.inj h).symm, rfl, hS⟩
    · obtain ⟨x13, ey, rfl, hS⟩ := hq; obtain rfl := ey.symm
      replace h := g21
      try dsimp only at h
      refine seq_n hK9 ?_
      refine w_seq fun K30 hK30 => ?_
      refine w_reg gC ?_
      try simp only [W, EE, Nat.reduceAdd, Nat.reduceBEq, hS.var 0 rfl]
      refine w_call h fun b31 hb31 h => ?_
      refine impl_sum_w hb31 hS fun H hS => ?_
      try simp only [W]
      refine seq_n hK30 ?_
      refine w_seq fun K32 hK32 => ?_
      refine w_draw0 gC (by kernel_rfl) ?_
      try simp only [W, EE, Nat.reduceAdd, Nat.reduceBEq, hS.var 0 rfl]
      refine seq_n hK32 ?_
      refine w_ret ?_
      refine fin_r3 hK0 rfl rfl rfl ?_
      try obtain rfl := Option.some.inj h
      exact hP _ (hS.sel 1 [] (by decide))
theorem spec_l1Sum_w {a0 : List Int} {r : (Int)} (h : spec_l1Sum a0 = some r) {F : List It} {H : Heap} (hS : Own H (F)) {P : AV → Heap → Prop} (hP : ∀ H', Own H' (F) → P (.int .i64 r) H') : ACall C 245 [.fz (a0.map (AV.int .i64))] H P := by
  refine acall_of gC (res := [.tmp 2]) (n := 17) rfl rfl rfl rfl fun K0 hK0 => ?_
  simp only [W, Nat.reduceSub, Nat.reduceAdd, List.replicate]
  unfold spec_l1Sum at h
  refine w_seq fun K1 hK1 => ?_
  refine w_reg gC ?_
  try simp only [W, Nat.reduceAdd]
  refine seq_n hK1 ?_
  refine w_seq fun K2 hK2 => ?_
  refine w_reg gC ?_
  try simp only [W, Nat.reduceAdd]
  refine seq_n hK2 ?_
  refine w_seq fun K3 hK3 => ?_
  refine w_seq fun K4 hK4 => ?_
  refine w_reg gC ?_
  try simp only [W, EE, Nat.reduceAdd]
  refine seq_n hK4 ?_
  obtain ⟨y8, hw9, g15⟩ := Option.bind_eq_some_iff.1 h
  refine w_join gC (fun s H => ∃ x7 : Int, y8 = (x7) ∧ s = [u, u, u, .int .i64 x7, u, u, u, u, u, u, u, u, u, u, u, u, u] ∧ Own H (F)) (fun K10 hK10 => ?_) (fun s H hq => ?_)
  · refine w_blk fun K11 hK11 => ?_
    refine w_loop gC hw9 (fun x s H => match x with | (x5, x6) => s = [u, u, u, .int .i64 x5, u, u, .fz (a0.map (AV.int .i64)), .int .i64 (a0.length : Int), .int .i64 x6, u, u, u, u, u, u, u, u] ∧ Own H (F)) ⟨rfl, hS⟩ (fun x y14 s H h hd13 hi K12 hK12 => ?_)
    obtain ⟨x5, x6⟩ := x
    try dsimp only at hi
    obtain ⟨rfl, hS⟩ := hi
    simp only [spec_l1Sum_l0] at h
    refine w_seq fun K16 hK16 => ?_
    refine w_reg gC ?_
    try simp only [W, EE, Nat.reduceAdd]
    refine seq_n hK16 ?_
    refine w_seq fun K17 hK17 => ?_
    refine w_if ?_
    simp only [W]
    refine w_cnd h (fun hc h => ?_) (fun hc h => ?_)
    · refine w_skip ?_
      refine seq_n hK17 ?_
      refine w_seq fun K18 hK18 => ?_
      refine w_blk fun K19 hK19 => ?_
      refine w_seq fun K20 hK20 => ?_
      refine w_reg gC ?_
      try simp only [W, EE, Nat.reduceAdd]
      refine w_fz rfl rfl rfl (fun _ => rfl) h fun b21 hb21 h => ?_
      try simp only [W, EE]
      refine seq_n hK20 ?_
      refine w_reg gC ?_
      try simp only [W, EE, Nat.reduceAdd]
      refine blk_n0 hK19 ?_
      refine seq_n hK18 ?_
      refine w_reg gC ?_
      try simp only [W, EE, Nat.reduceAdd]
      exact lp_n hK12 h ⟨rfl, hS⟩
    · refine w_exit ?_
      refine seq_x hK17 ?_
      try obtain rfl := Option.some.inj h
      obtain rfl := hd13 _ rfl
      have h : (some (x5) : Option (Int)) = some (x5) := rfl
      refine lp_x hK12 ?_
      refine blk_e hK11 ?_
      exact cut_n hK10 ⟨_, (Option.some.inj h).symm, rfl, hS⟩
  · obtain ⟨x7, ey, rfl, hS⟩ := hq; obtain rfl := ey.symm
    replace h := g15
    try dsimp only at h
    refine seq_n hK3 ?_
    refine w_seq fun K24 hK24 => ?_
    refine w_reg gC ?_
    try simp only [W, Nat.reduceAdd]
    refine seq_n hK24 ?_
    refine w_ret ?_
    refine fin_r1 hK0 rfl ?_
    try obtain rfl := Option.some.inj h
    exact hP _ hS
theorem spec_l10Fairness_w {a0 : Shares} {r : (Int × Int)} (h : spec_l10Fairness a0 = some r) {F : List It} {H : Heap} (hS : Own H (F)) {P : AV → Heap → Prop} (hP : ∀ H', Own H' (F) → P (.tup [.int .i64 r.1, .int .i64 r.2]) H') : ACall C 182 [.agg [.fz (a0.Wins.map (AV.int .i64)), .int .i64 a0.Room]] H P := by
  refine acall_of gC (res := [.tmp 2, .tmp 3]) (n := 32) rfl rfl rfl rfl fun K0 hK0 => ?_
  simp only [W, Nat.reduceSub, Nat.reduceAdd, List.replicate]
  unfold spec_l10Fairness at h
  refine w_seq fun K1 hK1 => ?_
  refine w_reg gC ?_
  try simp only [W, Nat.reduceAdd]
  refine w_box hS rfl rfl rfl rfl fun ip2 wp2 H hS => ?_
  try simp only [W]
  refine seq_n hK1 ?_
  refine w_seq fun K4 hK4 => ?_
  refine w_reg gC ?_
  try simp only [W, EE, Nat.reduceAdd, Nat.reduceBEq, hS.var 0 rfl]
  refine w_call h fun b5 hb5 h => ?_
  refine spec_l1Sum_w hb5 hS fun H hS => ?_
  try simp only [W]
  refine seq_n hK4 ?_
  refine w_seq fun K6 hK6 => ?_
  refine w_reg gC ?_
  try simp only [W, Nat.reduceAdd]
  refine seq_n hK6 ?_
  refine w_seq fun K7 hK7 => ?_
  refine w_seq fun K8 hK8 => ?_
  refine w_reg gC ?_
  try simp only [W, EE, Nat.reduceAdd, Nat.reduceBEq, hS.var 0 rfl]
  refine seq_n hK8 ?_
  obtain ⟨y12, hw13, g19⟩ := Option.bind_eq_some_iff.1 h
  refine w_join gC (fun s H => ∃ x11 : Int, y12 = (x11) ∧ s = [u, .ptr ip2 wp2 0 0, u, u, .int .i64 b5, .int .i64 x11, u, u, u, u, u, u, u, u, u, u, u, u, u, u, u, u, u, u, u, u, u, u, u, u, u, u] ∧ Own H (⟨.ptr ip2 wp2 0 0, 2, [.agg [.fz (a0.Wins.map (AV.int .i64)), .int .i64 a0.Room]]⟩ :: F)) (fun K14 hK14 => ?_) (fun s H hq => ?_)
  · refine w_blk fun K15 hK15 => ?_
    refine w_loop gC hw13 (fun x s H => match x with | (x9, x10) => s = [u, .ptr ip2 wp2 0 0, u, u, .int .i64 b5, .int .i64 x9, u, u, u, u, u, u, .fz (a0.Wins.map (AV.int .i64)), .int .i64 (a0.Wins.length : Int), .int .i64 x10, u, u, u, u, u, u, u, u, u, u, u, u, u, u, u, u, u] ∧ Own H (⟨.ptr ip2 wp2 0 0, 2, [.agg [.fz (a0.Wins.map (AV.int .i64)), .int .i64 a0.Room]]⟩ :: F)) ⟨rfl, hS⟩ (fun x y18 s H h hd17 hi K16 hK16 => ?_)
    obtain ⟨x9, x10⟩ := x
    try dsimp only at hi
    obtain ⟨rfl, hS⟩ := hi
    simp only [spec_l10Fairness_l0] at h
    refine w_seq fun K20 hK20 => ?_
    refine w_reg gC ?_
    try simp only [W, EE, Nat.reduceAdd]
    refine seq_n hK20 ?_
    refine w_seq fun K21 hK21 => ?_
    refine w_if ?_
    simp only [W]
    refine w_cnd h (fun hc h => ?_) (fun hc h => ?_)
    · refine w_skip ?_
      refine seq_n hK21 ?_
      refine w_seq fun K22 hK22 => ?_
      refine w_blk fun K23 hK23 => ?_
      refine w_seq fun K24 hK24 => ?_
      refine w_reg gC ?_
      try simp only [W, EE, Nat.reduceAdd]
      refine w_fz rfl rfl rfl (fun _ => rfl) h fun b25 hb25 h => ?_
      try simp only [W, EE]
      refine seq_n hK24 ?_
      refine w_reg gC ?_
      try simp only [W, EE, Nat.reduceAdd]
      refine blk_n0 hK23 ?_
      refine seq_n hK22 ?_
      refine w_reg gC ?_
      try simp only [W, EE, Nat.reduceAdd]
      exact lp_n hK16 h ⟨rfl, hS⟩
    · refine w_exit ?_
      refine seq_x hK21 ?_
      try obtain rfl := Option.some.inj h
      obtain rfl := hd17 _ rfl
      have h : (some (x9) : Option (Int)) = some (x9) := rfl
      refine lp_x hK16 ?_
      refine blk_e hK15 ?_
      exact cut_n hK14 ⟨_, (Option.some.inj h).symm, rfl, hS⟩
  · obtain ⟨x11, ey, rfl, hS⟩ := hq; obtain rfl := ey.symm
    replace h := g19
    try dsimp only at h
    refine seq_n hK7 ?_
    refine w_seq fun K28 hK28 => ?_
    refine w_draw0 gC (by kernel_rfl) ?_
    try simp only [W, EE, Nat.reduceAdd, Nat.reduceBEq, hS.var 0 rfl]
    refine seq_n hK28 ?_
    refine w_ret ?_
    refine fin_r2 hK0 rfl rfl ?_
    try obtain rfl := Option.some.inj h
    exact hP _ (hS.sel 1 [] (by decide))
theorem spec_FairnessOf_w {a0 : Shares} {r : (Int × Int × Bool)} (h : spec_FairnessOf a0 = some r) {F : List It} {H : Heap} (hS : Own H (F)) {P : AV → Heap → Prop} (hP : ∀ H', Own H' (F) → P (.tup [.int .i64 r.1, .int .i64 r.2.1, .bool r.2.2]) H') : ACall C 51 [.agg [.fz (a0.Wins.map (AV.int .i64)), .int .i64 a0.Room]] H P := by
  refine acall_of gC (res := [.tmp 2, .tmp 3, .tmp 4]) (n := 17) rfl rfl rfl rfl fun K0 hK0 => ?_
  simp only [W, Nat.reduceSub, Nat.reduceAdd, List.replicate]
  unfold spec_FairnessOf at h
  refine w_seq fun K1 hK1 => ?_
  refine w_reg gC ?_
  try simp only [W, Nat.reduceAdd]
  refine w_box hS rfl rfl rfl rfl fun ip2 wp2 H hS => ?_
  try simp only [W]
  refine seq_n hK1 ?_
  refine w_seq fun K4 hK4 => ?_
  refine w_seq fun K5 hK5 => ?_
  refine w_reg gC ?_
  try simp only [W, EE, reduceIte, Nat.reduceAdd, Nat.reduceLeDiff, hS.var 0 rfl]
  refine w_call h fun b6 hb6 h => ?_
  refine spec_GoodShares_w hb6 hS fun H hS => ?_
  try simp only [W]
  refine seq_n hK5 ?_
  refine w_if ?_
  simp only [W]
  refine w_cnd h (fun hc h => ?_) (fun hc h => ?_)
  · refine w_seq fun K7 hK7 => ?_
    refine w_reg gC ?_
    try simp only [W, Nat.reduceAdd]
    refine seq_n hK7 ?_
    refine w_ret ?_
    refine seq_r hK4 ?_
    refine fin_r3 hK0 rfl rfl rfl ?_
    try obtain rfl := Option.some.inj h
    exact hP _ (hS.sel 1 [] (by decide))
  · refine w_skip ?_
    refine seq_n hK4 ?_
    refine w_seq fun K8 hK8 => ?_
    refine w_reg gC ?_
    try simp only [W, EE, reduceIte, Nat.reduceAdd, Nat.reduceLeDiff, hS.var 0 rfl]
    refine w_call h fun b9 hb9 h => ?_
    obtain ⟨b10, b11⟩ := b9
    try dsimp only at h
    refine spec_l10Fairness_w hb9 hS fun H hS => ?_
    try simp only [W]
    refine seq_n hK8 ?_
    refine w_seq fun K12 hK12 => ?_
    refine w_reg gC ?_
    try simp only [W, Nat.reduceAdd]
    refine seq_n hK12 ?_
    refine w_ret ?_
    refine fin_r3 hK0 rfl rfl rfl ?_
    try obtain rfl := Option.some.inj h
    exact hP _ (hS.sel 1 [] (by decide))
theorem slices_Max_int_w {a0 : List Int} {r : (Int)} (h : slices_Max_int a0 = some r) {F : List It} {H : Heap} (hS : Own H (F)) {P : AV → Heap → Prop} (hP : ∀ H', Own H' (F) → P (.int .i64 r) H') : ACall C 173 [.fz (a0.map (AV.int .i64))] H P := by
  refine acall_of gC (res := [.tmp 2]) (n := 25) rfl rfl rfl rfl fun K0 hK0 => ?_
  simp only [W, Nat.reduceSub, Nat.reduceAdd, List.replicate]
  unfold slices_Max_int at h
  refine w_seq fun K1 hK1 => ?_
  refine w_reg gC ?_
  try simp only [W, Nat.reduceAdd]
  refine seq_n hK1 ?_
  refine w_seq fun K2 hK2 => ?_
  refine w_seq fun K3 hK3 => ?_
  refine w_reg gC ?_
  try simp only [W, EE, Nat.reduceAdd]
  refine seq_n hK3 ?_
  obtain ⟨y4, h, g5⟩ := Option.bind_eq_some_iff.1 h
  refine w_join gC (fun s H => y4 = () ∧ s = [.fz (a0.map (AV.int .i64)), u, u, u, u, u, u, u, u, u, u, u, u, u, u, u, u, u, u, u, u, u, u, u, u] ∧ Own H (F)) (fun K6 hK6 => ?_) (fun s H hq => ?_)
  · refine w_seq fun K7 hK7 => ?_
    refine w_if ?_
    simp only [W]
    refine w_cnd h (fun hc h => ?_) (fun hc h => ?_)
    · refine w_reg gC ?_
      try simp only [W, Nat.reduceAdd]
      exact absurd h (by simp)
    · refine w_skip ?_
      refine seq_n hK7 ?_
      refine w_kill ?_
      exact cut_n hK6 ⟨(Option.some.inj h).symm, rfl, hS⟩
  · obtain ⟨rfl, rfl, hS⟩ := hq
    replace h := g5
    try dsimp only at h
    refine seq_n hK2 ?_
    refine w_seq fun K8 hK8 => ?_
    refine w_reg gC ?_
    try simp only [W, EE, Nat.reduceAdd]
    refine w_fz rfl rfl rfl (fun _ => rfl) h fun b9 hb9 h => ?_
    try simp only [W, EE]
    refine seq_n hK8 ?_
    refine w_seq fun K10 hK10 => ?_
    refine w_seq fun K11 hK11 => ?_
    refine w_reg gC ?_
    try simp only [W, Nat.reduceAdd]
    refine seq_n hK11 ?_
    obtain ⟨y15, hw16, g22⟩ := Option.bind_eq_some_iff.1 h
    refine w_join gC (fun s H => ∃ x14 : Int, y15 = (x14) ∧ s = [u, u, u, .int .i64 x14, u, u, u, u, u, u, u, u, u, u, u, u, u, u, u, u, u, u, u, u, u] ∧ Own H (F)) (fun K17 hK17 => ?_) (fun s H hq => ?_)
    · refine w_blk fun K18 hK18 => ?_
      refine w_loop gC hw16 (fun x s H => match x with | (x12, x13) => s = [.fz (a0.map (AV.int .i64)), u, u, .int .i64 x12, .int .i64 x13, u, u, u, u, u, u, u, u, u, u, u, u, u, u, u, u, u, u, u, u] ∧ Own H (F)) ⟨rfl, hS⟩ (fun x y21 s H h hd20 hi K19 hK19 => ?_)
      obtain ⟨x12, x13⟩ := x
      try dsimp only at hi
      obtain ⟨rfl, hS⟩ := hi
      simp only [slices_Max_int_l0] at h
      refine w_seq fun K23 hK23 => ?_
      refine w_seq fun K24 hK24 => ?_
      refine w_reg gC ?_
      try simp only [W, EE, Nat.reduceAdd]
      refine seq_n hK24 ?_
      refine w_if ?_
      simp only [W]
      refine w_cnd h (fun hc h => ?_) (fun hc h => ?_)
      · refine w_skip ?_
        refine seq_n hK23 ?_
        refine w_seq fun K25 hK25 => ?_
        refine w_blk fun K26 hK26 => ?_
        refine w_reg gC ?_
        try simp only [W, EE, Nat.reduceAdd]
        refine w_fz rfl rfl rfl (fun _ => rfl) h fun b27 hb27 h => ?_
        try simp only [W, EE]
        refine blk_n0 hK26 ?_
        refine seq_n hK25 ?_
        refine w_reg gC ?_
        try simp only [W, EE, Nat.reduceAdd]
        exact lp_n hK19 h ⟨rfl, hS⟩
      · refine w_exit ?_
        refine seq_x hK23 ?_
        try obtain rfl := Option.some.inj h
        obtain rfl := hd20 _ rfl
        have h : (some (x12) : Option (Int)) = some (x12) := rfl
        refine lp_x hK19 ?_
        refine blk_e hK18 ?_
        exact cut_n hK17 ⟨_, (Option.some.inj h).symm, rfl, hS⟩
    · obtain ⟨x14, ey, rfl, hS⟩ := hq; obtain rfl := ey.symm
      replace h := g22
      try dsimp only at h
      refine seq_n hK10 ?_
      refine w_seq fun K30 hK30 => ?_
      refine w_reg gC ?_
      try simp only [W, Nat.reduceAdd]
      refine seq_n hK30 ?_
      refine w_ret ?_
      refine fin_r1 hK0 rfl ?_
      try obtain rfl := Option.some.inj h
      exact hP _ hS
theorem slices_Min_int_w {a0 : List Int} {r : (Int)} (h : slices_Min_int a0 = some r) {F : List It} {H : Heap} (hS : Own H (F)) {P : AV → Heap → Prop} (hP : ∀ H', Own H' (F) → P (.int .i64 r) H') : ACall C 174 [.fz (a0.map (AV.int .i64))] H P := by
  refine acall_of gC (res := [.tmp 2]) (n := 25) rfl rfl rfl rfl fun K0 hK0 => ?_
  simp only [W, Nat.reduceSub, Nat.reduceAdd, List.replicate]
  unfold slices_Min_int at h
  refine w_seq fun K1 hK1 => ?_
  refine w_reg gC ?_
  try simp only [W, Nat.reduceAdd]
  refine seq_n hK1 ?_
  refine w_seq fun K2 hK2 => ?_
  refine w_seq fun K3 hK3 => ?_
  refine w_reg gC ?_
  try simp only [W, EE, Nat.reduceAdd]
  refine seq_n hK3 ?_
  obtain ⟨y4, h, g5⟩ := Option.bind_eq_some_iff.1 h
  refine w_join gC (fun s H => y4 = () ∧ s = [.fz (a0.map (AV.int .i64)), u, u, u, u, u, u, u, u, u, u, u, u, u, u, u, u, u, u, u, u, u, u, u, u] ∧ Own H (F)) (fun K6 hK6 => ?_) (fun s H hq => ?_)
  · refine w_seq fun K7 hK7 => ?_
    refine w_if ?_
    simp only [W]
    refine w_cnd h (fun hc h => ?_) (fun hc h => ?_)
    · refine w_reg gC ?_
      try simp only [W, Nat.reduceAdd]
      exact absurd h (by simp)
    · refine w_skip ?_
      refine seq_n hK7 ?_
      refine w_kill ?_
      exact cut_n hK6 ⟨(Option.some.inj h).symm, rfl, hS⟩
  · obtain ⟨rfl, rfl, hS⟩ := hq
    replace h := g5
    try dsimp only at h
    refine seq_n hK2 ?_
    refine w_seq fun K8 hK8 => ?_
    refine w_reg gC ?_
    try simp only [W, EE, Nat.reduceAdd]
    refine w_fz rfl rfl rfl (fun _ => rfl) h fun b9 hb9 h => ?_
    try simp only [W, EE]
    refine seq_n hK8 ?_
    refine w_seq fun K10 hK10 => ?_
    refine w_seq fun K11 hK11 => ?_
    refine w_reg gC ?_
    try simp only [W, Nat.reduceAdd]
    refine seq_n hK11 ?_
    obtain ⟨y15, hw16, g22⟩ := Option.bind_eq_some_iff.1 h
    refine w_join gC (fun s H => ∃ x14 : Int, y15 = (x14) ∧ s = [u, u, u, .int .i64 x14, u, u, u, u, u, u, u, u, u, u, u, u, u, u, u, u, u, u, u, u, u] ∧ Own H (F)) (fun K17 hK17 => ?_) (fun s H hq => ?_)
    · refine w_blk fun K18 hK18 => ?_
      refine w_loop gC hw16 (fun x s H => match x with | (x12, x13) => s = [.fz (a0.map (AV.int .i64)), u, u, .int .i64 x12, .int .i64 x13, u, u, u, u, u, u, u, u, u, u, u, u, u, u, u, u, u, u, u, u] ∧ Own H (F)) ⟨rfl, hS⟩ (fun x y21 s H h hd20 hi K19 hK19 => ?_)
      obtain ⟨x12, x13⟩ := x
      try dsimp only at hi
      obtain ⟨rfl, hS⟩ := hi
      simp only [slices_Min_int_l0] at h
      refine w_seq fun K23 hK23 => ?_
      refine w_seq fun K24 hK24 => ?_
      refine w_reg gC ?_
      try simp only [W, EE, Nat.reduceAdd]
      refine seq_n hK24 ?_
      refine w_if ?_
      simp only [W]
      refine w_cnd h (fun hc h => ?_) (fun hc h => ?_)
      · refine w_skip ?_
        refine seq_n hK23 ?_
        refine w_seq fun K25 hK25 => ?_
        refine w_blk fun K26 hK26 => ?_
        refine w_reg gC ?_
        try simp only [W, EE, Nat.reduceAdd]
        refine w_fz rfl rfl rfl (fun _ => rfl) h fun b27 hb27 h => ?_
        try simp only [W, EE]
        refine blk_n0 hK26 ?_
        refine seq_n hK25 ?_
        refine w_reg gC ?_
        try simp only [W, EE, Nat.reduceAdd]
        exact lp_n hK19 h ⟨rfl, hS⟩
      · refine w_exit ?_
        refine seq_x hK23 ?_
        try obtain rfl := Option.some.inj h
        obtain rfl := hd20 _ rfl
        have h : (some (x12) : Option (Int)) = some (x12) := rfl
        refine lp_x hK19 ?_
        refine blk_e hK18 ?_
        exact cut_n hK17 ⟨_, (Option.some.inj h).symm, rfl, hS⟩
    · obtain ⟨x14, ey, rfl, hS⟩ := hq; obtain rfl := ey.symm
      replace h := g22
      try dsimp only at h
      refine seq_n hK10 ?_
      refine w_seq fun K30 hK30 => ?_
      refine w_reg gC ?_
      try simp only [W, Nat.reduceAdd]
      refine seq_n hK30 ?_
      refine w_ret ?_
      refine fin_r1 hK0 rfl ?_
      try obtain rfl := Option.some.inj h
      exact hP _ hS
theorem impl_SpreadOf_w {a0 : Shares} {r : (Int × Bool)} (h : impl_SpreadOf a0 = some r) {F : List It} {H : Heap} (hS : Own H (F)) {P : AV → Heap → Prop} (hP : ∀ H', Own H' (F) → P (.tup [.int .i64 r.1, .bool r.2]) H') : ACall C 42 [.agg [.fz (a0.Wins.map (AV.int .i64)), .int .i64 a0.Room]] H P := by
  refine acall_of gC (res := [.tmp 2, .tmp 3]) (n := 14) rfl rfl rfl rfl fun K0 hK0 => ?_
  simp only [W, Nat.reduceSub, Nat.reduceAdd, List.replicate]
  unfold impl_SpreadOf at h
  refine w_seq fun K1 hK1 => ?_
  refine w_reg gC ?_
  try simp only [W, Nat.reduceAdd]
  refine w_box hS rfl rfl rfl rfl fun ip2 wp2 H hS => ?_
  try simp only [W]
  refine seq_n hK1 ?_
  refine w_seq fun K4 hK4 => ?_
  refine w_seq fun K5 hK5 => ?_
  refine w_reg gC ?_
  try simp only [W, EE, reduceIte, Nat.reduceAdd, Nat.reduceLeDiff, hS.var 0 rfl]
  refine w_call h fun b6 hb6 h => ?_
  refine impl_GoodShares_w hb6 hS fun H hS => ?_
  try simp only [W]
  refine seq_n hK5 ?_
  refine w_if ?_
  simp only [W]
  refine w_cnd h (fun hc h => ?_) (fun hc h => ?_)
  · refine w_seq fun K7 hK7 => ?_
    refine w_reg gC ?_
    try simp only [W, Nat.reduceAdd]
    refine seq_n hK7 ?_
    refine w_ret ?_
    refine seq_r hK4 ?_
    refine fin_r2 hK0 rfl rfl ?_
    try obtain rfl := Option.some.inj h
    exact hP _ (hS.sel 1 [] (by decide))
  · refine w_skip ?_
    refine seq_n hK4 ?_
    refine w_seq fun K8 hK8 => ?_
    refine w_draw0 gC (by kernel_rfl) ?_
    try simp only [W, EE, Nat.reduceAdd, Nat.reduceBEq, hS.var 0 rfl]
    refine w_callS (rsh := [[.sc]]) (ys := [.fz (a0.Wins.map (AV.int .i64))]) h rfl (by rfl) fun b9 hb9 h => ⟨.int .i64 b9, slices_Max_int_w hb9 (Own.nil _) fun H hS => TV_ok rfl (TV_p rfl (TV_n rfl)), ⟨rfl, rfl, fun _ => rfl⟩, ?_⟩
    try simp only [W, EE, Nat.reduceAdd, Nat.reduceBEq, hS.var 0 rfl]
    refine w_callS (rsh := [[.sc]]) (ys := [.fz (a0.Wins.map (AV.int .i64))]) h rfl (by rfl) fun b10 hb10 h => ⟨.int .i64 b10, slices_Min_int_w hb10 (Own.nil _) fun H hS => TV_ok rfl (TV_p rfl (TV_n rfl)), ⟨rfl, rfl, fun _ => rfl⟩, ?_⟩
    try simp only [W, EE]
    refine seq_n hK8 ?_
    refine w_ret ?_
    refine fin_r2 hK0 rfl rfl ?_
    try obtain rfl := Option.some.inj h
    exact hP _ (hS.sel 1 [] (by decide))
theorem spec_l1Least_w {a0 : Int} {a1 : Int} {r : (Int)} (h : spec_l1Least a0 a1 = some r) {F : List It} {H : Heap} (hS : Own H (F)) {P : AV → Heap → Prop} (hP : ∀ H', Own H' (F) → P (.int .i64 r) H') : ACall C 162 [.int .i64 a0, .int .i64 a1] H P := by
  refine acall_of gC (res := [.tmp 4]) (n := 10) rfl rfl rfl rfl fun K0 hK0 => ?_
  simp only [W, Nat.reduceSub, Nat.reduceAdd, List.replicate]
  unfold spec_l1Least at h
  refine w_seq fun K1 hK1 => ?_
  refine w_reg gC ?_
  try simp only [W, Nat.reduceAdd]
  refine seq_n hK1 ?_
  refine w_seq fun K2 hK2 => ?_
  refine w_seq fun K3 hK3 => ?_
  refine w_reg gC ?_
  try simp only [W, EE, Nat.reduceAdd]
  refine seq_n hK3 ?_
  refine w_if ?_
  simp only [W]
  refine w_cnd h (fun hc h => ?_) (fun hc h => ?_)
  · refine w_seq fun K4 hK4 => ?_
    refine w_reg gC ?_
    try simp only [W, Nat.reduceAdd]
    refine seq_n hK4 ?_
    refine w_ret ?_
    refine seq_r hK2 ?_
    refine fin_r1 hK0 rfl ?_
    try obtain rfl := Option.some.inj h
    exact hP _ hS
  · refine w_skip ?_
    refine seq_n hK2 ?_
    refine w_seq fun K5 hK5 => ?_
    refine w_reg gC ?_
    try simp only [W, Nat.reduceAdd]
    refine seq_n hK5 ?_
    refine w_ret ?_
    refine fin_r1 hK0 rfl ?_
    try obtain rfl := Option.some.inj h
    exact hP _ hS
theorem spec_l1Most_w {a0 : Int} {a1 : Int} {r : (Int)} (h : spec_l1Most a0 a1 = some r) {F : List It} {H : Heap} (hS : Own H (F)) {P : AV → Heap → Prop} (hP : ∀ H', Own H' (F) → P (.int .i64 r) H') : ACall C 210 [.int .i64 a0, .int .i64 a1] H P := by
  refine acall_of gC (res := [.tmp 4]) (n := 10) rfl rfl rfl rfl fun K0 hK0 => ?_
  simp only [W, Nat.reduceSub, Nat.reduceAdd, List.replicate]
  unfold spec_l1Most at h
  refine w_seq fun K1 hK1 => ?_
  refine w_reg gC ?_
  try simp only [W, Nat.reduceAdd]
  refine seq_n hK1 ?_
  refine w_seq fun K2 hK2 => ?_
  refine w_seq fun K3 hK3 => ?_
  refine w_reg gC ?_
  try simp only [W, EE, Nat.reduceAdd]
  refine seq_n hK3 ?_
  refine w_if ?_
  simp only [W]
  refine w_cnd h (fun hc h => ?_) (fun hc h => ?_)
  · refine w_seq fun K4 hK4 => ?_
    refine w_reg gC ?_
    try simp only [W, Nat.reduceAdd]
    refine seq_n hK4 ?_
    refine w_ret ?_
    refine seq_r hK2 ?_
    refine fin_r1 hK0 rfl ?_
    try obtain rfl := Option.some.inj h
    exact hP _ hS
  · refine w_skip ?_
    refine seq_n hK2 ?_
    refine w_seq fun K5 hK5 => ?_
    refine w_reg gC ?_
    try simp only [W, Nat.reduceAdd]
    refine seq_n hK5 ?_
    refine w_ret ?_
    refine fin_r1 hK0 rfl ?_
    try obtain rfl := Option.some.inj h
    exact hP _ hS
theorem spec_l10Spread_w {a0 : Shares} {r : (Int)} (h : spec_l10Spread a0 = some r) {F : List It} {H : Heap} (hS : Own H (F)) {P : AV → Heap → Prop} (hP : ∀ H', Own H' (F) → P (.int .i64 r) H') : ACall C 183 [.agg [.fz (a0.Wins.map (AV.int .i64)), .int .i64 a0.Room]] H P := by
  refine acall_of gC (res := [.tmp 2]) (n := 32) rfl rfl rfl rfl fun K0 hK0 => ?_
  simp only [W, Nat.reduceSub, Nat.reduceAdd, List.replicate]
  unfold spec_l10Spread at h
  refine w_seq fun K1 hK1 => ?_
  refine w_reg gC ?_
  try simp only [W, Nat.reduceAdd]
  refine w_box hS rfl rfl rfl rfl fun ip2 wp2 H hS => ?_
  try simp only [W]
  refine seq_n hK1 ?_
  refine w_seq fun K4 hK4 => ?_
  refine w_reg gC ?_
  try simp only [W, EE, Nat.reduceAdd, Nat.reduceBEq, hS.var 0 rfl]
  refine w_fz rfl rfl rfl (fun _ => rfl) h fun b5 hb5 h => ?_
  try simp only [W, EE]
  refine seq_n hK4 ?_
  refine w_seq fun K6 hK6 => ?_
  refine w_reg gC ?_
  try simp only [W, EE, Nat.reduceAdd, Nat.reduceBEq, hS.var 0 rfl]
  refine w_fz rfl rfl rfl (fun _ => rfl) h fun b7 hb7 h => ?_
  try simp only [W, EE]
  refine seq_n hK6 ?_
  refine w_seq fun K8 hK8 => ?_
  refine w_seq fun K9 hK9 => ?_
  refine w_reg gC ?_
  try simp only [W, EE, Nat.reduceAdd, Nat.reduceBEq, hS.var 0 rfl]
  refine seq_n hK9 ?_
  obtain ⟨y15, hw16, g22⟩ := Option.bind_eq_some_iff.1 h
  refine w_join gC (fun s H => ∃ x13 : Int, ∃ x14 : Int, y15 = (x13, x14) ∧ s = [u, u, u, .int .i64 x13, .int .i64 x14, u, u, u, u, u, u, u, u, u, u, u, u, u, u, u, u, u, u, u, u, u, u, u, u, u, u, u] ∧ Own H (F)) (fun K17 hK17 => ?_) (fun s H hq => ?_)
  · refine w_blk fun K18 hK18 => ?_
    refine w_loop gC hw16 (fun x s H => match x with | (x10, x11, x12) => s = [u, u, u, .int .i64 x10, .int .i64 x11, u, u, u, u, u, u, u, u, u, u, u, .fz (a0.Wins.map (AV.int .i64)), .int .i64 (a0.Wins.length : Int), .int .i64 x12, u, u, u, u, u, u, u, u, u, u, u, u, u] ∧ Own H (F)) ⟨rfl, (hS.sel 1 [] (by decide))⟩ (fun x y21 s H h hd20 hi K19 hK19 => ?_)
    obtain ⟨x10, x11, x12⟩ := x
    try dsimp only at hi
    obtain ⟨rfl, hS⟩ := hi
    simp only [spec_l10Spread_l0] at h
    refine w_seq fun K23 hK23 => ?_
    refine w_reg gC ?_
    try simp only [W, EE, Nat.reduceAdd]
    refine seq_n hK23 ?_
    refine w_seq fun K24 hK24 => ?_
    refine w_if ?_
    simp only [W]
    refine w_cnd h (fun hc h => ?_) (fun hc h => ?_)
    · refine w_skip ?_
      refine seq_n hK24 ?_
      refine w_seq fun K25 hK25 => ?_
      refine w_blk fun K26 hK26 => ?_
      refine w_seq fun K27 hK27 => ?_
      refine w_reg gC ?_
      try simp only [W, EE, Nat.reduceAdd]
      refine w_fz rfl rfl rfl (fun _ => rfl) h fun b28 hb28 h => ?_
      try simp only [W, EE]
      refine seq_n hK27 ?_
      refine w_seq fun K29 hK29 => ?_
      refine w_reg gC ?_
      try simp only [W, Nat.reduceAdd]
      refine w_call h fun b30 hb30 h => ?_
      refine spec_l1Least_w hb30 hS fun H hS => ?_
      try simp only [W]
      refine seq_n hK29 ?_
      refine w_reg gC ?_
      try simp only [W, Nat.reduceAdd]
      refine w_call h fun b31 hb31 h => ?_
      refine spec_l1Most_w hb31 hS fun H hS => ?_
      try simp only [W]
      refine blk_n0 hK26 ?_
      refine seq_n hK25 ?_
      refine w_reg gC ?_
      try simp only [W, EE, Nat.reduceAdd]
      exact lp_n hK19 h ⟨rfl, hS⟩
    · refine w_exit ?_
      refine seq_x hK24 ?_
      try obtain rfl := Option.some.inj h
      obtain rfl := hd20 _ rfl
      have h : (some (x10, x11) : Option (Int × Int)) = some (x10, x11) := rfl
      refine lp_x hK19 ?_
      refine blk_e hK18 ?_
      exact cut_n hK17 ⟨_, _, (Option.some.inj h).symm, rfl, hS⟩
  · obtain ⟨x13, x14, rfl, rfl, hS⟩ := hq
    replace h := g22
    try dsimp only at h
    refine seq_n hK8 ?_
    refine w_seq fun K34 hK34 => ?_
    refine w_reg gC ?_
    try simp only [W, EE, Nat.reduceAdd]
    refine seq_n hK34 ?_
    refine w_ret ?_
    refine fin_r1 hK0 rfl ?_
    try obtain rfl := Option.some.inj h
    exact hP _ hS
theorem spec_SpreadOf_w {a0 : Shares} {r : (Int × Bool)} (h : spec_SpreadOf a0 = some r) {F : List It} {H : Heap} (hS : Own H (F)) {P : AV → Heap → Prop} (hP : ∀ H', Own H' (F) → P (.tup [.int .i64 r.1, .bool r.2]) H') : ACall C 52 [.agg [.fz (a0.Wins.map (AV.int .i64)), .int .i64 a0.Room]] H P := by
  refine acall_of gC (res := [.tmp 2, .tmp 3]) (n := 9) rfl rfl rfl rfl fun K0 hK0 => ?_
  simp only [W, Nat.reduceSub, Nat.reduceAdd, List.replicate]
  unfold spec_SpreadOf at h
  refine w_seq fun K1 hK1 => ?_
  refine w_reg gC ?_
  try simp only [W, Nat.reduceAdd]
  refine w_box hS rfl rfl rfl rfl fun ip2 wp2 H hS => ?_
  try simp only [W]
  refine seq_n hK1 ?_
  refine w_seq fun K4 hK4 => ?_
  refine w_seq fun K5 hK5 => ?_
  refine w_reg gC ?_
  try simp only [W, EE, reduceIte, Nat.reduceAdd, Nat.reduceLeDiff, hS.var 0 rfl]
  refine w_call h fun b6 hb6 h => ?_
  refine spec_GoodShares_w hb6 hS fun H hS => ?_
  try simp only [W]
  refine seq_n hK5 ?_
  refine w_if ?_
  simp only [W]
  refine w_cnd h (fun hc h => ?_) (fun hc h => ?_)
  · refine w_seq fun K7 hK7 => ?_
    refine w_reg gC ?_
    try simp only [W, Nat.reduceAdd]
    refine seq_n hK7 ?_
    refine w_ret ?_
    refine seq_r hK4 ?_
    refine fin_r2 hK0 rfl rfl ?_
    try obtain rfl := Option.some.inj h
    exact hP _ (hS.sel 1 [] (by decide))
  · refine w_skip ?_
    refine seq_n hK4 ?_
    refine w_seq fun K8 hK8 => ?_
    refine w_reg gC ?_
    try simp only [W, EE, reduceIte, Nat.reduceAdd, Nat.reduceLeDiff, hS.var 0 rfl]
    refine w_call h fun b9 hb9 h => ?_
    refine spec_l10Spread_w hb9 hS fun H hS => ?_
    try simp only [W]
    refine seq_n hK8 ?_
    refine w_ret ?_
    refine fin_r2 hK0 rfl rfl ?_
    try obtain rfl := Option.some.inj h
    exact hP _ (hS.sel 1 [] (by decide))
theorem impl_HalveAll_1_w {a0 : Int} {r : (Int)} (h : impl_HalveAll_1 a0 = some r) {F : List It} {H : Heap} (hS : Own H (F)) {P : AV → Heap → Prop} (hP : ∀ H', Own H' (F) → P (.int .i64 r) H') : ACall C 184 [.int .i64 a0] H P := by
  refine acall_of gC (res := [.tmp 2]) (n := 6) rfl rfl rfl rfl fun K0 hK0 => ?_
  simp only [W, Nat.reduceSub, Nat.reduceAdd, List.replicate]
  unfold impl_HalveAll_1 at h
  refine w_seq fun K1 hK1 => ?_
  refine w_reg gC ?_
  try simp only [W, Nat.reduceAdd]
  refine seq_n hK1 ?_
  refine w_seq fun K2 hK2 => ?_
  refine w_reg gC ?_
  try simp only [W, EE, Nat.reduceAdd]
  rw [dv_lit _ _ _ rfl, Option.map_some, resV_s]
  try simp only [W]
  refine seq_n hK2 ?_
  refine w_ret ?_
  refine fin_r1 hK0 rfl ?_
  try obtain rfl := Option.some.inj h
  exact hP _ hS
theorem impl_HalveAll_w {a0 : Shares} {r : (Shares × Bool)} (h : impl_HalveAll a0 = some r) {F : List It} {H : Heap} (hS : Own H (F)) {P : AV → Heap → Prop} (hP : ∀ v12 : AV, isSl v12 → ∀ H', Own H' (⟨v12, 1, r.1.Wins.map (AV.int .i64)⟩ :: F) → P (.tup [.agg [v12, .int .i64 r.1.Room], .bool r.2]) H') : ACall C 53 [.agg [.fz (a0.Wins.map (AV.int .i64)), .int .i64 a0.Room]] H P := by
  refine acall_of gC (res := [.cell 2 55, .tmp 3]) (n := 8) rfl rfl rfl rfl fun K0 hK0 => ?_
  simp only [W, Nat.reduceSub, Nat.reduceAdd, List.replicate]
  unfold impl_HalveAll at h
  refine w_seq fun K1 hK1 => ?_
  refine w_reg gC ?_
  try simp only [W, Nat.reduceAdd]
  refine w_box hS rfl rfl rfl rfl fun ip2 wp2 H hS => ?_
  try simp only [W]
  refine w_alloc hS rfl rfl fun ip4 wp4 H hS => ?_
  try simp only [W]
  refine seq_n hK1 ?_
  refine w_seq fun K6 hK6 => ?_
  refine w_reg gC ?_
  try simp only [W, EE, reduceIte, Nat.reduceAdd, Nat.reduceLeDiff, hS.var 1 rfl]
  refine w_call h fun b7 hb7 h => ?_
  obtain ⟨b8, b9⟩ := b7
  try dsimp only at h
  refine impl_Shares_changed_w hb7 (fun h _ n hL _ hS _ hP => impl_HalveAll_1_w h hS hP) hS fun v10 qv10 H hS => ?_
  try simp only [W]
  refine w_stv (a := .agg [v10, .int .i64 b8.Room]) (y' := .agg [v10, .int .i64 b8.Room]) 1 hS rfl rfl rfl rfl rfl (by simp only [storA, List.all_cons, List.all_nil, qv10.stor]; rfl) rfl rfl fun H hS => ?_
  try simp only [W]
  refine seq_n hK6 ?_
  refine w_ret ?_
  refine fin_r hK0 (res_c rfl rfl (hS.var 1 rfl) rfl (res_tc rfl rfl)) ?_
  try obtain rfl := Option.some.inj h
  exact hP _ qv10 _ (hS.sel 3 [0] (by decide))
theorem spec_l10Halve_w {a0 : Shares} {r : (Shares)} (h : spec_l10Halve a0 = some r) {F : List It} {H : Heap} (hS : Own H (F)) {P : AV → Heap → Prop} (hP : ∀ v40 : AV, isSl v40 → ∀ H', Own H' (⟨v40, 1, r.Wins.map (AV.int .i64)⟩ :: F) → P (.agg [v40, .int .i64 r.Room]) H') : ACall C 185 [.agg [.fz (a0.Wins.map (AV.int .i64)), .int .i64 a0.Room]] H P := by
  refine acall_of gC (res := [.cell 2 55]) (n := 26) rfl rfl rfl rfl fun K0 hK0 => ?_
  simp only [W, Nat.reduceSub, Nat.reduceAdd, List.replicate]
  unfold spec_l10Halve at h
  refine w_seq fun K1 hK1 => ?_
  refine w_reg gC ?_
  try simp only [W, Nat.reduceAdd]
  refine w_box hS rfl rfl rfl rfl fun ip2 wp2 H hS => ?_
  try simp only [W]
  refine w_alloc hS rfl rfl fun ip4 wp4 H hS => ?_
  try simp only [W]
  refine seq_n hK1 ?_
  refine w_seq fun K6 hK6 => ?_
  refine w_reg gC ?_
  try simp only [W, EE, Nat.reduceAdd, Nat.reduceBEq, hS.var 1 rfl]
  refine w_bld rfl rfl rfl rfl rfl ?_
  try simp only [W]
  refine w_alloc hS rfl rfl fun ip7 wp7 H hS => ?_
  try simp only [W]
  refine w_stv (a := .agg [.nil, .int .i64 a0.Room]) (y' := .agg [.nil, .int .i64 a0.Room]) 0 hS rfl rfl rfl rfl rfl rfl rfl rfl fun H hS => ?_
  try simp only [W]
  refine seq_n hK6 ?_
  refine w_seq fun K9 hK9 => ?_
  refine w_seq fun K10 hK10 => ?_
  refine w_reg gC ?_
  try simp only [W, EE, Nat.reduceAdd, Nat.reduceBEq, hS.var 2 rfl]
  refine seq_n hK10 ?_
  obtain ⟨y17, hw18, g24⟩ := Option.bind_eq_some_iff.1 h
  refine w_join gC (fun s H => ∃ x15 : List Int, y17 = (x15) ∧ ∃ v16 : AV, isSl v16 ∧ s = [u, u, .ptr ip4 wp4 0 0, .ptr ip7 wp7 0 0, u, u, u, u, u, u, u, u, u, u, u, u, u, u, u, u, u, u, u, u, u, u] ∧ Own H (⟨v16, 1, x15.map (AV.int .i64)⟩ :: ⟨.ptr ip4 wp4 0 0, 2, [.agg [.nil, .int .i64 0]]⟩ :: ⟨.ptr ip7 wp7 0 0, 2, [.agg [v16, .int .i64 a0.Room]]⟩ :: F)) (fun K19 hK19 => ?_) (fun s H hq => ?_)
  · refine w_blk fun K20 hK20 => ?_
    refine w_loop gC hw18 (fun x s H => match x with | (x11, x12) => ∃ v13 : AV, isSl v13 ∧ s = [u, u, .ptr ip4 wp4 0 0, .ptr ip7 wp7 0 0, u, u, u, u, u, u, .fz (a0.Wins.map (AV.int .i64)), .int .i64 (a0.Wins.length : Int), .int .i64 x11, u, u, u, u, u, u, u, u, u, u, u, u, u] ∧ Own H (⟨v13, 1, x12.map (AV.int .i64)⟩ :: ⟨.ptr ip4 wp4 0 0, 2, [.agg [.nil, .int .i64 0]]⟩ :: ⟨.ptr ip7 wp7 0 0, 2, [.agg [v13, .int .i64 a0.Room]]⟩ :: F)) ⟨_, isSl_nil, rfl, ((hS.nil_ 1).sel 4 [0, 2, 1] (by decide))⟩ (fun x y23 s H h hd22 hi K21 hK21 => ?_)
    obtain ⟨x11, x12⟩ := x
    try dsimp only at hi
    obtain ⟨v13, qv13, rfl, hS⟩ := hi
    simp only [spec_l10Halve_l0] at h
    refine w_seq fun K25 hK25 => ?_
    refine w_reg gC ?_
    try simp only [W, EE, Nat.reduceAdd]
    refine seq_n hK25 ?_
    refine w_seq fun K26 hK26 => ?_
    refine w_if ?_
    simp only [W]
    refine w_cnd h (fun hc h => ?_) (fun hc h => ?_)
    · refine w_skip ?_
      refine seq_n hK26 ?_
      refine w_seq fun K27 hK27 => ?_
      refine w_blk fun K28 hK28 => ?_
      refine w_seq fun K29 hK29 => ?_
      refine w_reg gC ?_
      try simp only [W, EE, Nat.reduceAdd]
      refine w_fz rfl rfl rfl (fun _ => rfl) h fun b30 hb30 h => ?_
      try simp only [W, EE]
      refine seq_n hK29 ?_
      refine w_drawL gC [(8, []), (6, [])] (by kernel_rfl) rfl (by kernel_rfl) ?_
      try simp only [W, EE, reduceIte, Nat.reduceAdd, Nat.reduceBEq, hS.var 2 rfl, tabAt, qAt, Nat.reduceEqDiff]
      rw [dv_lit _ _ _ rfl, Option.map_some, resV_s]
      try simp only [W]
      refine w_callS (rsh := [[.sc]]) (ys := [.int .i64 1, .int .i64 (IntKind.i64.wrap (Int.tdiv b30 2))]) h rfl (by rfl) fun b31 hb31 h => ⟨.int .i64 b31, spec_l1Most_w hb31 (Own.nil _) fun H hS => TV_ok rfl (TV_p rfl (TV_n rfl)), ⟨rfl, rfl, fun _ => rfl⟩, ?_⟩
      try simp only [W]
      refine w_lit (el := ([b31] : List Int).map (AV.int .i64)) hS rfl rfl rfl rfl rfl rfl rfl fun v32 H qv32 hS => ?_
      try simp only [W, EE]
      refine w_appV (l := x12) (c := (AV.int .i64)) 1 hS rfl qv13 rfl rfl rfl (hS.elems 0 rfl qv32) (fun _ => rfl) rfl h fun v35 H x34 qv35 hm h hS => ?_
      try simp only [W, EE, Nat.reduceAdd, Nat.reduceBEq, hS.var 3 rfl]
      refine w_stv (a := v35) (y' := .agg [v35, .int .i64 a0.Room]) 3 hS rfl rfl rfl rfl (by rw [qv35.cells]; rfl) qv35.stora (qv35.wr _ _ (by simp)) rfl fun H hS => ?_
      try simp only [W]
      refine blk_n0 hK28 ?_
      refine seq_n hK27 ?_
      refine w_reg gC ?_
      try simp only [W, EE, Nat.reduceAdd]
      exact lp_n hK21 h ⟨_, qv35, rfl, (hS.sel 4 [1, 2, 3] (by decide))⟩
    · refine w_exit ?_
      refine seq_x hK26 ?_
      try obtain rfl := Option.some.inj h
      obtain rfl := hd22 _ rfl
      have h : (some (x12) : Option ((List Int))) = some (x12) := rfl
      refine lp_x hK21 ?_
      refine blk_e hK20 ?_
      exact cut_n hK19 ⟨_, (Option.some.inj h).symm, _, qv13, rfl, hS⟩
  · obtain ⟨x15, ey, v16, qv16, rfl, hS⟩ := hq; obtain rfl := ey.symm
    replace h := g24
    try dsimp only at h
    refine seq_n hK9 ?_
    refine w_seq fun K39 hK39 => ?_
    refine w_reg gC ?_
    try simp only [W, EE, reduceIte, Nat.reduceAdd, Nat.reduceLeDiff, hS.var 2 rfl]
    refine w_stv (a := .agg [v16, .int .i64 a0.Room]) (y' := .agg [v16, .int .i64 a0.Room]) 1 hS rfl rfl rfl rfl rfl (by simp only [storA, List.all_cons, List.all_nil, qv16.stor]; rfl) rfl rfl fun H hS => ?_
    try simp only [W]
    refine seq_n hK39 ?_
    refine w_ret ?_
    refine fin_r hK0 (res_c rfl rfl (hS.var 1 rfl) rfl rfl) ?_
    try obtain rfl := Option.some.inj h
    exact hP _ qv16 _ (hS.sel 3 [0] (by decide))
theorem spec_HalveAll_w {a0 : Shares} {r : (Shares × Bool)} (h : spec_HalveAll a0 = some r) {F : List It} {H : Heap} (hS : Own H (F)) {P : AV → Heap → Prop} (hP : ∀ H', Own H' (F) → P (.tup [.agg [.fz (r.1.Wins.map (AV.int .i64)), .int .i64 r.1.Room], .bool r.2]) H') : ACall C 54 [.agg [.fz (a0.Wins.map (AV.int .i64)), .int .i64 a0.Room]] H P := by
  refine acall_of gC (res := [.cell 2 55, .tmp 3]) (n := 13) rfl rfl rfl rfl fun K0 hK0 => ?_
  simp only [W, Nat.reduceSub, Nat.reduceAdd, List.replicate]
  unfold spec_HalveAll at h
  refine w_seq fun K1 hK1 => ?_
  refine w_reg gC ?_
  try simp only [W, Nat.reduceAdd]
  refine w_box hS rfl rfl rfl rfl fun ip2 wp2 H hS => ?_
  try simp only [W]
  refine w_alloc hS rfl rfl fun ip4 wp4 H hS => ?_
  try simp only [W]
  refine seq_n hK1 ?_
  refine w_seq fun K6 hK6 => ?_
  refine w_seq fun K7 hK7 => ?_
  refine w_reg gC ?_
  try simp only [W, EE, reduceIte, Nat.reduceAdd, Nat.reduceLeDiff, hS.var 1 rfl]
  refine w_call h fun b8 hb8 h => ?_
  refine spec_GoodShares_w hb8 hS fun H hS => ?_
  try simp only [W]
  refine seq_n hK7 ?_
  refine w_if ?_
  simp only [W]
  refine w_cnd h (fun hc h => ?_) (fun hc h => ?_)
  · refine w_seq fun K9 hK9 => ?_
    refine w_regF (fz := [(1, [([7], [.sl [.sc], .sc])])]) gC ?_
    try simp only [W, EE, Nat.reduceAdd, Nat.reduceBEq]
    refine w_bld rfl rfl rfl rfl rfl ?_
    try simp only [W, Nat.reduceAdd]
    refine FZ_agg rfl ?_
    refine TC_nl ?_
    refine TC_sc rfl ?_
    refine TC_nil ?_
    simp only [W]
    try simp only [W, EE, EN, reduceIte, Nat.reduceAdd, Nat.reduceLeDiff, Nat.reduceBEq, Nat.reduceMul, Bool.false_eq_true]
    refine w_stv (a := .agg [.fz (([] : List Int).map (AV.int .i64)), .int .i64 0]) (y' := .agg [.fz (([] : List Int).map (AV.int .i64)), .int .i64 0]) 0 hS rfl rfl rfl rfl rfl rfl rfl rfl fun H hS => ?_
    try simp only [W, Nat.reduceAdd, Nat.reduceBEq]
    refine seq_n hK9 ?_
    refine w_ret ?_
    refine seq_r hK6 ?_
    refine fin_r hK0 (res_c rfl rfl (hS.var 0 rfl) rfl (res_tc rfl rfl)) ?_
    try obtain rfl := Option.some.inj h
    exact hP _ (hS.sel 2 [] (by decide))
  · refine w_skip ?_
    refine seq_n hK6 ?_
    refine w_seq fun K10 hK10 => ?_
    refine w_regF (fz := [(2, [([9], [.sl [.sc], .sc])])]) gC ?_
    try simp only [W, EE, reduceIte, Nat.reduceAdd, Nat.reduceLeDiff, Nat.reduceBEq, hS.var 1 rfl]
    refine w_call h fun b11 hb11 h => ?_
    refine spec_l10Halve_w hb11 hS fun v12 qv12 H hS => ?_
    try simp only [W, Nat.reduceAdd]
    refine FZ_agg rfl ?_
    refine TC_ow 0 hS rfl qv12 (fun _ _ => by simp [takeE, takeT, plainA]) fun H hS => ?_
    refine TC_sc rfl ?_
    refine TC_nil ?_
    simp only [W, frzL_map (c := (AV.int .i64)) (fun _ => rfl)]
    try simp only [W, EE, EN, reduceIte, Nat.reduceAdd, Nat.reduceLeDiff, Nat.reduceBEq, Nat.reduceMul, Bool.false_eq_true]
    refine w_call h fun b14 hb14 h => ?_
    obtain ⟨b15, b16⟩ := b14
    try dsimp only at h
    refine spec_l10Tell_w hb14 hS fun H hS => ?_
    try simp only [W, Nat.reduceAdd, Nat.reduceBEq]
    refine w_stv (a := .agg [.fz (b15.Wins.map (AV.int .i64)), .int .i64 b15.Room]) (y' := .agg [.fz (b15.Wins.map (AV.int .i64)), .int .i64 b15.Room]) 0 hS rfl rfl rfl rfl rfl rfl rfl rfl fun H hS => ?_
    try simp only [W, Nat.reduceAdd, Nat.reduceBEq]
    refine seq_n hK10 ?_
    refine w_ret ?_
    refine fin_r hK0 (res_c rfl rfl (hS.var 0 rfl) rfl (res_tc rfl rfl)) ?_
    try obtain rfl := Option.some.inj h
    exact hP _ (hS.sel 2 [] (by decide))
theorem laws_sameInts_w {a0 : List Int} {a1 : List Int} {r : (Bool)} (h : laws_sameInts a0 a1 = some r) {F : List It} {H : Heap} (hS : Own H (F)) {P : AV → Heap → Prop} (hP : ∀ H', Own H' (F) → P (.bool r) H') : ACall C 22 [.fz (a0.map (AV.int .i64)), .fz (a1.map (AV.int .i64))] H P := by
  refine acall_of gC (res := [.tmp 4]) (n := 26) rfl rfl rfl rfl fun K0 hK0 => ?_
  simp only [W, Nat.reduceSub, Nat.reduceAdd, List.replicate]
  unfold laws_sameInts at h
  refine w_seq fun K1 hK1 => ?_
  refine w_reg gC ?_
  try simp only [W, Nat.reduceAdd]
  refine seq_n hK1 ?_
  refine w_seq fun K2 hK2 => ?_
  refine w_seq fun K3 hK3 => ?_
  refine w_reg gC ?_
  try simp only [W, EE, Nat.reduceAdd]
  refine seq_n hK3 ?_
  refine w_if ?_
  simp only [W]
  refine w_cnd h (fun hc h => ?_) (fun hc h => ?_)
  · refine w_seq fun K4 hK4 => ?_
    refine w_reg gC ?_
    try simp only [W, Nat.reduceAdd]
    refine seq_n hK4 ?_
    refine w_ret ?_
    refine seq_r hK2 ?_
    refine fin_r1 hK0 rfl ?_
    try obtain rfl := Option.some.inj h
    exact hP _ hS
  · refine w_skip ?_
    refine seq_n hK2 ?_
    refine w_seq fun K5 hK5 => ?_
    refine w_seq fun K6 hK6 => ?_
    refine w_reg gC ?_
    try simp only [W, EE, Nat.reduceAdd]
    refine seq_n hK6 ?_
    obtain ⟨y8, hw9, g15⟩ := Option.bind_eq_some_iff.1 h
    refine w_join gC (fun s H => y8 = LR.next () ∧ s = [u, u, u, u, u, u, u, u, u, u, u, u, u, u, u, u, u, u, u, u, u, u, u, u, u, u] ∧ Own H (F)) (fun K10 hK10 => ?_) (fun s H hq => ?_)
    · refine w_blk fun K11 hK11 => ?_
      refine w_loop gC hw9 (fun x s H => s = [.fz (a0.map (AV.int .i64)), .fz (a1.map (AV.int .i64)), u, u, u, u, u, u, u, u, u, u, .int .i64 (a0.length : Int), .int .i64 x, u, u, u, u, u, u, u, u, u, u, u, u] ∧ Own H (F)) ⟨rfl, hS⟩ (fun x7 y14 s H h hd13 hi K12 hK12 => ?_)
      skip
      try dsimp only at hi
      obtain ⟨rfl, hS⟩ := hi
      simp only [laws_sameInts_l0] at h
      refine w_seq fun K16 hK16 => ?_
      refine w_reg gC ?_
      try simp only [W, EE, Nat.reduceAdd]
      refine seq_n hK16 ?_
      refine w_seq fun K17 hK17 => ?_
      refine w_if ?_
      simp only [W]
      refine w_cnd h (fun hc h => ?_) (fun hc h => ?_)
      · refine w_skip ?_
        refine seq_n hK17 ?_
        refine w_seq fun K18 hK18 => ?_
        refine w_blk fun K19 hK19 => ?_
        refine w_seq fun K20 hK20 => ?_
        refine w_reg gC ?_
        try simp only [W, Nat.reduceAdd]
        refine seq_n hK20 ?_
        refine w_seq fun K21 hK21 => ?_
        refine w_draw0 gC (by kernel_rfl) ?_
        try simp only [W, EE, Nat.reduceAdd]
        refine w_fz rfl rfl rfl (fun _ => rfl) h fun b22 hb22 h => ?_
        try simp only [W, EE]
        refine w_fz rfl rfl rfl (fun _ => rfl) h fun b23 hb23 h => ?_
        try simp only [W, EE]
        refine seq_n hK21 ?_
        refine w_if ?_
        simp only [W]
        refine w_cnd h (fun hc h => ?_) (fun hc h => ?_)
        · refine w_seq fun K24 hK24 => ?_
          refine w_reg gC ?_
          try simp only [W, Nat.reduceAdd]
          refine seq_n hK24 ?_
          refine w_ret ?_
          refine blk_r hK19 ?_
          refine seq_r hK18 ?_
          try obtain rfl := Option.some.inj h
          obtain rfl := hd13 _ rfl
          have h : (some (LR.done false) : Option (LR Unit (Bool))) = some (LR.done false) := rfl
          refine lp_r hK12 ?_
          refine blk_r hK11 ?_
          try obtain rfl := Option.some.inj h
          obtain rfl := Option.some.inj g15
          have h : (some false : Option (Bool)) = some false := rfl
          refine cut_r hK10 ?_
          refine seq_r hK5 ?_
          refine fin_r1 hK0 rfl ?_
          try obtain rfl := Option.some.inj h
          exact hP _ hS
        · refine w_skip ?_
          refine blk_n0 hK19 ?_
          refine seq_n hK18 ?_
          refine w_reg gC ?_
          try simp only [W, EE, Nat.reduceAdd]
          exact lp_n hK12 h ⟨rfl, hS⟩
      · refine w_exit ?_
        refine seq_x hK17 ?_
        try obtain rfl := Option.some.inj h
        obtain rfl := hd13 _ rfl
        have h : (some (LR.next ()) : Option (LR Unit (Bool))) = some (LR.next ()) := rfl
        refine lp_x hK12 ?_
        refine blk_e hK11 ?_
        exact cut_n hK10 ⟨(Option.some.inj h).symm, rfl, hS⟩
    · obtain ⟨rfl, rfl, hS⟩ := hq
      replace h := g15
      try dsimp only at h
      refine seq_n hK5 ?_
      refine w_seq fun K31 hK31 => ?_
      refine w_reg gC ?_
      try simp only [W, Nat.reduceAdd]
      refine seq_n hK31 ?_
      refine w_ret ?_
      refine fin_r1 hK0 rfl ?_
      try obtain rfl := Option.some.inj h
      exact hP _ hS
theorem laws_sameShares_w {a0 : Shares} {a1 : Shares} {r : (Bool)} (h : laws_sameShares a0 a1 = some r) {F : List It} {H : Heap} (hS : Own H (F)) {P : AV → Heap → Prop} (hP : ∀ H', Own H' (F) → P (.bool r) H') : ACall C 41 [.agg [.fz (a0.Wins.map (AV.int .i64)), .int .i64 a0.Room], .agg [.fz (a1.Wins.map (AV.int .i64)), .int .i64 a1.Room]] H P := by
  refine acall_of gC (res := [.tmp 4]) (n := 17) rfl rfl rfl rfl fun K0 hK0 => ?_
  simp only [W, Nat.reduceSub, Nat.reduceAdd, List.replicate]
  unfold laws_sameShares at h
  refine w_seq fun K1 hK1 => ?_
  refine w_reg gC ?_
  try simp only [W, Nat.reduceAdd]
  refine w_box hS rfl rfl rfl rfl fun ip2 wp2 H hS => ?_
  try simp only [W]
  refine w_box hS rfl rfl rfl rfl fun ip4 wp4 H hS => ?_
  try simp only [W]
  refine seq_n hK1 ?_
  refine w_seq fun K6 hK6 => ?_
  refine w_reg gC ?_
  try simp only [W, EE, Nat.reduceAdd, Nat.reduceBEq, hS.var 1 rfl, hS.var 0 rfl]
  refine w_call h fun b7 hb7 h => ?_
  refine laws_sameInts_w hb7 hS fun H hS => ?_
  try simp only [W]
  refine w_grdT h (fun hc h => ?_) (fun hc h => ?_)
  · try simp only [W, EE, reduceIte, Nat.reduceAdd, Nat.reduceBEq, hS.var 1 rfl, hS.var 0 rfl, hc]
    refine seq_n hK6 ?_
    refine w_ret ?_
    refine fin_r1 hK0 rfl ?_
    try obtain rfl := Option.some.inj h
    exact hP _ (hS.sel 2 [] (by decide))
  · try simp only [W, hc]
    refine seq_n hK6 ?_
    refine w_ret ?_
    refine fin_r1 hK0 rfl ?_
    try obtain rfl := Option.some.inj h
    exact hP _ (hS.sel 2 [] (by decide))
theorem impl_IsFairer_w {a0 : Shares} {a1 : Shares} {r : (Bool × Bool)} (h : impl_IsFairer a0 a1 = some r) {F : List It} {H : Heap} (hS : Own H (F)) {P : AV → Heap → Prop} (hP : ∀ H', Own H' (F) → P (.tup [.bool r.1, .bool r.2]) H') : ACall C 55 [.agg [.fz (a0.Wins.map (AV.int .i64)), .int .i64 a0.Room], .agg [.fz (a1.Wins.map (AV.int .i64)), .int .i64 a1.Room]] H P := by
  refine acall_of gC (res := [.tmp 4, .tmp 5]) (n := 46) rfl rfl rfl rfl fun K0 hK0 => ?_
  simp only [W, Nat.reduceSub, Nat.reduceAdd, List.replicate]
  unfold impl_IsFairer at h
  refine w_seq fun K1 hK1 => ?_
  refine w_reg gC ?_
  try simp only [W, Nat.reduceAdd]
  refine w_box hS rfl rfl rfl rfl fun ip2 wp2 H hS => ?_
  try simp only [W]
  refine w_box hS rfl rfl rfl rfl fun ip4 wp4 H hS => ?_
  try simp only [W]
  refine seq_n hK1 ?_
  refine w_seq fun K6 hK6 => ?_
  refine w_reg gC ?_
  try simp only [W, EE, reduceIte, Nat.reduceAdd, Nat.reduceLeDiff, hS.var 1 rfl]
  refine w_call h fun b7 hb7 h => ?_
  obtain ⟨b8, b9, b10⟩ := b7
  try dsimp only at h
  refine impl_FairnessOf_w hb7 hS fun H hS => ?_
  try simp only [W]
  refine seq_n hK6 ?_
  refine w_seq fun K11 hK11 => ?_
  refine w_reg gC ?_
  try simp only [W, EE, reduceIte, Nat.reduceAdd, Nat.reduceLeDiff, hS.var 0 rfl]
  refine w_call h fun b12 hb12 h => ?_
  obtain ⟨b13, b14, b15⟩ := b12
  try dsimp only at h
  refine impl_FairnessOf_w hb12 hS fun H hS => ?_
  try simp only [W]
  refine seq_n hK11 ?_
  refine w_seq fun K16 hK16 => ?_
  refine w_seq fun K17 hK17 => ?_
  obtain ⟨y19, h, g20⟩ := Option.bind_eq_some_iff.1 h
  refine w_join gC (fun s H => ∃ x18 : Bool, y19 = (x18) ∧ s = [u, u, u, u, u, u, .int .i64 b8, .int .i64 b9, u, .int .i64 b13, .int .i64 b14, u, u, u, u, u, u, u, u, u, u, u, u, u, u, u, u, u, u, u, u, u, u, u, u, u, u, u, .bool x18, u, u, u, u, u, u, u] ∧ Own H (F)) (fun K21 hK21 => ?_) (fun s H hq => ?_)
  · refine w_seq fun K22 hK22 => ?_
    refine w_reg gC ?_
    try simp only [W, Nat.reduceAdd]
    refine w_grdT h (fun hc h => ?_) (fun hc h => ?_)
    · try simp only [W, hc]
      refine seq_n hK22 ?_
      refine w_kill ?_
      exact cut_n hK21 ⟨_, (Option.some.inj h).symm, rfl, (hS.sel 2 [] (by decide))⟩
    · try simp only [W, reduceIte, Bool.false_eq_true, hc]
      refine w_grdT h (fun hc h => ?_) (fun hc h => ?_)
      · try simp only [W, hc]
        refine seq_n hK22 ?_
        refine w_kill ?_
        exact cut_n hK21 ⟨_, (Option.some.inj h).symm, rfl, (hS.sel 2 [] (by decide))⟩
      · try simp only [W, EE, reduceIte, Nat.reduceAdd, Nat.reduceBEq, Bool.false_eq_true, hS.var 1 rfl, hS.var 0 rfl, hc]
        refine seq_n hK22 ?_
        refine w_kill ?_
        exact cut_n hK21 ⟨_, (Option.some.inj h).symm, rfl, (hS.sel 2 [] (by decide))⟩
  · obtain ⟨x18, ey, rfl, hS⟩ := hq; obtain rfl := ey.symm
    replace h := g20
    try dsimp only at h
    refine seq_n hK17 ?_
    refine w_if ?_
    simp only [W]
    refine w_cnd h (fun hc h => ?_) (fun hc h => ?_)
    · refine w_seq fun K23 hK23 => ?_
      refine w_reg gC ?_
      try simp only [W, Nat.reduceAdd]
      refine seq_n hK23 ?_
      refine w_ret ?_
      refine seq_r hK16 ?_
      refine fin_r2 hK0 rfl rfl ?_
      try obtain rfl := Option.some.inj h
      exact hP _ hS
    · refine w_skip ?_
      refine seq_n hK16 ?_
      refine w_seq fun K24 hK24 => ?_
      refine w_reg gC ?_
      try simp only [W, EE, Nat.reduceAdd]
      refine seq_n hK24 ?_
      refine w_ret ?_
      refine fin_r2 hK0 rfl rfl ?_
      try obtain rfl := Option.some.inj h
      exact hP _ hS
theorem spec_l1Cur_one_w {a0 : L1Cur} {a1 : Int} {i0 : Nat} {w0 : Nat} {r : (Bool × L1Cur)} (h : spec_l1Cur_one a0 a1 = some r) {F : List It} {H : Heap} (hS : Own H (⟨.ptr i0 w0 0 0, 3, [.agg [.fz (a0.Code.map (AV.int .u8)), .int .i64 a0.At, .int .u64 a0.Seed]]⟩ :: F)) {P : AV → Heap → Prop} (hP : ∀ H', Own H' (⟨.ptr i0 w0 0 0, 3, [.agg [.fz (r.2.Code.map (AV.int .u8)), .int .i64 r.2.At, .int .u64 r.2.Seed]]⟩ :: F) → P (.bool r.1) H') : ACall C 142 [.ptr i0 w0 0 0, .int .i64 a1] H P := by
  refine acall_of gC (res := [.tmp 4]) (n := 9) rfl rfl rfl rfl fun K0 hK0 => ?_
  simp only [W, Nat.reduceSub, Nat.reduceAdd, List.replicate]
  unfold spec_l1Cur_one at h
  refine w_seq fun K1 hK1 => ?_
  refine w_reg gC ?_
  try simp only [W, Nat.reduceAdd]
  refine seq_n hK1 ?_
  refine w_seq fun K2 hK2 => ?_
  refine w_reg gC ?_
  try simp only [W, Nat.reduceAdd]
  refine w_call h fun b3 hb3 h => ?_
  obtain ⟨b4, b5⟩ := b3
  try dsimp only at h
  refine spec_l1Cur_pick_w hb3 hS fun H hS => ?_
  try simp only [W, EE]
  refine seq_n hK2 ?_
  refine w_ret ?_
  refine fin_r1 hK0 rfl ?_
  try obtain rfl := Option.some.inj h
  exact hP _ hS
theorem spec_DrawIsFairer_w {a0 : List Int} {r : (Shares × Shares)} (h : spec_DrawIsFairer a0 = some r) {F : List It} {H : Heap} (hS : Own H (F)) {P : AV → Heap → Prop} (hP : ∀ H', Own H' (F) → P (.tup [.agg [.fz (r.1.Wins.map (AV.int .i64)), .int .i64 r.1.Room], .agg [.fz (r.2.Wins.map (AV.int .i64)), .int .i64 r.2.Room]]) H') : ACall C 56 [.fz (a0.map (AV.int .u8))] H P := by
  refine acall_of gC (res := [.cell 2 55, .cell 3 55]) (n := 28) rfl rfl rfl rfl fun K0 hK0 => ?_
  simp only [W, Nat.reduceSub, Nat.reduceAdd, List.replicate]
  unfold spec_DrawIsFairer at h
  refine w_seq fun K1 hK1 => ?_
  refine w_reg gC ?_
  try simp only [W, Nat.reduceAdd]
  refine w_alloc hS rfl rfl fun ip2 wp2 H hS => ?_
  try simp only [W]
  refine w_alloc hS rfl rfl fun ip4 wp4 H hS => ?_
  try simp only [W]
  refine seq_n hK1 ?_
  refine w_seq fun K6 hK6 => ?_
  refine w_reg gC ?_
  try simp only [W, EE, Nat.reduceAdd]
  refine w_bld rfl rfl rfl rfl rfl ?_
  try simp only [W]
  refine w_box hS rfl rfl rfl rfl fun ip7 wp7 H hS => ?_
  try simp only [W]
  refine seq_n hK6 ?_
  refine w_seq fun K9 hK9 => ?_
  refine w_regF (fz := [(3, [([12], [.sl [.sc], .sc])])]) gC ?_
  try simp only [W, Nat.reduceAdd, Nat.reduceBEq]
  refine w_call h fun b10 hb10 h => ?_
  obtain ⟨b11, b12⟩ := b10
  try dsimp only at h
  refine spec_l1Cur_shares_w hb10 hS fun H hS => ?_
  try simp only [W, Nat.reduceAdd, Nat.reduceBEq]
  refine w_alloc hS rfl rfl fun ip13 wp13 H hS => ?_
  try simp only [W, Nat.reduceAdd]
  refine FZ_agg rfl ?_
  refine TC_fz ?_
  refine TC_sc rfl ?_
  refine TC_nil ?_
  simp only [W]
  try simp only [W, EE, EN, reduceIte, Nat.reduceAdd, Nat.reduceLeDiff, Nat.reduceBEq, Nat.reduceMul, Bool.false_eq_true]
  refine w_stv (a := .agg [.fz (b11.Wins.map (AV.int .i64)), .int .i64 b11.Room]) (y' := .agg [.fz (b11.Wins.map (AV.int .i64)), .int .i64 b11.Room]) 0 hS rfl rfl rfl rfl rfl rfl rfl rfl fun H hS => ?_
  try simp only [W, Nat.reduceAdd]
  refine seq_n hK9 ?_
  refine w_seq fun K15 hK15 => ?_
  refine w_seq fun K16 hK16 => ?_
  refine w_reg gC ?_
  try simp only [W, EE, reduceIte, Nat.reduceAdd, Nat.reduceLeDiff, hS.var 0 rfl]
  refine w_call h fun b17 hb17 h => ?_
  obtain ⟨b18, b19⟩ := b17
  try dsimp only at h
  refine spec_GrowAll_w hb17 hS fun H hS => ?_
  try simp only [W]
  refine w_alloc hS rfl rfl fun ip20 wp20 H hS => ?_
  try simp only [W]
  refine w_stv (a := .agg [.fz (b18.Wins.map (AV.int .i64)), .int .i64 b18.Room]) (y' := .agg [.fz (b18.Wins.map (AV.int .i64)), .int .i64 b18.Room]) 0 hS rfl rfl rfl rfl rfl rfl rfl rfl fun H hS => ?_
  try simp only [W]
  refine seq_n hK16 ?_
  refine w_seq fun K22 hK22 => ?_
  obtain ⟨y27, h, g28⟩ := Option.bind_eq_some_iff.1 h
  refine w_join gC (fun s H => ∃ x23 : Bool, ∃ x24 : List Int, ∃ x25 : Int, ∃ x26 : Int, y27 = (x23, x24, x25, x26) ∧ s = [u, u, .ptr ip2 wp2 0 0, .ptr ip4 wp4 0 0, .ptr ip7 wp7 0 0, .ptr ip13 wp13 0 0, .ptr ip20 wp20 0 0, u, u, u, u, u, u, u, u, u, u, u, u, u, u, u, .bool x23, u, u, u, u, u] ∧ Own H (⟨.ptr ip2 wp2 0 0, 2, [.agg [.nil, .int .i64 0]]⟩ :: ⟨.ptr ip4 wp4 0 0, 2, [.agg [.nil, .int .i64 0]]⟩ :: ⟨.ptr ip7 wp7 0 0, 3, [.agg [.fz (x24.map (AV.int .u8)), .int .i64 x25, .int .u64 x26]]⟩ :: ⟨.ptr ip13 wp13 0 0, 2, [.agg [.fz (b11.Wins.map (AV.int .i64)), .int .i64 b11.Room]]⟩ :: ⟨.ptr ip20 wp20 0 0, 2, [.agg [.fz (b18.Wins.map (AV.int .i64)), .int .i64 b18.Room]]⟩ :: F)) (fun K29 hK29 => ?_) (fun s H hq => ?_)
  · refine w_seq fun K30 hK30 => ?_
    refine w_reg gC ?_
    try simp only [W, Nat.reduceAdd]
    refine w_grdT h (fun hc h => ?_) (fun hc h => ?_)
    · try simp only [W, hc]
      refine w_call h fun b31 hb31 h => ?_
      obtain ⟨b32, b33⟩ := b31
      try dsimp only at h
      refine spec_l1Cur_one_w hb31 (hS.sel 5 [2, 0, 1, 3, 4] (by decide)) fun H hS => ?_
      try simp only [W, reduceIte]
      refine seq_n hK30 ?_
      refine w_kill ?_
      exact cut_n hK29 ⟨_, _, _, _, (Option.some.inj h).symm, rfl, (hS.sel 5 [4, 3, 0, 2, 1] (by decide))⟩
    · try simp only [W, hc]
      refine seq_n hK30 ?_
      refine w_kill ?_
      exact cut_n hK29 ⟨_, _, _, _, (Option.some.inj h).symm, rfl, (hS.sel 5 [4, 3, 2, 1, 0] (by decide))⟩
  · obtain ⟨x23, x24, x25, x26, rfl, rfl, hS⟩ := hq
    replace h := g28
    try dsimp only at h
    refine seq_n hK22 ?_
    refine w_if ?_
    simp only [W]
    refine w_cnd h (fun hc h => ?_) (fun hc h => ?_)
    · refine w_seq fun K34 hK34 => ?_
      refine w_drawL gC [(2, [1]), (3, [])] (by kernel_rfl) rfl (by kernel_rfl) ?_
      try simp only [W, EE, reduceIte, Nat.reduceAdd, Nat.reduceLeDiff, hS.var 3 rfl, hS.var 4 rfl, tabAt, qAt, Nat.reduceEqDiff]
      refine w_stv (a := .agg [.fz (b18.Wins.map (AV.int .i64)), .int .i64 b18.Room]) (y' := .agg [.fz (b18.Wins.map (AV.int .i64)), .int .i64 b18.Room]) 0 hS rfl rfl rfl rfl rfl rfl rfl rfl fun H hS => ?_
      refine goK_late ?_
      refine lateG_s (by first | rfl | (simp [evalOp, W, EE, rdAt, mkT, subL, AV.cells, hS.var 3 rfl]; done)) ?_
      refine lateG_n ?_
      try simp only [W]
      refine w_stv (a := .agg [.fz (b11.Wins.map (AV.int .i64)), .int .i64 b11.Room]) (y' := .agg [.fz (b11.Wins.map (AV.int .i64)), .int .i64 b11.Room]) 1 hS rfl rfl rfl rfl rfl rfl rfl rfl fun H hS => ?_
      try simp only [W]
      refine seq_n hK34 ?_
      refine w_ret ?_
      refine seq_r hK15 ?_
      refine fin_r hK0 (res_c rfl rfl (hS.var 0 rfl) rfl (res_c rfl rfl (hS.var 1 rfl) rfl rfl)) ?_
      try obtain rfl := Option.some.inj h
      exact hP _ (hS.sel 5 [] (by decide))
    · refine w_skip ?_
      refine seq_n hK15 ?_
      refine w_seq fun K35 hK35 => ?_
      refine w_drawL gC [(2, [0]), (3, []), (4, [])] (by kernel_rfl) rfl (by kernel_rfl) ?_
      try simp only [W, EE, reduceIte, Nat.reduceAdd, Nat.reduceLeDiff, hS.var 3 rfl, tabAt, qAt, Nat.reduceEqDiff]
      refine w_call h fun b36 hb36 h => ?_
      obtain ⟨b37, b38⟩ := b36
      try dsimp only at h
      refine spec_l1Cur_shares_w hb36 (hS.sel 5 [2, 0, 1, 3, 4] (by decide)) fun H hS => ?_
      refine goK_late ?_
      refine lateG_s (by first | rfl | (simp [evalOp, W, EE, rdAt, mkT, subL, AV.cells, hS.var 3 rfl]; done)) ?_
      refine lateG_n ?_
      try simp only [W]
      refine w_stv (a := .agg [.fz (b11.Wins.map (AV.int .i64)), .int .i64 b11.Room]) (y' := .agg [.fz (b11.Wins.map (AV.int .i64)), .int .i64 b11.Room]) 1 hS rfl rfl rfl rfl rfl rfl rfl rfl fun H hS => ?_
      try simp only [W]
      refine w_stv (a := .agg [.fz (b37.Wins.map (AV.int .i64)), .int .i64 b37.Room]) (y' := .agg [.fz (b37.Wins.map (AV.int .i64)), .int .i64 b37.Room]) 2 hS rfl rfl rfl rfl rfl rfl rfl rfl fun H hS => ?_
      try simp only [W]
      refine seq_n hK35 ?_
      refine w_ret ?_
      refine fin_r hK0 (res_c rfl rfl (hS.var 1 rfl) rfl (res_c rfl rfl (hS.var 2 rfl) rfl rfl)) ?_
      try obtain rfl := Option.some.inj h
      exact hP _ (hS.sel 5 [] (by decide))
theorem spec_IsFairer_w {a0 : Shares} {a1 : Shares} {r : (Bool × Bool)} (h : spec_IsFairer a0 a1 = some r) {F : List It} {H : Heap} (hS : Own H (F)) {P : AV → Heap → Prop} (hP : ∀ H', Own H' (F) → P (.tup [.bool r.1, .bool r.2]) H') : ACall C 57 [.agg [.fz (a0.Wins.map (AV.int .i64)), .int .i64 a0.Room], .agg [.fz (a1.Wins.map (AV.int .i64)), .int .i64 a1.Room]] H P := by
  refine acall_of gC (res := [.tmp 4, .tmp 5]) (n := 44) rfl rfl rfl rfl fun K0 hK0 => ?_
  simp only [W, Nat.reduceSub, Nat.reduceAdd, List.replicate]
  unfold spec_IsFairer at h
  refine w_seq fun K1 hK1 => ?_
  refine w_reg gC ?_
  try simp only [W, Nat.reduceAdd]
  refine w_box hS rfl rfl rfl rfl fun ip2 wp2 H hS => ?_
  try simp only [W]
  refine w_box hS rfl rfl rfl rfl fun ip4 wp4 H hS => ?_
  try simp only [W]
  refine seq_n hK1 ?_
  refine w_seq fun K6 hK6 => ?_
  refine w_seq fun K7 hK7 => ?_
  obtain ⟨y9, h, g10⟩ := Option.bind_eq_some_iff.1 h
  refine w_join gC (fun s H => ∃ x8 : Bool, y9 = (x8) ∧ s = [u, u, .ptr ip2 wp2 0 0, .ptr ip4 wp4 0 0, u, u, u, u, u, u, u, u, u, u, u, u, u, u, u, u, u, u, u, u, u, u, .bool x8, u, u, u, u, u, u, u, u, u, u, u, u, u, u, u, u, u] ∧ Own H (⟨.ptr ip2 wp2 0 0, 2, [.agg [.fz (a0.Wins.map (AV.int .i64)), .int .i64 a0.Room]]⟩ :: ⟨.ptr ip4 wp4 0 0, 2, [.agg [.fz (a1.Wins.map (AV.int .i64)), .int .i64 a1.Room]]⟩ :: F)) (fun K11 hK11 => ?_) (fun s H hq => ?_)
  · refine w_seq fun K12 hK12 => ?_
    refine w_reg gC ?_
    try simp only [W, EE, reduceIte, Nat.reduceAdd, Nat.reduceLeDiff, hS.var 1 rfl]
    refine w_call h fun b13 hb13 h => ?_
    refine spec_GoodShares_w hb13 hS fun H hS => ?_
    try simp only [W]
    refine w_grdT h (fun hc h => ?_) (fun hc h => ?_)
    · try simp only [W, hc]
      refine seq_n hK12 ?_
      refine w_kill ?_
      exact cut_n hK11 ⟨_, (Option.some.inj h).symm, rfl, (hS.sel 2 [1, 0] (by decide))⟩
    · try simp only [W, EE, reduceIte, Nat.reduceAdd, Nat.reduceLeDiff, hS.var 0 rfl, hc]
      refine w_call h fun b14 hb14 h => ?_
      refine spec_GoodShares_w hb14 hS fun H hS => ?_
      try simp only [W, reduceIte, Bool.false_eq_true]
      refine w_grdT h (fun hc h => ?_) (fun hc h => ?_)
      · try simp only [W, hc]
        refine seq_n hK12 ?_
        refine w_kill ?_
        exact cut_n hK11 ⟨_, (Option.some.inj h).symm, rfl, (hS.sel 2 [1, 0] (by decide))⟩
      · try simp only [W, EE, reduceIte, Nat.reduceAdd, Nat.reduceBEq, Bool.false_eq_true, hS.var 1 rfl, hS.var 0 rfl, hc]
        refine seq_n hK12 ?_
        refine w_kill ?_
        exact cut_n hK11 ⟨_, (Option.some.inj h).symm, rfl, (hS.sel 2 [1, 0] (by decide))⟩
  · obtain ⟨x8, ey, rfl, hS⟩ := hq; obtain rfl := ey.symm
    replace h := g10
    try dsimp only at h
    refine seq_n hK7 ?_
    refine w_if ?_
    simp only [W]
    refine w_cnd h (fun hc h => ?_) (fun hc h => ?_)
    · refine w_seq fun K15 hK15 => ?_
      refine w_reg gC ?_
      try simp only [W, Nat.reduceAdd]
      refine seq_n hK15 ?_
      refine w_ret ?_
      refine seq_r hK6 ?_
      refine fin_r2 hK0 rfl rfl ?_
      try obtain rfl := Option.some.inj h
      exact hP _ (hS.sel 2 [] (by decide))
    · refine w_skip ?_
      refine seq_n hK6 ?_
      refine w_seq fun K16 hK16 => ?_
      refine w_reg gC ?_
      try simp only [W, EE, reduceIte, Nat.reduceAdd, Nat.reduceLeDiff, hS.var 0 rfl]
      refine w_call h fun b17 hb17 h => ?_
      obtain ⟨b18, b19⟩ := b17
      try dsimp only at h
      refine spec_l10Fairness_w hb17 hS fun H hS => ?_
      try simp only [W]
      refine seq_n hK16 ?_
      refine w_seq fun K20 hK20 => ?_
      refine w_reg gC ?_
      try simp only [W, EE, reduceIte, Nat.reduceAdd, Nat.reduceLeDiff, hS.var 1 rfl]
      refine w_call h fun b21 hb21 h => ?_
      obtain ⟨b22, b23⟩ := b21
      try dsimp only at h
      refine spec_l10Fairness_w hb21 hS fun H hS => ?_
      try simp only [W]
      refine seq_n hK20 ?_
      refine w_seq fun K24 hK24 => ?_
      refine w_reg gC ?_
      try simp only [W, EE, Nat.reduceAdd]
      refine seq_n hK24 ?_
      refine w_ret ?_
      refine fin_r2 hK0 rfl rfl ?_
      try obtain rfl := Option.some.inj h
      exact hP _ (hS.sel 2 [] (by decide))
theorem laws_FnShares_w {a0 : List Int} {a1 : List Int} {r : (Bool)} (h : laws_FnShares a0 a1 = some r) {F : List It} {H : Heap} (hS : Own H (F)) {P : AV → Heap → Prop} (hP : ∀ H', Own H' (F) → P (.bool r) H') : ACall C 6 [.fz (a0.map (AV.int .u8)), .fz (a1.map (AV.int .u8))] H P := by
  refine acall_of gC (res := [.tmp 4]) (n := 217) rfl rfl rfl rfl fun K0 hK0 => ?_
  simp only [W, Nat.reduceSub, Nat.reduceAdd, List.replicate]
  unfold laws_FnShares at h
  refine w_seq fun K1 hK1 => ?_
  refine w_reg gC ?_
  try simp only [W, Nat.reduceAdd]
  refine seq_n hK1 ?_
  refine w_seq fun K2 hK2 => ?_
  refine w_seq fun K3 hK3 => ?_
  refine w_reg gC ?_
  try simp only [W, EE, Nat.reduceAdd]
  refine seq_n hK3 ?_
  refine w_if ?_
  simp only [W]
  refine w_cnd h (fun hc h => ?_) (fun hc h => ?_)
  · refine w_seq fun K4 hK4 => ?_
    refine w_reg gC ?_
    try simp only [W, Nat.reduceAdd]
    refine seq_n hK4 ?_
    refine w_ret ?_
    refine seq_r hK2 ?_
    refine fin_r1 hK0 rfl ?_
    try obtain rfl := Option.some.inj h
    exact hP _ hS
  · refine w_skip ?_
    refine seq_n hK2 ?_
    refine w_seq fun K5 hK5 => ?_
    refine w_regF (fz := [(3, [([43], [.sl [.sc], .sc])])]) gC ?_
    try simp only [W, Nat.reduceAdd, Nat.reduceBEq]
    refine w_call h fun b6 hb6 h => ?_
    refine spec_DrawGrowAll_w hb6 hS fun H hS => ?_
    try simp only [W, Nat.reduceAdd, Nat.reduceBEq]
    refine w_alloc hS rfl rfl fun ip7 wp7 H hS => ?_
    try simp only [W, Nat.reduceAdd]
    refine FZ_agg rfl ?_
    refine TC_fz ?_
    refine TC_sc rfl ?_
    refine TC_nil ?_
    simp only [W]
    try simp only [W, EE, EN, reduceIte, Nat.reduceAdd, Nat.reduceLeDiff, Nat.reduceBEq, Nat.reduceMul, Bool.false_eq_true]
    refine w_stv (a := .agg [.fz (b6.Wins.map (AV.int .i64)), .int .i64 b6.Room]) (y' := .agg [.fz (b6.Wins.map (AV.int .i64)), .int .i64 b6.Room]) 0 hS rfl rfl rfl rfl rfl rfl rfl rfl fun H hS => ?_
    try simp only [W, Nat.reduceAdd]
    refine seq_n hK5 ?_
    refine w_seq fun K9 hK9 => ?_
    refine w_reg gC ?_
    try simp only [W, EE, reduceIte, Nat.reduceAdd, Nat.reduceLeDiff, Nat.reduceBEq, hS.var 0 rfl, List.contains_cons, Nat.reduceBEq, Bool.or_self]
    refine w_call h fun b10 hb10 h => ?_
    obtain ⟨b11, b12⟩ := b10
    try dsimp only at h
    refine impl_GrowAll_w hb10 hS fun v13 qv13 H hS => ?_
    try simp only [W]
    refine w_alloc hS rfl rfl fun ip15 wp15 H hS => ?_
    try simp only [W]
    refine w_stv (a := .agg [v13, .int .i64 b11.Room]) (y' := .agg [v13, .int .i64 b11.Room]) 0 hS rfl rfl rfl rfl rfl (by simp only [storA, List.all_cons, List.all_nil, qv13.stor]; rfl) rfl rfl fun H hS => ?_
    try simp only [W]
    refine seq_n hK9 ?_
    refine w_seq fun K17 hK17 => ?_
    refine w_reg gC ?_
    try simp only [W, EE, reduceIte, Nat.reduceAdd, Nat.reduceLeDiff, hS.var 2 rfl]
    refine w_call h fun b18 hb18 h => ?_
    obtain ⟨b19, b20⟩ := b18
    try dsimp only at h
    refine spec_GrowAll_w hb18 hS fun H hS => ?_
    try simp only [W]
    refine w_alloc hS rfl rfl fun ip21 wp21 H hS => ?_
    try simp only [W]
    refine w_stv (a := .agg [.fz (b19.Wins.map (AV.int .i64)), .int .i64 b19.Room]) (y' := .agg [.fz (b19.Wins.map (AV.int .i64)), .int .i64 b19.Room]) 0 hS rfl rfl rfl rfl rfl rfl rfl rfl fun H hS => ?_
    try simp only [W]
    refine seq_n hK17 ?_
    refine w_seq fun K23 hK23 => ?_
    refine w_reg gC ?_
    try simp only [W, EE, reduceIte, Nat.reduceAdd, Nat.reduceLeDiff, hS.var 3 rfl]
    refine w_call h fun b24 hb24 h => ?_
    obtain ⟨b25, b26, b27⟩ := b24
    try dsimp only at h
    refine impl_FairnessOf_w hb24 hS fun H hS => ?_
    try simp only [W]
    refine seq_n hK23 ?_
    refine w_seq fun K28 hK28 => ?_
    refine w_reg gC ?_
    try simp only [W, EE, reduceIte, Nat.reduceAdd, Nat.reduceLeDiff, hS.var 3 rfl]
    refine w_call h fun b29 hb29 h => ?_
    obtain ⟨b30, b31, b32⟩ := b29
    try dsimp only at h
    refine spec_FairnessOf_w hb29 hS fun H hS => ?_
    try simp only [W]
    refine seq_n hK28 ?_
    refine w_seq fun K33 hK33 => ?_
    refine w_reg gC ?_
    try simp only [W, EE, reduceIte, Nat.reduceAdd, Nat.reduceLeDiff, hS.var 3 rfl]
    refine w_call h fun b34 hb34 h => ?_
    obtain ⟨b35, b36⟩ := b34
    try dsimp only at h
    refine impl_SpreadOf_w hb34 hS fun H hS => ?_
    try simp only [W]
    refine seq_n hK33 ?_
    refine w_seq fun K37 hK37 => ?_
    refine w_reg gC ?_
    try simp only [W, EE, reduceIte, Nat.reduceAdd, Nat.reduceLeDiff, hS.var 3 rfl]
    refine w_call h fun b38 hb38 h => ?_
    obtain ⟨b39, b40⟩ := b38
    try dsimp only at h
    refine spec_SpreadOf_w hb38 hS fun H hS => ?_
    try simp only [W]
    refine seq_n hK37 ?_
    refine w_seq fun K41 hK41 => ?_
    refine w_reg gC ?_
    try simp only [W, EE, reduceIte, Nat.reduceAdd, Nat.reduceLeDiff, hS.var 3 rfl]
    refine w_call h fun b42 hb42 h => ?_
    obtain ⟨b43, b44⟩ := b42
    try dsimp only at h
    refine impl_HalveAll_w hb42 hS fun v45 qv45 H hS => ?_
    try simp only [W]
    refine w_alloc hS rfl rfl fun ip47 wp47 H hS => ?_
    try simp only [W]
    refine w_stv (a := .agg [v45, .int .i64 b43.Room]) (y' := .agg [v45, .int .i64 b43.Room]) 0 hS rfl rfl rfl rfl rfl (by simp only [storA, List.all_cons, List.all_nil, qv45.stor]; rfl) rfl rfl fun H hS => ?_
    try simp only [W]
    refine seq_n hK41 ?_
    refine w_seq fun K49 hK49 => ?_
    refine w_reg gC ?_
    try simp only [W, EE, reduceIte, Nat.reduceAdd, Nat.reduceLeDiff, hS.var 5 rfl]
    refine w_call h fun b50 hb50 h => ?_
    obtain ⟨b51, b52⟩ := b50
    try dsimp only at h
    refine spec_HalveAll_w hb50 hS fun H hS => ?_
    try simp only [W]
    refine w_alloc hS rfl rfl fun ip53 wp53 H hS => ?_
    try simp only [W]
    refine w_stv (a := .agg [.fz (b51.Wins.map (AV.int .i64)), .int .i64 b51.Room]) (y' := .agg [.fz (b51.Wins.map (AV.int .i64)), .int .i64 b51.Room]) 0 hS rfl rfl rfl rfl rfl rfl rfl rfl fun H hS => ?_
    try simp only [W]
    refine seq_n hK49 ?_
    refine w_seq fun K55 hK55 => ?_
    refine w_seq fun K56 hK56 => ?_
    obtain ⟨y58, h, g59⟩ := Option.bind_eq_some_iff.1 h
    refine w_join gC (fun s H => ∃ x57 : Bool, y58 = (x57) ∧ s = [u, .fz (a1.map (AV.int .u8)), u, u, u, .ptr ip7 wp7 0 0, .ptr ip15 wp15 0 0, .bool b12, u, u, .int .i64 b25, .int .i64 b26, .bool b27, u, u, u, .int .i64 b35, u, u, u, .ptr ip47 wp47 0 0, .bool b44, u, u, u, u, u, u, u, u, u, u, u, u, u, u, u, u, u, u, u, u, u, u, u, u, u, u, u, u, u, u, u, u, u, u, u, u, u, u, u, u, u, u, u, u, u, u, u, u, u, u, u, u, u, u, u, u, u, u, u, u, u, u, u, u, u, u, u, u, u, u, u, u, u, u, u, u, u, u, u, u, u, u, u, u, u, u, u, u, u, u, u, u, u, u, u, u, u, u, u, u, u, u, u, u, u, u, u, u, u, u, u, u, u, u, .bool x57, u, u, u, u, u, u, u, u, u, u, u, u, u, u, u, u, u, u, u, u, u, u, u, u, u, u, u, u, u, u, u, u, u, u, u, u, u, u, u, u, u, u, u, u, u, u, u, u, u, u, u, u, u, u, u, u, u, u, u, u, u, u, u, u, u, u, u, u, u, u, u, u, u, u, u, u, u, u, u, u] ∧ Own H (⟨v13, 1, b11.Wins.map (AV.int .i64)⟩ :: ⟨v45, 1, b43.Wins.map (AV.int .i64)⟩ :: ⟨.ptr ip7 wp7 0 0, 2, [.agg [.fz (b6.Wins.map (AV.int .i64)), .int .i64 b6.Room]]⟩ :: ⟨.ptr ip15 wp15 0 0, 2, [.agg [v13, .int .i64 b11.Room]]⟩ :: ⟨.ptr ip47 wp47 0 0, 2, [.agg [v45, .int .i64 b43.Room]]⟩ :: F)) (fun K60 hK60 => ?_) (fun s H hq => ?_)
    · refine w_seq fun K61 hK61 => ?_
      refine w_reg gC ?_
      try simp only [W, EE, Nat.reduceAdd]
      rw [b_bneq _ _ _ _ (h := rfl) rfl, resV_s]
      try simp only [W]
      refine w_grdT h (fun hc h => ?_) (fun hc h => ?_)
      · try simp only [W, hc]
        refine seq_n hK61 ?_
        refine w_kill ?_
        exact cut_n hK60 ⟨_, (Option.some.inj h).symm, rfl, (hS.sel 7 [5, 2, 6, 4, 1] (by decide))⟩
      · try simp only [W, EE, reduceIte, Nat.reduceAdd, Nat.reduceLeDiff, hS.var 4 rfl, hS.var 3 rfl, hc]
        refine w_callS (rsh := [[.sc]]) (ys := [.agg [.fz (b11.Wins.map (AV.int .i64)), .int .i64 b11.Room], .agg [.fz (b19.Wins.map (AV.int .i64)), .int .i64 b19.Room]]) h rfl (pv_c (sn_agg (sm_c (sn_ow hS 5 rfl qv13 (fun _ => rfl)) (sm_c rfl (sm_n _)))) (pv_c rfl pv_n)) fun b62 hb62 h => ⟨.bool b62, laws_sameShares_w hb62 (Own.nil _) fun H hS => TV_ok rfl (TV_p rfl (TV_n rfl)), ⟨rfl, rfl, fun _ => rfl⟩, ?_⟩
        try simp only [W, reduceIte, Bool.false_eq_true]
        refine w_grdT h (fun hc h => ?_) (fun hc h => ?_)
        · try simp only [W, hc]
          refine seq_n hK61 ?_
          refine w_kill ?_
          exact cut_n hK60 ⟨_, (Option.some.inj h).symm, rfl, (hS.sel 7 [5, 2, 6, 4, 1] (by decide))⟩
        · try simp only [W, EE, hc]
          rw [b_bneq _ _ _ _ (h := rfl) rfl, resV_s]
          try simp only [W, reduceIte, Bool.false_eq_true]
          refine w_grdT h (fun hc h => ?_) (fun hc h => ?_)
          · try simp only [W, hc]
            refine seq_n hK61 ?_
            refine w_kill ?_
            exact cut_n hK60 ⟨_, (Option.some.inj h).symm, rfl, (hS.sel 7 [5, 2, 6, 4, 1] (by decide))⟩
          · try simp only [W, EE, reduceIte, Bool.false_eq_true, hc]
            refine w_grdT h (fun hc h => ?_) (fun hc h => ?_)
            · try simp only [W, hc]
              refine seq_n hK61 ?_
              refine w_kill ?_
              exact cut_n hK60 ⟨_, (Option.some.inj h).symm, rfl, (hS.sel 7 [5, 2, 6, 4, 1] (by decide))⟩
            · try simp only [W, EE, reduceIte, Bool.false_eq_true, hc]
              refine w_grdT h (fun hc h => ?_) (fun hc h => ?_)
              · try simp only [W, hc]
                refine seq_n hK61 ?_
                refine w_kill ?_
                exact cut_n hK60 ⟨_, (Option.some.inj h).symm, rfl, (hS.sel 7 [5, 2, 6, 4, 1] (by decide))⟩
              · try simp only [W, EE, hc]
                rw [b_bneq _ _ _ _ (h := rfl) rfl, resV_s]
                try simp only [W, reduceIte, Bool.false_eq_true]
                refine w_grdT h (fun hc h => ?_) (fun hc h => ?_)
                · try simp only [W, hc]
                  refine seq_n hK61 ?_
                  refine w_kill ?_
                  exact cut_n hK60 ⟨_, (Option.some.inj h).symm, rfl, (hS.sel 7 [5, 2, 6, 4, 1] (by decide))⟩
                · try simp only [W, EE, reduceIte, Bool.false_eq_true, hc]
                  refine w_grdT h (fun hc h => ?_) (fun hc h => ?_)
                  · try simp only [W, hc]
                    refine seq_n hK61 ?_
                    refine w_kill ?_
                    exact cut_n hK60 ⟨_, (Option.some.inj h).symm, rfl, (hS.sel 7 [5, 2, 6, 4, 1] (by decide))⟩
                  · try simp only [W, EE, hc]
                    rw [b_bneq _ _ _ _ (h := rfl) rfl, resV_s]
                    try simp only [W, reduceIte, Bool.false_eq_true]
                    refine w_grdT h (fun hc h => ?_) (fun hc h => ?_)
                    · try simp only [W, hc]
                      refine seq_n hK61 ?_
                      refine w_kill ?_
                      exact cut_n hK60 ⟨_, (Option.some.inj h).symm, rfl, (hS.sel 7 [5, 2, 6, 4, 1] (by decide))⟩
                    · try simp only [W, EE, reduceIte, Nat.reduceAdd, Nat.reduceLeDiff, hS.var 1 rfl, hS.var 0 rfl, hc]
                      refine w_callS (rsh := [[.sc]]) (ys := [.agg [.fz (b43.Wins.map (AV.int .i64)), .int .i64 b43.Room], .agg [.fz (b51.Wins.map (AV.int .i64)), .int .i64 b51.Room]]) h rfl (pv_c (sn_agg (sm_c (sn_ow hS 2 rfl qv45 (fun _ => rfl)) (sm_c rfl (sm_n _)))) (pv_c rfl pv_n)) fun b63 hb63 h => ⟨.bool b63, laws_sameShares_w hb63 (Own.nil _) fun H hS => TV_ok rfl (TV_p rfl (TV_n rfl)), ⟨rfl, rfl, fun _ => rfl⟩, ?_⟩
                      try simp only [W, reduceIte, Bool.false_eq_true]
                      refine w_grdT h (fun hc h => ?_) (fun hc h => ?_)
                      · try simp only [W, hc]
                        refine seq_n hK61 ?_
                        refine w_kill ?_
                        exact cut_n hK60 ⟨_, (Option.some.inj h).symm, rfl, (hS.sel 7 [5, 2, 6, 4, 1] (by decide))⟩
                      · try simp only [W, EE, reduceIte, Nat.reduceAdd, Nat.reduceLeDiff, hS.var 6 rfl, hc]
                        refine w_call h fun b64 hb64 h => ?_
                        refine impl_GoodShares_w hb64 hS fun H hS => ?_
                        try simp only [W, EE]
                        rw [b_bneq _ _ _ _ (h := rfl) rfl, resV_s]
                        try simp only [W, reduceIte, Bool.false_eq_true]
                        refine seq_n hK61 ?_
                        refine w_kill ?_
                        exact cut_n hK60 ⟨_, (Option.some.inj h).symm, rfl, (hS.sel 7 [5, 2, 6, 4, 1] (by decide))⟩
    · obtain ⟨x57, ey, rfl, hS⟩ := hq; obtain rfl := ey.symm
      replace h := g59
      try dsimp only at h
      refine seq_n hK56 ?_
      refine w_if ?_
      simp only [W]
      refine w_cnd h (fun hc h => ?_) (fun hc h => ?_)
      · refine w_seq fun K65 hK65 => ?_
        refine w_reg gC ?_
        try simp only [W, Nat.reduceAdd]
        refine seq_n hK65 ?_
        refine w_ret ?_
        refine seq_r hK55 ?_
        refine fin_r1 hK0 rfl ?_
        try obtain rfl := Option.some.inj h
        exact hP _ (hS.sel 5 [] (by decide))
      · refine w_skip ?_
        refine seq_n hK55 ?_
        refine w_seq fun K66 hK66 => ?_
        refine w_seq fun K67 hK67 => ?_
        obtain ⟨y69, h, g70⟩ := Option.bind_eq_some_iff.1 h
        refine w_join gC (fun s H => ∃ x68 : Bool, y69 = (x68) ∧ s = [u, .fz (a1.map (AV.int .u8)), u, u, u, .ptr ip7 wp7 0 0, .ptr ip15 wp15 0 0, .bool b12, u, u, u, u, u, u, u, u, .int .i64 b35, u, u, u, .ptr ip47 wp47 0 0, .bool b44, u, u, u, u, u, u, u, u, u, u, u, u, u, u, u, u, u, u, u, u, u, u, u, u, u, u, u, u, u, u, u, u, u, u, u, u, u, u, u, u, u, u, u, u, u, u, u, u, u, u, u, u, u, u, u, u, u, u, u, u, u, u, u, u, u, u, u, u, u, u, u, u, u, u, u, u, u, u, u, u, u, u, u, u, u, u, u, u, u, u, u, u, u, u, u, u, u, u, u, u, u, u, u, u, u, u, u, u, u, u, u, u, u, u, u, u, u, u, u, u, u, u, u, u, u, u, u, u, .bool x68, u, u, u, u, u, u, u, u, u, u, u, u, u, u, u, u, u, u, u, u, u, u, u, u, u, u, u, u, u, u, u, u, u, u, u, u, u, u, u, u, u, u, u, u, u, u, u, u, u, u, u, u, u, u, u, u, u, u, u, u, u, u, u, u, u, u] ∧ Own H (⟨v13, 1, b11.Wins.map (AV.int .i64)⟩ :: ⟨v45, 1, b43.Wins.map (AV.int .i64)⟩ :: ⟨.ptr ip7 wp7 0 0, 2, [.agg [.fz (b6.Wins.map (AV.int .i64)), .int .i64 b6.Room]]⟩ :: ⟨.ptr ip15 wp15 0 0, 2, [.agg [v13, .int .i64 b11.Room]]⟩ :: ⟨.ptr ip47 wp47 0 0, 2, [.agg [v45, .int .i64 b43.Room]]⟩ :: F)) (fun K71 hK71 => ?_) (fun s H hq => ?_)
        · refine w_seq fun K72 hK72 => ?_
          refine w_reg gC ?_
          try simp only [W, Nat.reduceAdd]
          refine w_grdT h (fun hc h => ?_) (fun hc h => ?_)
          · try simp only [W, EE, hc]
            refine w_grdT h (fun hc h => ?_) (fun hc h => ?_)
            · try simp only [W, reduceIte, hc]
              refine seq_n hK72 ?_
              refine w_kill ?_
              exact cut_n hK71 ⟨_, (Option.some.inj h).symm, rfl, hS⟩
            · try simp only [W, EE, hc]
              rw [b_bneq _ _ _ _ (h := rfl) rfl, resV_s]
              try simp only [W, reduceIte, Bool.false_eq_true]
              refine seq_n hK72 ?_
              refine w_kill ?_
              exact cut_n hK71 ⟨_, (Option.some.inj h).symm, rfl, hS⟩
          · try simp only [W, hc]
            refine seq_n hK72 ?_
            refine w_kill ?_
            exact cut_n hK71 ⟨_, (Option.some.inj h).symm, rfl, hS⟩
        · obtain ⟨x68, ey, rfl, hS⟩ := hq; obtain rfl := ey.symm
          replace h := g70
          try dsimp only at h
          refine seq_n hK67 ?_
          refine w_if ?_
          simp only [W]
          refine w_cnd h (fun hc h => ?_) (fun hc h => ?_)
          · refine w_seq fun K73 hK73 => ?_
            refine w_reg gC ?_
            try simp only [W, Nat.reduceAdd]
            refine seq_n hK73 ?_
            refine w_ret ?_
            refine seq_r hK66 ?_
            refine fin_r1 hK0 rfl ?_
            try obtain rfl := Option.some.inj h
            exact hP _ (hS.sel 5 [] (by decide))
          · refine w_skip ?_
            refine seq_n hK66 ?_
            refine w_seq fun K74 hK74 => ?_
            refine w_seq fun K75 hK75 => ?_
            refine w_reg gC ?_
            try simp only [W, Nat.reduceAdd]
            refine seq_n hK75 ?_
            obtain ⟨y76, h, g77⟩ := Option.bind_eq_some_iff.1 h
            refine w_join gC (fun s H => y76 = LR.next () ∧ s = [u, .fz (a1.map (AV.int .u8)), u, u, u, u, u, u, u, u, u, u, u, u, u, u, .int .i64 b35, u, u, u, .ptr ip47 wp47 0 0, .bool b44, u, u, u, u, u, u, u, u, u, u, u, u, u, u, u, u, u, u, u, u, u, u, u, u, u, u, u, u, u, u, u, u, u, u, u, u, u, u, u, u, u, u, u, u, u, u, u, u, u, u, u, u, u, u, u, u, u, u, u, u, u, u, u, u, u, u, u, u, u, u, u, u, u, u, u, u, u, u, u, u, u, u, u, u, u, u, u, u, u, u, u, u, u, u, u, u, u, u, u, u, u, u, u, u, u, u, u, u, u, u, u, u, u, u, u, u, u, u, u, u, u, u, u, u, u, u, u, u, u, u, u, u, u, u, u, u, u, u, u, u, u, u, u, u, u, u, u, u, u, u, u, u, u, u, u, u, u, u, u, u, u, u, u, u, u, u, u, u, u, u, u, u, u, u, u, u, u, u, u, u, u, u, u, u, u, u, u, u, u, u, u, u, u, u, u] ∧ Own H (⟨v45, 1, b43.Wins.map (AV.int .i64)⟩ :: ⟨.ptr ip47 wp47 0 0, 2, [.agg [v45, .int .i64 b43.Room]]⟩ :: F)) (fun K78 hK78 => ?_) (fun s H hq => ?_)
            · refine w_seq fun K79 hK79 => ?_
              refine w_if ?_
              simp only [W]
              refine w_cnd h (fun hc h => ?_) (fun hc h => ?_)
              · refine w_seq fun K80 hK80 => ?_
                refine w_reg gC ?_
                try simp only [W, EE, reduceIte, Nat.reduceAdd, Nat.reduceLeDiff, hS.var 3 rfl, hS.var 2 rfl]
                refine w_callS (rsh := [[.sc], [.sc]]) (ys := [.agg [.fz (b6.Wins.map (AV.int .i64)), .int .i64 b6.Room], .agg [.fz (b11.Wins.map (AV.int .i64)), .int .i64 b11.Room]]) h rfl (pv_c rfl (pv_c (sn_agg (sm_c (sn_ow hS 0 rfl qv13 (fun _ => rfl)) (sm_c rfl (sm_n _)))) pv_n)) fun b81 hb81 h => ⟨.tup [.bool b81.1, .bool b81.2], impl_IsFairer_w hb81 (Own.nil _) fun H hS => TV_ok rfl (TV_p rfl (TV_p rfl (TV_n rfl))), ⟨rfl, rfl, fun _ => rfl⟩, ?_⟩
                obtain ⟨b82, b83⟩ := b81
                try dsimp only at h
                try simp only [W]
                refine seq_n hK80 ?_
                refine w_seq fun K84 hK84 => ?_
                refine w_reg gC ?_
                try simp only [W, EE, reduceIte, Nat.reduceAdd, Nat.reduceLeDiff, hS.var 3 rfl]
                refine w_callS (rsh := [[.sc], [.sc]]) (ys := [.agg [.fz (b11.Wins.map (AV.int .i64)), .int .i64 b11.Room]]) h rfl (pv_c (sn_agg (sm_c (sn_ow hS 0 rfl qv13 (fun _ => rfl)) (sm_c rfl (sm_n _)))) pv_n) fun b85 hb85 h => ⟨.tup [.int .i64 b85.1, .bool b85.2], impl_SpreadOf_w hb85 (Own.nil _) fun H hS => TV_ok rfl (TV_p rfl (TV_p rfl (TV_n rfl))), ⟨rfl, rfl, fun _ => rfl⟩, ?_⟩
                obtain ⟨b86, b87⟩ := b85
                try dsimp only at h
                try simp only [W]
                refine seq_n hK84 ?_
                refine w_seq fun K88 hK88 => ?_
                obtain ⟨y90, h, g91⟩ := Option.bind_eq_some_iff.1 h
                refine w_join gC (fun s H => ∃ x89 : Bool, y90 = (x89) ∧ s = [u, .fz (a1.map (AV.int .u8)), u, u, u, u, u, u, u, u, u, u, u, u, u, u, .int .i64 b35, u, u, u, .ptr ip47 wp47 0 0, .bool b44, u, u, u, u, u, u, u, u, u, u, u, u, u, u, u, u, u, u, u, u, u, u, u, u, u, u, u, u, u, u, u, u, u, u, u, u, u, u, u, u, u, u, u, u, u, u, u, u, u, u, u, u, u, u, u, u, u, u, u, u, u, u, u, u, u, u, u, u, u, u, u, u, u, u, u, u, u, u, u, u, u, u, u, u, u, u, u, u, u, u, u, u, u, u, u, u, u, u, u, u, u, u, u, u, u, u, u, u, u, u, u, u, u, u, u, u, u, u, u, u, u, u, u, u, u, u, u, u, u, u, u, u, u, u, u, u, u, u, u, u, u, u, u, u, u, u, u, u, u, u, u, u, u, u, .bool x89, u, u, u, u, u, u, u, u, u, u, u, u, u, u, u, u, u, u, u, u, u, u, u, u, u, u, u, u, u, u, u, u, u, u, u, u, u, u, u, u] ∧ Own H (⟨v45, 1, b43.Wins.map (AV.int .i64)⟩ :: ⟨.ptr ip47 wp47 0 0, 2, [.agg [v45, .int .i64 b43.Room]]⟩ :: F)) (fun K92 hK92 => ?_) (fun s H hq => ?_)
                · refine w_seq fun K93 hK93 => ?_
                  refine w_reg gC ?_
                  try simp only [W, Nat.reduceAdd]
                  refine w_grdT h (fun hc h => ?_) (fun hc h => ?_)
                  · try simp only [W, hc]
                    refine seq_n hK93 ?_
                    refine w_kill ?_
                    exact cut_n hK92 ⟨_, (Option.some.inj h).symm, rfl, (hS.sel 5 [1, 4] (by decide))⟩
                  · try simp only [W, reduceIte, Bool.false_eq_true, hc]
                    refine w_grdT h (fun hc h => ?_) (fun hc h => ?_)
                    · try simp only [W, hc]
                      refine seq_n hK93 ?_
                      refine w_kill ?_
                      exact cut_n hK92 ⟨_, (Option.some.inj h).symm, rfl, (hS.sel 5 [1, 4] (by decide))⟩
                    · try simp only [W, reduceIte, Bool.false_eq_true, hc]
                      refine w_grdT h (fun hc h => ?_) (fun hc h => ?_)
                      · try simp only [W, hc]
                        refine seq_n hK93 ?_
                        refine w_kill ?_
                        exact cut_n hK92 ⟨_, (Option.some.inj h).symm, rfl, (hS.sel 5 [1, 4] (by decide))⟩
                      · try simp only [W, EE, reduceIte, Bool.false_eq_true, hc]
                        refine seq_n hK93 ?_
                        refine w_kill ?_
                        exact cut_n hK92 ⟨_, (Option.some.inj h).symm, rfl, (hS.sel 5 [1, 4] (by decide))⟩
                · obtain ⟨x89, ey, rfl, hS⟩ := hq; obtain rfl := ey.symm
                  replace h := g91
                  try dsimp only at h
                  refine seq_n hK88 ?_
                  refine w_if ?_
                  simp only [W]
                  refine w_cnd h (fun hc h => ?_) (fun hc h => ?_)
                  · refine w_seq fun K94 hK94 => ?_
                    refine w_reg gC ?_
                    try simp only [W, Nat.reduceAdd]
                    refine seq_n hK94 ?_
                    refine w_ret ?_
                    refine seq_r hK79 ?_
                    try obtain rfl := Option.some.inj h
                    obtain rfl := Option.some.inj g77
                    have h : (some false : Option (Bool)) = some false := rfl
                    refine cut_r hK78 ?_
                    refine seq_r hK74 ?_
                    refine fin_r1 hK0 rfl ?_
                    try obtain rfl := Option.some.inj h
                    exact hP _ (hS.sel 2 [] (by decide))
                  · refine w_skip ?_
                    refine seq_n hK79 ?_
                    refine w_kill ?_
                    exact cut_n hK78 ⟨(Option.some.inj h).symm, rfl, hS⟩
              · refine w_skip ?_
                refine seq_n hK79 ?_
                refine w_kill ?_
                exact cut_n hK78 ⟨(Option.some.inj h).symm, rfl, (hS.sel 5 [1, 4] (by decide))⟩
            · obtain ⟨rfl, rfl, hS⟩ := hq
              replace h := g77
              try dsimp only at h
              refine seq_n hK74 ?_
              refine w_seq fun K97 hK97 => ?_
              refine w_seq fun K98 hK98 => ?_
              refine w_reg gC ?_
              try simp only [W, Nat.reduceAdd]
              refine seq_n hK98 ?_
              obtain ⟨y99, h, g100⟩ := Option.bind_eq_some_iff.1 h
              refine w_join gC (fun s H => y99 = LR.next () ∧ s = [u, .fz (a1.map (AV.int .u8)), u, u, u, u, u, u, u, u, u, u, u, u, u, u, u, u, u, u, u, u, u, u, u, u, u, u, u, u, u, u, u, u, u, u, u, u, u, u, u, u, u, u, u, u, u, u, u, u, u, u, u, u, u, u, u, u, u, u, u, u, u, u, u, u, u, u, u, u, u, u, u, u, u, u, u, u, u, u, u, u, u, u, u, u, u, u, u, u, u, u, u, u, u, u, u, u, u, u, u, u, u, u, u, u, u, u, u, u, u, u, u, u, u, u, u, u, u, u, u, u, u, u, u, u, u, u, u, u, u, u, u, u, u, u, u, u, u, u, u, u, u, u, u, u, u, u, u, u, u, u, u, u, u, u, u, u, u, u, u, u, u, u, u, u, u, u, u, u, u, u, u, u, u, u, u, u, u, u, u, u, u, u, u, u, u, u, u, u, u, u, u, u, u, u, u, u, u, u, u, u, u, u, u, u, u, u, u, u, u, u, u, u, u, u, u] ∧ Own H (F)) (fun K101 hK101 => ?_) (fun s H hq => ?_)
              · refine w_seq fun K102 hK102 => ?_
                refine w_if ?_
                simp only [W]
                refine w_cnd h (fun hc h => ?_) (fun hc h => ?_)
                · refine w_seq fun K103 hK103 => ?_
                  refine w_reg gC ?_
                  try simp only [W, EE, reduceIte, Nat.reduceAdd, Nat.reduceLeDiff, hS.var 1 rfl]
                  refine w_callS (rsh := [[.sc], [.sc]]) (ys := [.agg [.fz (b43.Wins.map (AV.int .i64)), .int .i64 b43.Room]]) h rfl (pv_c (sn_agg (sm_c (sn_ow hS 0 rfl qv45 (fun _ => rfl)) (sm_c rfl (sm_n _)))) pv_n) fun b104 hb104 h => ⟨.tup [.int .i64 b104.1, .bool b104.2], impl_SpreadOf_w hb104 (Own.nil _) fun H hS => TV_ok rfl (TV_p rfl (TV_p rfl (TV_n rfl))), ⟨rfl, rfl, fun _ => rfl⟩, ?_⟩
                  obtain ⟨b105, b106⟩ := b104
                  try dsimp only at h
                  try simp only [W]
                  refine seq_n hK103 ?_
                  refine w_seq fun K107 hK107 => ?_
                  obtain ⟨y109, h, g110⟩ := Option.bind_eq_some_iff.1 h
                  refine w_join gC (fun s H => ∃ x108 : Bool, y109 = (x108) ∧ s = [u, .fz (a1.map (AV.int .u8)), u, u, u, u, u, u, u, u, u, u, u, u, u, u, u, u, u, u, u, u, u, u, u, u, u, u, u, u, u, u, u, u, u, u, u, u, u, u, u, u, u, u, u, u, u, u, u, u, u, u, u, u, u, u, u, u, u, u, u, u, u, u, u, u, u, u, u, u, u, u, u, u, u, u, u, u, u, u, u, u, u, u, u, u, u, u, u, u, u, u, u, u, u, u, u, u, u, u, u, u, u, u, u, u, u, u, u, u, u, u, u, u, u, u, u, u, u, u, u, u, u, u, u, u, u, u, u, u, u, u, u, u, u, u, u, u, u, u, u, u, u, u, u, u, u, u, u, u, u, u, u, u, u, u, u, u, u, u, u, u, u, u, u, u, u, u, u, u, u, u, u, u, u, u, u, u, u, u, u, u, u, u, u, u, u, u, u, u, u, .bool x108, u, u, u, u, u, u, u, u, u, u, u, u, u, u, u, u, u, u, u, u, u, u, u, u, u] ∧ Own H (F)) (fun K111 hK111 => ?_) (fun s H hq => ?_)
                  · refine w_seq fun K112 hK112 => ?_
                    refine w_reg gC ?_
                    try simp only [W, Nat.reduceAdd]
                    refine w_grdT h (fun hc h => ?_) (fun hc h => ?_)
                    · try simp only [W, hc]
                      refine seq_n hK112 ?_
                      refine w_kill ?_
                      exact cut_n hK111 ⟨_, (Option.some.inj h).symm, rfl, (hS.sel 2 [] (by decide))⟩
                    · try simp only [W, EE, hc]
                      rw [dv_lit _ _ _ rfl, Option.map_some, resV_s]
                      try simp only [W, EE, reduceIte, Bool.false_eq_true]
                      refine seq_n hK112 ?_
                      refine w_kill ?_
                      exact cut_n hK111 ⟨_, (Option.some.inj h).symm, rfl, (hS.sel 2 [] (by decide))⟩
                  · obtain ⟨x108, ey, rfl, hS⟩ := hq; obtain rfl := ey.symm
                    replace h := g110
                    try dsimp only at h
                    refine seq_n hK107 ?_
                    refine w_if ?_
                    simp only [W]
                    refine w_cnd h (fun hc h => ?_) (fun hc h => ?_)
                    · refine w_seq fun K113 hK113 => ?_
                      refine w_reg gC ?_
                      try simp only [W, Nat.reduceAdd]
                      refine seq_n hK113 ?_
                      refine w_ret ?_
                      refine seq_r hK102 ?_
                      try obtain rfl := Option.some.inj h
                      obtain rfl := Option.some.inj g100
                      have h : (some false : Option (Bool)) = some false := rfl
                      refine cut_r hK101 ?_
                      refine seq_r hK97 ?_
                      refine fin_r1 hK0 rfl ?_
                      try obtain rfl := Option.some.inj h
                      exact hP _ hS
                    · refine w_skip ?_
                      refine seq_n hK102 ?_
                      refine w_kill ?_
                      exact cut_n hK101 ⟨(Option.some.inj h).symm, rfl, hS⟩
                · refine w_skip ?_
                  refine seq_n hK102 ?_
                  refine w_kill ?_
                  exact cut_n hK101 ⟨(Option.some.inj h).symm, rfl, (hS.sel 2 [] (by decide))⟩
              · obtain ⟨rfl, rfl, hS⟩ := hq
                replace h := g100
                try dsimp only at h
                refine seq_n hK97 ?_
                refine w_seq fun K116 hK116 => ?_
                refine w_reg gC ?_
                try simp only [W, Nat.reduceAdd]
                refine w_call h fun b117 hb117 h => ?_
                obtain ⟨b118, b119⟩ := b117
                try dsimp only at h
                refine spec_DrawIsFairer_w hb117 hS fun H hS => ?_
                try simp only [W]
                refine w_alloc hS rfl rfl fun ip120 wp120 H hS => ?_
                try simp only [W]
                refine w_alloc hS rfl rfl fun ip122 wp122 H hS => ?_
                try simp only [W]
                refine w_stv (a := .agg [.fz (b118.Wins.map (AV.int .i64)), .int .i64 b118.Room]) (y' := .agg [.fz (b118.Wins.map (AV.int .i64)), .int .i64 b118.Room]) 1 hS rfl rfl rfl rfl rfl rfl rfl rfl fun H hS => ?_
                try simp only [W]
                refine w_stv (a := .agg [.fz (b119.Wins.map (AV.int .i64)), .int .i64 b119.Room]) (y' := .agg [.fz (b119.Wins.map (AV.int .i64)), .int .i64 b119.Room]) 0 hS rfl rfl rfl rfl rfl rfl rfl rfl fun H hS => ?_
                try simp only [W]
                refine seq_n hK116 ?_
                refine w_seq fun K124 hK124 => ?_
                refine w_reg gC ?_
                try simp only [W, EE, reduceIte, Nat.reduceAdd, Nat.reduceLeDiff, hS.var 1 rfl, hS.var 0 rfl]
                refine w_call h fun b125 hb125 h => ?_
                obtain ⟨b126, b127⟩ := b125
                try dsimp only at h
                refine impl_IsFairer_w hb125 hS fun H hS => ?_
                try simp only [W]
                refine seq_n hK124 ?_
                refine w_seq fun K128 hK128 => ?_
                refine w_reg gC ?_
                try simp only [W, EE, reduceIte, Nat.reduceAdd, Nat.reduceLeDiff, hS.var 1 rfl, hS.var 0 rfl]
                refine w_call h fun b129 hb129 h => ?_
                obtain ⟨b130, b131⟩ := b129
                try dsimp only at h
                refine spec_IsFairer_w hb129 hS fun H hS => ?_
                try simp only [W]
                refine seq_n hK128 ?_
                refine w_seq fun K132 hK132 => ?_
                refine w_reg gC ?_
                try simp only [W, EE, Nat.reduceAdd]
                rw [b_beql _ _ _ _ (h := rfl) rfl, resV_s]
                try simp only [W]
                refine w_grdT h (fun hc h => ?_) (fun hc h => ?_)
                · try simp only [W, EE, hc]
                  rw [b_beql _ _ _ _ (h := rfl) rfl, resV_s]
                  try simp only [W, reduceIte]
                  refine seq_n hK132 ?_
                  refine w_ret ?_
                  refine fin_r1 hK0 rfl ?_
                  try obtain rfl := Option.some.inj h
                  exact hP _ (hS.sel 2 [] (by decide))
                · try simp only [W, hc]
                  refine seq_n hK132 ?_
                  refine w_ret ?_
                  refine fin_r1 hK0 rfl ?_
                  try obtain rfl := Option.some.inj h
                  exact hP _ (hS.sel 2 [] (by decide))
end Go.VxW
