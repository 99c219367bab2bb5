import Derived.Test.YtdgiianbihfkoaaVyGF
import Derived.Test.YtdgiianbihfkoaaProg
import Derived.Test.YtdgiianbihfkoaaVaE
import Derived.KernelRfl
open Go Go.VS
set_option maxRecDepth 8000
set_option maxHeartbeats 4000000
namespace Go.VxW
def e_Work (x : Work) : AV := .agg [.int .i64 x.End, .int .i64 x.Rank, .int .i64 x.Id]
def e_L1Cur (x : L1Cur) : AV := .agg [.fz (x.Code.map (AV.int .u8)), .int .i64 x.At, .int .u64 x.Seed]
def E : TEnv := fun t => match t with
  | 3 => some { sz := 1, agg := false, zero := [AV.int IntKind.i64 0], bytes := 8, und := UD.it IntKind.i64, eqok := true }
  | 4 => some { sz := 1, agg := false, zero := [AV.bool false], bytes := 1, und := UD.bl, eqok := true }
  | 5 => some { sz := 1, agg := false, zero := [AV.int IntKind.u8 0], bytes := 1, und := UD.it IntKind.u8, eqok := true }
  | 22 => some { sz := 1, agg := false, zero := [AV.nil], bytes := 24, und := UD.sl 5, eqok := true }
  | 24 => some { sz := 1, agg := false, zero := [AV.nil], bytes := 24, und := UD.sl 3, eqok := true }
  | 110 => some { sz := 1, agg := false, zero := [AV.nil], bytes := 24, und := UD.sl 118, eqok := true }
  | 118 => some { sz := 3, agg := true, zero := [AV.int IntKind.i64 0, AV.int IntKind.i64 0, AV.int IntKind.i64 0], bytes := 24, und := UD.st [(0, 3), (1, 3), (2, 3)], eqok := true }
  | 150 => some { sz := 1, agg := false, zero := [AV.nilp], bytes := 8, und := UD.pt, eqok := true }
  | 151 => some { sz := 1, agg := false, zero := [AV.int IntKind.u64 0], bytes := 8, und := UD.it IntKind.u64, eqok := true }
  | 153 => some { sz := 3, agg := true, zero := [AV.nil, AV.int IntKind.i64 0, AV.int IntKind.u64 0], bytes := 40, und := UD.st [(0, 22), (1, 3), (2, 151)], eqok := true }
  | 195 => some { sz := 1, agg := false, zero := [AV.undef], bytes := 8, und := UD.ot, eqok := true }
  | _ => none
def pol : FuncId → FPol := fun f => match f with
  | 11 => { rsh := [[.sc]], loops := [(0, { keep := [1, 5, 6, 14, 144, 145, 146] })], blocks := [(1, [1, 5, 6, 14, 144, 145, 146]), (0, [1])], regs := [(4, [], [1]), (5, [], [1]), (8, [], [1]), (9, [], [1])], frz := [(10, [], some [1, 5, 6, 7, 10, 11, 14, 15, 99]), (14, [], some [1, 5, 6, 14, 143]), (19, [], some [1, 5, 6, 14, 20, 21, 144, 145, 146, 166]), (23, [], some [1, 5, 6, 14, 144, 145, 146, 183]), (29, [], some [24, 25, 26, 27, 209])], cnds := [(100, [1]), (168, [1, 5, 6, 14, 144, 145, 146])] }
  | 91 => { rsh := [[.sl [.sc, .sc, .sc]]] }
  | 92 => { rsh := [[.sl [.sc, .sc, .sc]], [.sc]] }
  | 93 => { rsh := [[.sl [.sc, .sc, .sc]], [.sc]] }
  | 94 => { rsh := [[.sc], [.sc]] }
  | 95 => { rsh := [[.sc], [.sc]] }
  | 96 => { rsh := [[.sl [.sc, .sc, .sc]], [.sc]], loops := [(0, { keep := [4, 5] })], blocks := [(0, [4])] }
  | 97 => { rsh := [[.sl [.sc, .sc, .sc]], [.sc]], loops := [(0, { keep := [4, 6] })], blocks := [(0, [6])], regs := [(6, [], [1])] }
  | 98 => { rsh := [[.sc]], loops := [(0, { keep := [0, 1, 12, 13] })], blocks := [(0, [])] }
  | 99 => { rsh := [[.sc], [.sc]] }
  | 100 => { rsh := [[.sc]], loops := [(0, { keep := [3, 5, 8, 9, 10] })], blocks := [(1, [3, 5, 8, 9, 10]), (0, [5])], cnds := [(16, [3, 5, 8, 9, 10])] }
  | 101 => { rsh := [[.sc], [.sc]], frz := [(1, [], some [2, 3, 13])] }
  | 102 => { rsh := [[.sc, .sc, .sc], [.sc, .sc, .sc]] }
  | 103 => { rsh := [[.sc], [.sc]], frz := [(1, [], some [2, 3, 13])] }
  | 141 => { rsh := [[.sc]], cnds := [(11, [1, 5])] }
  | 142 => { rsh := [[.sc]] }
  | 143 => { rsh := [[.sc]] }
  | 147 => { rsh := [[.sc]] }
  | 153 => { rsh := [[.sc]] }
  | 211 => { rsh := [[.sl [.sc, .sc, .sc]]], loops := [(0, { keep := [0, 3, 4] })], blocks := [(0, [3])], cnds := [(8, [0, 3, 4])] }
  | 212 => { rsh := [[.sc]] }
  | 213 => { rsh := [[.sl [.sc, .sc, .sc]], [.sc]], loops := [(0, { keep := [4, 5, 6] })], blocks := [(0, [4, 5])] }
  | 214 => { rsh := [[.sc]], loops := [(0, { keep := [0, 5, 6, 7] })], blocks := [(0, [0])] }
  | 215 => { rsh := [[.sl [.sc, .sc, .sc]], [.sc]], loops := [(0, { keep := [4, 5, 6] })], blocks := [(0, [4, 5])] }
  | 216 => { rsh := [[.sl [.sc, .sc, .sc]], [.sc, .sc, .sc]], regs := [(5, [3], [])] }
  | 217 => { rsh := [[.sl [.sc, .sc, .sc]], [.sc, .sc, .sc]], regs := [(7, [3], [])], cnds := [(27, [3, 4, 5])] }
  | 218 => { rsh := [[.sc]], loops := [(0, { keep := [0, 3] })], blocks := [(0, [])] }
  | 219 => { rsh := [[.sc]] }
  | 220 => { rsh := [[.sc]] }
  | 221 => { rsh := [[.sc, .sc, .sc]], fz := [(2, [(2, [([6], [.sl [.sc]])])])] }
  | 222 => { rsh := [[.sc]] }
  | 223 => { rsh := [[.sc]] }
  | 235 => { rsh := [[.sl [.sc, .sc, .sc]]] }
  | 239 => { rsh := [[.sc]], loops := [(0, { keep := [0, 1, 5] })], blocks := [(0, [5])], regs := [(7, [13, 15], [])], frz := [(4, [], some [0, 1, 5, 6, 33])], cnds := [(33, [0, 1, 5, 6])] }
  | 241 => { rsh := [[.sc]], loops := [(0, { keep := [0, 1, 5] }), (2, { keep := [0, 1, 5, 6, 17, 18, 19] })], blocks := [(3, [0, 1, 5, 6, 17, 18, 19]), (2, [0, 1, 5, 6]), (0, [4])], frz := [(6, [], some [0, 1, 5, 6, 8, 17, 18, 19, 37])], cnds := [(37, [0, 1, 5, 6, 17, 18, 19])] }
  | 252 => { rsh := [[.sc]], cnds := [(13, [0, 3])] }
  | 261 => { rsh := [[.sc]] }
  | 262 => { rsh := [[.sc]] }
  | 263 => { rsh := [[.sc]], loops := [(0, { keep := [3, 6, 7, 8] })], blocks := [(0, [3])] }
  | 274 => { rsh := [[.sc]], loops := [(0, { keep := [0, 1, 7, 8] })], blocks := [(0, [])] }
  | _ => {}
noncomputable def code : FuncId → Option Func := fun f => match f with
  | 11 => some Go.Proofs.Try.f11
  | 91 => some Go.Proofs.Try.f91
  | 92 => some Go.Proofs.Try.f92
  | 93 => some Go.Proofs.Try.f93
  | 94 => some Go.Proofs.Try.f94
  | 95 => some Go.Proofs.Try.f95
  | 96 => some Go.Proofs.Try.f96
  | 97 => some Go.Proofs.Try.f97
  | 98 => some Go.Proofs.Try.f98
  | 99 => some Go.Proofs.Try.f99
  | 100 => some Go.Proofs.Try.f100
  | 101 => some Go.Proofs.Try.f101
  | 102 => some Go.Proofs.Try.f102
  | 103 => some Go.Proofs.Try.f103
  | 141 => some Go.Proofs.Try.f141
  | 142 => some Go.Proofs.Try.f142
  | 143 => some Go.Proofs.Try.f143
  | 147 => some Go.Proofs.Try.f147
  | 153 => some Go.Proofs.Try.f153
  | 211 => some Go.Proofs.Try.f211
  | 212 => some Go.Proofs.Try.f212
  | 213 => some Go.Proofs.Try.f213
  | 214 => some Go.Proofs.Try.f214
  | 215 => some Go.Proofs.Try.f215
  | 216 => some Go.Proofs.Try.f216
  | 217 => some Go.Proofs.Try.f217
  | 218 => some Go.Proofs.Try.f218
  | 219 => some Go.Proofs.Try.f219
  | 220 => some Go.Proofs.Try.f220
  | 221 => some Go.Proofs.Try.f221
  | 222 => some Go.Proofs.Try.f222
  | 223 => some Go.Proofs.Try.f223
  | 239 => some Go.Proofs.Try.f239
  | 241 => some Go.Proofs.Try.f241
  | 252 => some Go.Proofs.Try.f252
  | 261 => some Go.Proofs.Try.f261
  | 262 => some Go.Proofs.Try.f262
  | 263 => some Go.Proofs.Try.f263
  | 274 => some Go.Proofs.Try.f274
  | _ => none
def cids : List (FuncId × Nat × Nat) := [(235, 3, 24)]
noncomputable def C : Ctx := ⟨E, pol, code, cloneExt cids⟩
theorem gC : Good C := clone_good (ids := cids) rfl
theorem cE : C.E = E := rfl
theorem E3 : E 3 = some { sz := 1, agg := false, zero := [AV.int IntKind.i64 0], bytes := 8, und := UD.it IntKind.i64, eqok := true } := rfl
theorem E4 : E 4 = some { sz := 1, agg := false, zero := [AV.bool false], bytes := 1, und := UD.bl, eqok := true } := rfl
theorem E5 : E 5 = some { sz := 1, agg := false, zero := [AV.int IntKind.u8 0], bytes := 1, und := UD.it IntKind.u8, eqok := true } := rfl
theorem E22 : E 22 = some { sz := 1, agg := false, zero := [AV.nil], bytes := 24, und := UD.sl 5, eqok := true } := rfl
theorem E24 : E 24 = some { sz := 1, agg := false, zero := [AV.nil], bytes := 24, und := UD.sl 3, eqok := true } := rfl
theorem E110 : E 110 = some { sz := 1, agg := false, zero := [AV.nil], bytes := 24, und := UD.sl 118, eqok := true } := rfl
theorem E118 : E 118 = some { sz := 3, agg := true, zero := [AV.int IntKind.i64 0, AV.int IntKind.i64 0, AV.int IntKind.i64 0], bytes := 24, und := UD.st [(0, 3), (1, 3), (2, 3)], eqok := true } := rfl
theorem E150 : E 150 = some { sz := 1, agg := false, zero := [AV.nilp], bytes := 8, und := UD.pt, eqok := true } := rfl
theorem E151 : E 151 = some { sz := 1, agg := false, zero := [AV.int IntKind.u64 0], bytes := 8, und := UD.it IntKind.u64, eqok := true } := rfl
theorem E153 : E 153 = some { sz := 3, agg := true, zero := [AV.nil, AV.int IntKind.i64 0, AV.int IntKind.u64 0], bytes := 40, und := UD.st [(0, 22), (1, 3), (2, 151)], eqok := true } := rfl
theorem E195 : E 195 = some { sz := 1, agg := false, zero := [AV.undef], bytes := 8, und := UD.ot, eqok := true } := rfl
theorem EE : type_of% (And.intro @cE <| And.intro @E3 <| And.intro @E4 <| And.intro @E5 <| And.intro @E22 <| And.intro @E24 <| And.intro @E110 <| And.intro @E118 <| And.intro @E150 <| And.intro @E151 <| And.intro @E153 @E195) := And.intro @cE <| And.intro @E3 <| And.intro @E4 <| And.intro @E5 <| And.intro @E22 <| And.intro @E24 <| And.intro @E110 <| And.intro @E118 <| And.intro @E150 <| And.intro @E151 <| And.intro @E153 @E195
theorem e_L1Cur_d (x : L1Cur) : e_L1Cur x = .agg [.fz (x.Code.map (AV.int .u8)), .int .i64 x.At, .int .u64 x.Seed] := rfl
theorem e_Work_d (x : Work) : e_Work x = .agg [.int .i64 x.End, .int .i64 x.Rank, .int .i64 x.Id] := rfl
theorem EN : type_of% (And.intro @e_L1Cur_d <| And.intro @e_Work_d @killB_n) := And.intro @e_L1Cur_d <| And.intro @e_Work_d @killB_n
theorem spec_l1Cur_next_w {a0 : L1Cur} {i0 : Nat} {w0 : Nat} {r : (Int × L1Cur)} (h : spec_l1Cur_next a0 = some r) {F : List It} {H : Heap} (hS : Own H (⟨.ptr i0 w0 0 0, 3, [.agg [.fz (a0.Code.map (AV.int .u8)), .int .i64 a0.At, .int .u64 a0.Seed]]⟩ :: F)) {P : AV → Heap → Prop} (hP : ∀ H', Own H' (⟨.ptr i0 w0 0 0, 3, [.agg [.fz (r.2.Code.map (AV.int .u8)), .int .i64 r.2.At, .int .u64 r.2.Seed]]⟩ :: F) → P (.int .i64 r.1) H') : ACall C 252 [.ptr i0 w0 0 0] H P := by
  refine acall_of gC (res := [.tmp 2]) (n := 62) rfl rfl rfl rfl fun K0 hK0 => ?_
  simp only [W, Nat.reduceSub, Nat.reduceAdd, List.replicate]
  unfold spec_l1Cur_next at h
  refine w_seq fun K1 hK1 => ?_
  refine w_reg gC ?_
  try simp only [W, Nat.reduceAdd]
  refine seq_n hK1 ?_
  refine w_seq fun K2 hK2 => ?_
  refine w_reg gC ?_
  try simp only [W, Nat.reduceAdd]
  refine seq_n hK2 ?_
  refine w_seq fun K3 hK3 => ?_
  refine w_seq fun K4 hK4 => ?_
  refine w_draw0 gC (by kernel_rfl) ?_
  try simp only [W, EE, Nat.reduceAdd, Nat.reduceBEq, hS.var 0 rfl]
  refine seq_n hK4 ?_
  obtain ⟨y6, h, g7⟩ := Option.bind_eq_some_iff.1 h
  refine w_join gC (fun s H => ∃ x5 : Int, y6 = (x5) ∧ s = [.ptr i0 w0 0 0, u, u, .int .i64 x5, u, u, u, u, u, u, u, u, u, u, u, u, u, u, u, u, u, u, u, u, u, u, u, u, u, u, u, u, u, u, u, u, u, u, u, u, u, u, u, u, u, u, u, u, u, u, u, u, u, u, u, u, u, u, u, u, u, u] ∧ Own H (⟨.ptr i0 w0 0 0, 3, [.agg [.fz (a0.Code.map (AV.int .u8)), .int .i64 a0.At, .int .u64 a0.Seed]]⟩ :: F)) (fun K8 hK8 => ?_) (fun s H hq => ?_)
  · refine w_seq fun K9 hK9 => ?_
    refine w_if ?_
    simp only [W]
    refine w_cnd h (fun hc h => ?_) (fun hc h => ?_)
    · refine w_draw0 gC (by kernel_rfl) ?_
      try simp only [W, EE, Nat.reduceAdd, Nat.reduceBEq, hS.var 0 rfl]
      refine w_fz rfl rfl rfl (fun _ => rfl) h fun b10 hb10 h => ?_
      try simp only [W, EE]
      refine seq_n hK9 ?_
      refine w_kill ?_
      exact cut_n hK8 ⟨_, (Option.some.inj h).symm, rfl, hS⟩
    · refine w_skip ?_
      refine seq_n hK9 ?_
      refine w_kill ?_
      exact cut_n hK8 ⟨_, (Option.some.inj h).symm, rfl, hS⟩
  · obtain ⟨x5, ey, rfl, hS⟩ := hq; obtain rfl := ey.symm
    replace h := g7
    try dsimp only at h
    refine seq_n hK3 ?_
    refine w_seq fun K11 hK11 => ?_
    refine w_reg gC ?_
    try simp only [W, EE, Nat.reduceAdd, Nat.reduceBEq, hS.var 0 rfl]
    refine w_stv (a := .int .i64 (IntKind.i64.wrap (a0.At + 1))) (y' := .agg [.fz (a0.Code.map (AV.int .u8)), .int .i64 (IntKind.i64.wrap (a0.At + 1)), .int .u64 a0.Seed]) 0 hS rfl rfl rfl rfl rfl rfl rfl rfl fun H hS => ?_
    try simp only [W]
    refine seq_n hK11 ?_
    refine w_seq fun K12 hK12 => ?_
    refine w_reg gC ?_
    try simp only [W, EE, Nat.reduceAdd, Nat.reduceBEq, hS.var 0 rfl]
    refine w_stv (a := .int .u64 (IntKind.u64.wrap ((IntKind.u64.wrap ((IntKind.u64.wrap (a0.Seed * 6364136223846793005)) + (IntKind.u64.wrap x5))) + 1442695040888963407))) (y' := .agg [.fz (a0.Code.map (AV.int .u8)), .int .i64 (IntKind.i64.wrap (a0.At + 1)), .int .u64 (IntKind.u64.wrap ((IntKind.u64.wrap ((IntKind.u64.wrap (a0.Seed * 6364136223846793005)) + (IntKind.u64.wrap x5))) + 1442695040888963407))]) 0 hS rfl rfl rfl rfl rfl rfl rfl rfl fun H hS => ?_
    try simp only [W]
    refine seq_n hK12 ?_
    refine w_seq fun K13 hK13 => ?_
    refine w_seq fun K14 hK14 => ?_
    refine w_draw0 gC (by kernel_rfl) ?_
    try simp only [W, EE, Nat.reduceAdd, Nat.reduceBEq, hS.var 0 rfl]
    refine seq_n hK14 ?_
    refine w_if ?_
    simp only [W]
    refine w_cnd h (fun hc h => ?_) (fun hc h => ?_)
    · refine w_seq fun K15 hK15 => ?_
      refine w_reg gC ?_
      try simp only [W, Nat.reduceAdd]
      refine seq_n hK15 ?_
      refine w_ret ?_
      refine seq_r hK13 ?_
      refine fin_r1 hK0 rfl ?_
      try obtain rfl := Option.some.inj h
      exact hP _ hS
    · refine w_skip ?_
      refine seq_n hK13 ?_
      refine w_seq fun K16 hK16 => ?_
      refine w_reg gC ?_
      try simp only [W, EE, Nat.reduceAdd, Nat.reduceBEq, hS.var 0 rfl]
      rw [sr_lit _ _ _ rfl, Option.map_some, resV_s]
      try simp only [W, EE]
      refine seq_n hK16 ?_
      refine w_ret ?_
      refine fin_r1 hK0 rfl ?_
      try obtain rfl := Option.some.inj h
      exact hP _ hS
theorem spec_l1Cur_pick_w {a0 : L1Cur} {a1 : Int} {i0 : Nat} {w0 : Nat} {r : (Int × L1Cur)} (h : spec_l1Cur_pick a0 a1 = some r) {F : List It} {H : Heap} (hS : Own H (⟨.ptr i0 w0 0 0, 3, [.agg [.fz (a0.Code.map (AV.int .u8)), .int .i64 a0.At, .int .u64 a0.Seed]]⟩ :: F)) {P : AV → Heap → Prop} (hP : ∀ H', Own H' (⟨.ptr i0 w0 0 0, 3, [.agg [.fz (r.2.Code.map (AV.int .u8)), .int .i64 r.2.At, .int .u64 r.2.Seed]]⟩ :: F) → P (.int .i64 r.1) H') : ACall C 141 [.ptr i0 w0 0 0, .int .i64 a1] H P := by
  refine acall_of gC (res := [.tmp 4]) (n := 20) rfl rfl rfl rfl fun K0 hK0 => ?_
  simp only [W, Nat.reduceSub, Nat.reduceAdd, List.replicate]
  unfold spec_l1Cur_pick at h
  refine w_seq fun K1 hK1 => ?_
  refine w_reg gC ?_
  try simp only [W, Nat.reduceAdd]
  refine seq_n hK1 ?_
  refine w_seq fun K2 hK2 => ?_
  refine w_seq fun K3 hK3 => ?_
  refine w_reg gC ?_
  try simp only [W, EE, Nat.reduceAdd]
  refine seq_n hK3 ?_
  refine w_if ?_
  simp only [W]
  refine w_cnd h (fun hc h => ?_) (fun hc h => ?_)
  · refine w_seq fun K4 hK4 => ?_
    refine w_reg gC ?_
    try simp only [W, Nat.reduceAdd]
    refine seq_n hK4 ?_
    refine w_ret ?_
    refine seq_r hK2 ?_
    refine fin_r1 hK0 rfl ?_
    try obtain rfl := Option.some.inj h
    exact hP _ hS
  · refine w_skip ?_
    refine seq_n hK2 ?_
    refine w_seq fun K5 hK5 => ?_
    refine w_reg gC ?_
    try simp only [W, Nat.reduceAdd]
    refine w_call h fun b6 hb6 h => ?_
    obtain ⟨b7, b8⟩ := b6
    try dsimp only at h
    refine spec_l1Cur_next_w hb6 hS fun H hS => ?_
    try simp only [W]
    refine seq_n hK5 ?_
    refine w_seq fun K9 hK9 => ?_
    refine w_seq fun K10 hK10 => ?_
    refine w_reg gC ?_
    try simp only [W, EE, Nat.reduceAdd]
    refine seq_n hK10 ?_
    obtain ⟨y15, h, g16⟩ := Option.bind_eq_some_iff.1 h
    refine w_join gC (fun s H => ∃ x11 : Int, ∃ x12 : List Int, ∃ x13 : Int, ∃ x14 : Int, y15 = (x11, x12, x13, x14) ∧ s = [u, .int .i64 a1, u, u, u, .int .i64 x11, u, u, u, u, u, u, u, u, u, u, u, u, u, u] ∧ Own H (⟨.ptr i0 w0 0 0, 3, [.agg [.fz (x12.map (AV.int .u8)), .int .i64 x13, .int .u64 x14]]⟩ :: F)) (fun K17 hK17 => ?_) (fun s H hq => ?_)
    · refine w_seq fun K18 hK18 => ?_
      refine w_if ?_
      simp only [W]
      refine w_cnd h (fun hc h => ?_) (fun hc h => ?_)
      · refine w_reg gC ?_
        try simp only [W, EE, Nat.reduceAdd]
        refine w_call h fun b19 hb19 h => ?_
        obtain ⟨b20, b21⟩ := b19
        try dsimp only at h
        refine spec_l1Cur_next_w hb19 hS fun H hS => ?_
        try simp only [W, EE]
        refine seq_n hK18 ?_
        refine w_kill ?_
        exact cut_n hK17 ⟨_, _, _, _, (Option.some.inj h).symm, rfl, hS⟩
      · refine w_skip ?_
        refine seq_n hK18 ?_
        refine w_kill ?_
        exact cut_n hK17 ⟨_, _, _, _, (Option.some.inj h).symm, rfl, hS⟩
    · obtain ⟨x11, x12, x13, x14, rfl, rfl, hS⟩ := hq
      replace h := g16
      try dsimp only at h
      refine seq_n hK9 ?_
      refine w_seq fun K22 hK22 => ?_
      refine w_reg gC ?_
      try simp only [W, EE, Nat.reduceAdd]
      refine w_num _ h fun x23 hx23 h => ?_
      try simp only [W]
      refine seq_n hK22 ?_
      refine w_ret ?_
      refine fin_r1 hK0 rfl ?_
      try obtain rfl := Option.some.inj h
      exact hP _ hS
theorem spec_l1Cur_one_w {a0 : L1Cur} {a1 : Int} {i0 : Nat} {w0 : Nat} {r : (Bool × L1Cur)} (h : spec_l1Cur_one a0 a1 = some r) {F : List It} {H : Heap} (hS : Own H (⟨.ptr i0 w0 0 0, 3, [.agg [.fz (a0.Code.map (AV.int .u8)), .int .i64 a0.At, .int .u64 a0.Seed]]⟩ :: F)) {P : AV → Heap → Prop} (hP : ∀ H', Own H' (⟨.ptr i0 w0 0 0, 3, [.agg [.fz (r.2.Code.map (AV.int .u8)), .int .i64 r.2.At, .int .u64 r.2.Seed]]⟩ :: F) → P (.bool r.1) H') : ACall C 142 [.ptr i0 w0 0 0, .int .i64 a1] H P := by
  refine acall_of gC (res := [.tmp 4]) (n := 9) rfl rfl rfl rfl fun K0 hK0 => ?_
  simp only [W, Nat.reduceSub, Nat.reduceAdd, List.replicate]
  unfold spec_l1Cur_one at h
  refine w_seq fun K1 hK1 => ?_
  refine w_reg gC ?_
  try simp only [W, Nat.reduceAdd]
  refine seq_n hK1 ?_
  refine w_seq fun K2 hK2 => ?_
  refine w_reg gC ?_
  try simp only [W, Nat.reduceAdd]
  refine w_call h fun b3 hb3 h => ?_
  obtain ⟨b4, b5⟩ := b3
  try dsimp only at h
  refine spec_l1Cur_pick_w hb3 hS fun H hS => ?_
  try simp only [W, EE]
  refine seq_n hK2 ?_
  refine w_ret ?_
  refine fin_r1 hK0 rfl ?_
  try obtain rfl := Option.some.inj h
  exact hP _ hS
theorem spec_l1Cur_among_w {a0 : L1Cur} {a1 : List Int} {i0 : Nat} {w0 : Nat} {r : (Int × L1Cur)} (h : spec_l1Cur_among a0 a1 = some r) {F : List It} {H : Heap} (hS : Own H (⟨.ptr i0 w0 0 0, 3, [.agg [.fz (a0.Code.map (AV.int .u8)), .int .i64 a0.At, .int .u64 a0.Seed]]⟩ :: F)) {P : AV → Heap → Prop} (hP : ∀ H', Own H' (⟨.ptr i0 w0 0 0, 3, [.agg [.fz (r.2.Code.map (AV.int .u8)), .int .i64 r.2.At, .int .u64 r.2.Seed]]⟩ :: F) → P (.int .i64 r.1) H') : ACall C 143 [.ptr i0 w0 0 0, .fz (a1.map (AV.int .i64))] H P := by
  refine acall_of gC (res := [.tmp 4]) (n := 12) rfl rfl rfl rfl fun K0 hK0 => ?_
  simp only [W, Nat.reduceSub, Nat.reduceAdd, List.replicate]
  unfold spec_l1Cur_among at h
  refine w_seq fun K1 hK1 => ?_
  refine w_reg gC ?_
  try simp only [W, Nat.reduceAdd]
  refine seq_n hK1 ?_
  refine w_seq fun K2 hK2 => ?_
  refine w_reg gC ?_
  try simp only [W, EE, Nat.reduceAdd]
  refine w_call h fun b3 hb3 h => ?_
  obtain ⟨b4, b5⟩ := b3
  try dsimp only at h
  refine spec_l1Cur_pick_w hb3 hS fun H hS => ?_
  try simp only [W, EE]
  refine w_fz rfl rfl rfl (fun _ => rfl) h fun b6 hb6 h => ?_
  try simp only [W, EE]
  refine seq_n hK2 ?_
  refine w_ret ?_
  refine fin_r1 hK0 rfl ?_
  try obtain rfl := Option.some.inj h
  exact hP _ hS
theorem spec_l1Cur_work_w {a0 : L1Cur} {i0 : Nat} {w0 : Nat} {r : (Work × L1Cur)} (h : spec_l1Cur_work a0 = some r) {F : List It} {H : Heap} (hS : Own H (⟨.ptr i0 w0 0 0, 3, [.agg [.fz (a0.Code.map (AV.int .u8)), .int .i64 a0.At, .int .u64 a0.Seed]]⟩ :: F)) {P : AV → Heap → Prop} (hP : ∀ H', Own H' (⟨.ptr i0 w0 0 0, 3, [.agg [.fz (r.2.Code.map (AV.int .u8)), .int .i64 r.2.At, .int .u64 r.2.Seed]]⟩ :: F) → P (.agg [.int .i64 r.1.End, .int .i64 r.1.Rank, .int .i64 r.1.Id]) H') : ACall C 221 [.ptr i0 w0 0 0] H P := by
  refine acall_of gC (res := [.cell 2 118]) (n := 16) rfl rfl rfl rfl fun K0 hK0 => ?_
  simp only [W, Nat.reduceSub, Nat.reduceAdd, List.replicate]
  unfold spec_l1Cur_work at h
  refine w_seq fun K1 hK1 => ?_
  refine w_reg gC ?_
  try simp only [W, Nat.reduceAdd]
  refine w_alloc hS rfl rfl fun ip2 wp2 H hS => ?_
  try simp only [W]
  refine seq_n hK1 ?_
  refine w_seq fun K4 hK4 => ?_
  refine w_seq fun K5 hK5 => ?_
  refine w_reg gC ?_
  try simp only [W, Nat.reduceAdd]
  refine w_call h fun b6 hb6 h => ?_
  obtain ⟨b7, b8⟩ := b6
  try dsimp only at h
  refine spec_l1Cur_one_w hb6 (hS.sel 2 [1, 0] (by decide)) fun H hS => ?_
  try simp only [W]
  refine seq_n hK5 ?_
  refine w_if ?_
  simp only [W]
  refine w_cnd h (fun hc h => ?_) (fun hc h => ?_)
  · refine w_seq fun K9 hK9 => ?_
    refine w_regF (fz := [(2, [([6], [.sl [.sc]])])]) gC ?_
    try simp only [W, Nat.reduceAdd, Nat.reduceBEq]
    refine w_lit (el := ([-1, 1000000, 1000001] : List Int).map (AV.int .i64)) hS rfl rfl rfl rfl rfl rfl rfl fun v10 H qv10 hS => ?_
    try simp only [W, Nat.reduceAdd]
    refine FZ_own 0 hS rfl qv10 rfl (fun _ _ => by simp [takeE, takeT, plainA]) (fun _ => rfl) fun H hsame hS => ?_
    try simp only [W]
    refine w_call h fun b12 hb12 h => ?_
    obtain ⟨b13, b14⟩ := b12
    try dsimp only at h
    refine spec_l1Cur_among_w hb12 hS fun H hS => ?_
    try simp only [W, EE, Nat.reduceAdd, Nat.reduceBEq]
    refine w_bld rfl rfl rfl rfl rfl ?_
    try simp only [W, Nat.reduceAdd, Nat.reduceBEq]
    refine w_stv (a := .agg [.int .i64 b13, .int .i64 0, .int .i64 0]) (y' := .agg [.int .i64 b13, .int .i64 0, .int .i64 0]) 1 hS rfl rfl rfl rfl rfl rfl rfl rfl fun H hS => ?_
    try simp only [W, Nat.reduceAdd]
    refine seq_n hK9 ?_
    refine w_ret ?_
    refine seq_r hK4 ?_
    refine fin_r hK0 (res_c rfl rfl (hS.var 1 rfl) rfl rfl) ?_
    try obtain rfl := Option.some.inj h
    exact hP _ (hS.sel 2 [0] (by decide))
  · refine w_skip ?_
    refine seq_n hK4 ?_
    refine w_seq fun K15 hK15 => ?_
    refine w_reg gC ?_
    try simp only [W, Nat.reduceAdd]
    refine w_call h fun b16 hb16 h => ?_
    obtain ⟨b17, b18⟩ := b16
    try dsimp only at h
    refine spec_l1Cur_pick_w hb16 hS fun H hS => ?_
    try simp only [W]
    refine w_call h fun b19 hb19 h => ?_
    obtain ⟨b20, b21⟩ := b19
    try dsimp only at h
    refine spec_l1Cur_pick_w hb19 hS fun H hS => ?_
    try simp only [W]
    refine w_call h fun b22 hb22 h => ?_
    obtain ⟨b23, b24⟩ := b22
    try dsimp only at h
    refine spec_l1Cur_pick_w hb22 hS fun H hS => ?_
    try simp only [W, EE]
    refine w_bld rfl rfl rfl rfl rfl ?_
    try simp only [W]
    refine w_stv (a := .agg [.int .i64 b17, .int .i64 b20, .int .i64 b23]) (y' := .agg [.int .i64 b17, .int .i64 b20, .int .i64 b23]) 1 hS rfl rfl rfl rfl rfl rfl rfl rfl fun H hS => ?_
    try simp only [W]
    refine seq_n hK15 ?_
    refine w_ret ?_
    refine fin_r hK0 (res_c rfl rfl (hS.var 1 rfl) rfl rfl) ?_
    try obtain rfl := Option.some.inj h
    exact hP _ (hS.sel 2 [0] (by decide))
theorem spec_l1Cur_works_w {a0 : L1Cur} {i0 : Nat} {w0 : Nat} {r : (List Work × L1Cur)} (h : spec_l1Cur_works a0 = some r) {F : List It} {H : Heap} (hS : Own H (⟨.ptr i0 w0 0 0, 3, [.agg [.fz (a0.Code.map (AV.int .u8)), .int .i64 a0.At, .int .u64 a0.Seed]]⟩ :: F)) {P : AV → Heap → Prop} (hP : ∀ v59 : AV, isSl v59 → ∀ H', Own H' (⟨v59, 3, r.1.map e_Work⟩ :: ⟨.ptr i0 w0 0 0, 3, [.agg [.fz (r.2.Code.map (AV.int .u8)), .int .i64 r.2.At, .int .u64 r.2.Seed]]⟩ :: F) → P (v59) H') : ACall C 211 [.ptr i0 w0 0 0] H P := by
  refine acall_of gC (res := [.tmp 2]) (n := 22) rfl rfl rfl rfl fun K0 hK0 => ?_
  simp only [W, Nat.reduceSub, Nat.reduceAdd, List.replicate]
  unfold spec_l1Cur_works at h
  refine w_seq fun K1 hK1 => ?_
  refine w_reg gC ?_
  try simp only [W, Nat.reduceAdd]
  refine seq_n hK1 ?_
  refine w_seq fun K2 hK2 => ?_
  refine w_reg gC ?_
  try simp only [W, Nat.reduceAdd]
  refine seq_n hK2 ?_
  refine w_seq fun K3 hK3 => ?_
  refine w_reg gC ?_
  try simp only [W, Nat.reduceAdd]
  refine w_call h fun b4 hb4 h => ?_
  obtain ⟨b5, b6⟩ := b4
  try dsimp only at h
  refine spec_l1Cur_pick_w hb4 hS fun H hS => ?_
  try simp only [W]
  refine seq_n hK3 ?_
  refine w_seq fun K7 hK7 => ?_
  refine w_seq fun K8 hK8 => ?_
  refine w_reg gC ?_
  try simp only [W, Nat.reduceAdd]
  refine w_call h fun b9 hb9 h => ?_
  obtain ⟨b10, b11⟩ := b9
  try dsimp only at h
  refine spec_l1Cur_one_w hb9 hS fun H hS => ?_
  try simp only [W]
  refine seq_n hK8 ?_
  obtain ⟨y16, h, g17⟩ := Option.bind_eq_some_iff.1 h
  refine w_join gC (fun s H => ∃ x12 : Int, ∃ x13 : List Int, ∃ x14 : Int, ∃ x15 : Int, y16 = (x12, x13, x14, x15) ∧ s = [.ptr i0 w0 0 0, u, u, .nil, .int .i64 x12, u, u, u, u, u, u, u, u, u, u, u, u, u, u, u, u, u] ∧ Own H (⟨.ptr i0 w0 0 0, 3, [.agg [.fz (x13.map (AV.int .u8)), .int .i64 x14, .int .u64 x15]]⟩ :: F)) (fun K18 hK18 => ?_) (fun s H hq => ?_)
  · refine w_seq fun K19 hK19 => ?_
    refine w_if ?_
    simp only [W]
    refine w_cnd h (fun hc h => ?_) (fun hc h => ?_)
    · refine w_reg gC ?_
      try simp only [W, Nat.reduceAdd]
      refine w_call h fun b20 hb20 h => ?_
      obtain ⟨b21, b22⟩ := b20
      try dsimp only at h
      refine spec_l1Cur_pick_w hb20 hS fun H hS => ?_
      try simp only [W, EE]
      refine seq_n hK19 ?_
      refine w_kill ?_
      exact cut_n hK18 ⟨_, _, _, _, (Option.some.inj h).symm, rfl, hS⟩
    · refine w_skip ?_
      refine seq_n hK19 ?_
      refine w_kill ?_
      exact cut_n hK18 ⟨_, _, _, _, (Option.some.inj h).symm, rfl, hS⟩
  · obtain ⟨x12, x13, x14, x15, rfl, rfl, hS⟩ := hq
    replace h := g17
    try dsimp only at h
    refine seq_n hK7 ?_
    refine w_seq fun K23 hK23 => ?_
    obtain ⟨y36, hw37, g43⟩ := Option.bind_eq_some_iff.1 h
    refine w_join gC (fun s H => ∃ x31 : List Work, ∃ x33 : List Int, ∃ x34 : Int, ∃ x35 : Int, y36 = (x31, x33, x34, x35) ∧ ∃ v32 : AV, isSl v32 ∧ s = [u, u, u, v32, u, u, u, u, u, u, u, u, u, u, u, u, u, u, u, u, u, u] ∧ Own H (⟨v32, 3, x31.map e_Work⟩ :: ⟨.ptr i0 w0 0 0, 3, [.agg [.fz (x33.map (AV.int .u8)), .int .i64 x34, .int .u64 x35]]⟩ :: F)) (fun K38 hK38 => ?_) (fun s H hq => ?_)
    · refine w_blk fun K39 hK39 => ?_
      refine w_loop gC hw37 (fun x s H => match x with | (x24, x27, x28, x29, x30) => ∃ v25 : AV, isSl v25 ∧ s = [.ptr i0 w0 0 0, u, u, v25, .int .i64 x27, u, u, u, u, u, u, u, u, u, u, u, u, u, u, u, u, u] ∧ Own H (⟨v25, 3, x24.map e_Work⟩ :: ⟨.ptr i0 w0 0 0, 3, [.agg [.fz (x28.map (AV.int .u8)), .int .i64 x29, .int .u64 x30]]⟩ :: F)) ⟨_, isSl_nil, rfl, (hS.nil_ 3)⟩ (fun x y42 s H h hd41 hi K40 hK40 => ?_)
      obtain ⟨x24, x27, x28, x29, x30⟩ := x
      try dsimp only at hi
      obtain ⟨v25, qv25, rfl, hS⟩ := hi
      simp only [spec_l1Cur_works_l0] at h
      refine w_seq fun K44 hK44 => ?_
      refine w_seq fun K45 hK45 => ?_
      refine w_reg gC ?_
      try simp only [W, EE, Nat.reduceAdd]
      refine seq_n hK45 ?_
      refine w_if ?_
      simp only [W]
      refine w_cnd h (fun hc h => ?_) (fun hc h => ?_)
      · refine w_skip ?_
        refine seq_n hK44 ?_
        refine w_seq fun K46 hK46 => ?_
        refine w_blk fun K47 hK47 => ?_
        refine w_reg gC ?_
        try simp only [W, Nat.reduceAdd]
        refine w_call h fun b48 hb48 h => ?_
        obtain ⟨b49, b50⟩ := b48
        try dsimp only at h
        refine spec_l1Cur_work_w hb48 (hS.sel 2 [1, 0] (by decide)) fun H hS => ?_
        try simp only [W]
        refine w_lit (el := ([b49] : List Work).map e_Work) hS rfl rfl rfl rfl rfl rfl rfl fun v51 H qv51 hS => ?_
        try simp only [W, EE]
        refine w_appV (l := x24) (c := e_Work) 2 hS rfl qv25 rfl rfl rfl (hS.elems 0 rfl qv51) (fun _ => rfl) rfl h fun v54 H x53 qv54 hm h hS => ?_
        try simp only [W]
        refine blk_n0 hK47 ?_
        refine seq_n hK46 ?_
        refine w_reg gC ?_
        try simp only [W, EE, Nat.reduceAdd]
        exact lp_n hK40 h ⟨_, qv54, rfl, (hS.sel 3 [2, 1] (by decide))⟩
      · refine w_exit ?_
        refine seq_x hK44 ?_
        try obtain rfl := Option.some.inj h
        obtain rfl := hd41 _ rfl
        have h : (some (x24, x28, x29, x30) : Option ((List Work) × (List Int) × Int × Int)) = some (x24, x28, x29, x30) := rfl
        refine lp_x hK40 ?_
        refine blk_e hK39 ?_
        exact cut_n hK38 ⟨_, _, _, _, (Option.some.inj h).symm, _, qv25, rfl, hS⟩
    · obtain ⟨x31, x33, x34, x35, rfl, v32, qv32, rfl, hS⟩ := hq
      replace h := g43
      try dsimp only at h
      refine seq_n hK23 ?_
      refine w_seq fun K58 hK58 => ?_
      refine w_reg gC ?_
      try simp only [W, Nat.reduceAdd]
      refine seq_n hK58 ?_
      refine w_ret ?_
      refine fin_r1 hK0 rfl ?_
      try obtain rfl := Option.some.inj h
      exact hP _ qv32 _ hS
theorem spec_DrawMakeHeap_w {a0 : List Int} {r : (List Work)} (h : spec_DrawMakeHeap a0 = some r) {F : List It} {H : Heap} (hS : Own H (F)) {P : AV → Heap → Prop} (hP : ∀ v11 : AV, isSl v11 → ∀ H', Own H' (⟨v11, 3, r.map e_Work⟩ :: F) → P (v11) H') : ACall C 91 [.fz (a0.map (AV.int .u8))] H P := by
  refine acall_of gC (res := [.tmp 2]) (n := 9) rfl rfl rfl rfl fun K0 hK0 => ?_
  simp only [W, Nat.reduceSub, Nat.reduceAdd, List.replicate]
  unfold spec_DrawMakeHeap at h
  refine w_seq fun K1 hK1 => ?_
  refine w_reg gC ?_
  try simp only [W, Nat.reduceAdd]
  refine seq_n hK1 ?_
  refine w_seq fun K2 hK2 => ?_
  refine w_reg gC ?_
  try simp only [W, EE, Nat.reduceAdd]
  refine w_bld rfl rfl rfl rfl rfl ?_
  try simp only [W]
  refine w_box hS rfl rfl rfl rfl fun ip3 wp3 H hS => ?_
  try simp only [W]
  refine seq_n hK2 ?_
  refine w_seq fun K5 hK5 => ?_
  refine w_reg gC ?_
  try simp only [W, Nat.reduceAdd]
  refine w_call h fun b6 hb6 h => ?_
  obtain ⟨b7, b8⟩ := b6
  try dsimp only at h
  refine spec_l1Cur_works_w hb6 hS fun v9 qv9 H hS => ?_
  try simp only [W]
  refine seq_n hK5 ?_
  refine w_ret ?_
  refine fin_r1 hK0 rfl ?_
  try obtain rfl := Option.some.inj h
  exact hP _ qv9 _ (hS.sel 2 [0] (by decide))
theorem slices_IndexFunc_impl_Work_w {a0 : List Work} {g1 : Work → Option Bool} {f1 : FuncId} {c1 : List AV} {r : (Int)} (h : slices_IndexFunc_impl_Work a0 g1 = some r) {F : List It} {H : Heap} (hg1 : ∀ {x0 : Work} {r : Bool}, g1 x0 = some r → ∀ (L : List It) (n : Nat), L.drop n = F → ∀ (H : Heap), Own H L → ∀ (P : AV → Heap → Prop), (∀ H', Own H' L → P (.bool r) H') → ACall C f1 ([.agg [.int .i64 x0.End, .int .i64 x0.Rank, .int .i64 x0.Id]] ++ c1) H P) (hS : Own H (F)) {P : AV → Heap → Prop} (hP : ∀ H', Own H' (F) → P (.int .i64 r) H') : ACall C 274 [.fz (a0.map e_Work), .fn f1 c1] H P := by
  refine acall_of gC (res := [.tmp 4]) (n := 19) rfl rfl rfl rfl fun K0 hK0 => ?_
  simp only [W, Nat.reduceSub, Nat.reduceAdd, List.replicate]
  unfold slices_IndexFunc_impl_Work at h
  refine w_seq fun K1 hK1 => ?_
  refine w_reg gC ?_
  try simp only [W, Nat.reduceAdd]
  refine seq_n hK1 ?_
  refine w_seq fun K2 hK2 => ?_
  refine w_seq fun K3 hK3 => ?_
  refine w_reg gC ?_
  try simp only [W, EE, Nat.reduceAdd]
  refine seq_n hK3 ?_
  obtain ⟨y5, hw6, g12⟩ := Option.bind_eq_some_iff.1 h
  refine w_join gC (fun s H => y5 = LR.next () ∧ s = [u, u, u, u, u, u, u, u, u, u, u, u, u, u, u, u, u, u, u] ∧ Own H (F)) (fun K7 hK7 => ?_) (fun s H hq => ?_)
  · refine w_blk fun K8 hK8 => ?_
    refine w_loop gC hw6 (fun x s H => s = [.fz (a0.map e_Work), .fn f1 c1, u, u, u, u, u, .int .i64 (a0.length : Int), .int .i64 x, u, u, u, u, u, u, u, u, u, u] ∧ Own H (F)) ⟨rfl, hS⟩ (fun x4 y11 s H h hd10 hi K9 hK9 => ?_)
    skip
    try dsimp only at hi
    obtain ⟨rfl, hS⟩ := hi
    simp only [slices_IndexFunc_impl_Work_l0] at h
    refine w_seq fun K13 hK13 => ?_
    refine w_reg gC ?_
    try simp only [W, EE, Nat.reduceAdd]
    refine seq_n hK13 ?_
    refine w_seq fun K14 hK14 => ?_
    refine w_if ?_
    simp only [W]
    refine w_cnd h (fun hc h => ?_) (fun hc h => ?_)
    · refine w_skip ?_
      refine seq_n hK14 ?_
      refine w_seq fun K15 hK15 => ?_
      refine w_blk fun K16 hK16 => ?_
      refine w_seq fun K17 hK17 => ?_
      refine w_reg gC ?_
      try simp only [W, Nat.reduceAdd]
      refine seq_n hK17 ?_
      refine w_seq fun K18 hK18 => ?_
      refine w_reg gC ?_
      try simp only [W, EE, Nat.reduceAdd]
      refine w_fz rfl rfl rfl (fun _ => rfl) h fun b19 hb19 h => ?_
      try simp only [W, EE, EN, reduceIte, Nat.reduceAdd, Nat.reduceLeDiff]
      refine w_call h fun b20 hb20 h => ?_
      refine hg1 hb20 _ 0 rfl _ hS _ fun H hS => ?_
      try simp only [W]
      refine seq_n hK18 ?_
      refine w_if ?_
      simp only [W]
      refine w_cnd h (fun hc h => ?_) (fun hc h => ?_)
      · refine w_seq fun K21 hK21 => ?_
        refine w_reg gC ?_
        try simp only [W, Nat.reduceAdd]
        refine seq_n hK21 ?_
        refine w_ret ?_
        refine blk_r hK16 ?_
        refine seq_r hK15 ?_
        try obtain rfl := Option.some.inj h
        obtain rfl := hd10 _ rfl
        have h : (some (LR.done x4) : Option (LR Unit (Int))) = some (LR.done x4) := rfl
        refine lp_r hK9 ?_
        refine blk_r hK8 ?_
        try obtain rfl := Option.some.inj h
        obtain rfl := Option.some.inj g12
        have h : (some x4 : Option (Int)) = some x4 := rfl
        refine cut_r hK7 ?_
        refine seq_r hK2 ?_
        refine fin_r1 hK0 rfl ?_
        try obtain rfl := Option.some.inj h
        exact hP _ hS
      · refine w_skip ?_
        refine blk_n0 hK16 ?_
        refine seq_n hK15 ?_
        refine w_reg gC ?_
        try simp only [W, EE, Nat.reduceAdd]
        exact lp_n hK9 h ⟨rfl, hS⟩
    · refine w_exit ?_
      refine seq_x hK14 ?_
      try obtain rfl := Option.some.inj h
      obtain rfl := hd10 _ rfl
      have h : (some (LR.next ()) : Option (LR Unit (Int))) = some (LR.next ()) := rfl
      refine lp_x hK9 ?_
      refine blk_e hK8 ?_
      exact cut_n hK7 ⟨(Option.some.inj h).symm, rfl, hS⟩
  · obtain ⟨rfl, rfl, hS⟩ := hq
    replace h := g12
    try dsimp only at h
    refine seq_n hK2 ?_
    refine w_seq fun K28 hK28 => ?_
    refine w_reg gC ?_
    try simp only [W, Nat.reduceAdd]
    refine seq_n hK28 ?_
    refine w_ret ?_
    refine fin_r1 hK0 rfl ?_
    try obtain rfl := Option.some.inj h
    exact hP _ hS
theorem slices_ContainsFunc_impl_Work_w {a0 : List Work} {g1 : Work → Option Bool} {f1 : FuncId} {c1 : List AV} {r : (Bool)} (h : slices_ContainsFunc_impl_Work a0 g1 = some r) {F : List It} {H : Heap} (hg1 : ∀ {x0 : Work} {r : Bool}, g1 x0 = some r → ∀ (L : List It) (n : Nat), L.drop n = F → ∀ (H : Heap), Own H L → ∀ (P : AV → Heap → Prop), (∀ H', Own H' L → P (.bool r) H') → ACall C f1 ([.agg [.int .i64 x0.End, .int .i64 x0.Rank, .int .i64 x0.Id]] ++ c1) H P) (hS : Own H (F)) {P : AV → Heap → Prop} (hP : ∀ H', Own H' (F) → P (.bool r) H') : ACall C 261 [.fz (a0.map e_Work), .fn f1 c1] H P := by
  refine acall_of gC (res := [.tmp 4]) (n := 9) rfl rfl rfl rfl fun K0 hK0 => ?_
  simp only [W, Nat.reduceSub, Nat.reduceAdd, List.replicate]
  unfold slices_ContainsFunc_impl_Work at h
  refine w_seq fun K1 hK1 => ?_
  refine w_reg gC ?_
  try simp only [W, Nat.reduceAdd]
  refine seq_n hK1 ?_
  refine w_seq fun K2 hK2 => ?_
  refine w_reg gC ?_
  try simp only [W, Nat.reduceAdd]
  refine w_call h fun b3 hb3 h => ?_
  refine slices_IndexFunc_impl_Work_w hb3 hg1 hS fun H hS => ?_
  try simp only [W, EE]
  refine seq_n hK2 ?_
  refine w_ret ?_
  refine fin_r1 hK0 rfl ?_
  try obtain rfl := Option.some.inj h
  exact hP _ hS
theorem impl_in_w {a0 : Int} {a1 : Int} {a2 : Int} {r : (Bool)} (h : impl_in a0 a1 a2 = some r) {F : List It} {H : Heap} (hS : Own H (F)) {P : AV → Heap → Prop} (hP : ∀ H', Own H' (F) → P (.bool r) H') : ACall C 147 [.int .i64 a0, .int .i64 a1, .int .i64 a2] H P := by
  refine acall_of gC (res := [.tmp 6]) (n := 15) rfl rfl rfl rfl fun K0 hK0 => ?_
  simp only [W, Nat.reduceSub, Nat.reduceAdd, List.replicate]
  unfold impl_in at h
  refine w_seq fun K1 hK1 => ?_
  refine w_reg gC ?_
  try simp only [W, Nat.reduceAdd]
  refine seq_n hK1 ?_
  refine w_seq fun K2 hK2 => ?_
  refine w_reg gC ?_
  try simp only [W, EE, Nat.reduceAdd]
  refine w_grdT h (fun hc h => ?_) (fun hc h => ?_)
  · try simp only [W, EE, reduceIte, hc]
    refine seq_n hK2 ?_
    refine w_ret ?_
    refine fin_r1 hK0 rfl ?_
    try obtain rfl := Option.some.inj h
    exact hP _ hS
  · try simp only [W, hc]
    refine seq_n hK2 ?_
    refine w_ret ?_
    refine fin_r1 hK0 rfl ?_
    try obtain rfl := Option.some.inj h
    exact hP _ hS
theorem impl_isWork_w {a0 : Work} {r : (Bool)} (h : impl_isWork a0 = some r) {F : List It} {H : Heap} (hS : Own H (F)) {P : AV → Heap → Prop} (hP : ∀ H', Own H' (F) → P (.bool r) H') : ACall C 219 [.agg [.int .i64 a0.End, .int .i64 a0.Rank, .int .i64 a0.Id]] H P := by
  refine acall_of gC (res := [.tmp 2]) (n := 16) rfl rfl rfl rfl fun K0 hK0 => ?_
  simp only [W, Nat.reduceSub, Nat.reduceAdd, List.replicate]
  unfold impl_isWork at h
  refine w_seq fun K1 hK1 => ?_
  refine w_reg gC ?_
  try simp only [W, Nat.reduceAdd]
  refine w_box hS rfl rfl rfl rfl fun ip2 wp2 H hS => ?_
  try simp only [W]
  refine seq_n hK1 ?_
  refine w_seq fun K4 hK4 => ?_
  refine w_reg gC ?_
  try simp only [W, EE, Nat.reduceAdd, Nat.reduceBEq, hS.var 0 rfl]
  refine w_call h fun b5 hb5 h => ?_
  refine impl_in_w hb5 hS fun H hS => ?_
  try simp only [W]
  refine w_grdT h (fun hc h => ?_) (fun hc h => ?_)
  · try simp only [W, EE, Nat.reduceAdd, Nat.reduceBEq, hS.var 0 rfl, hc]
    refine w_call h fun b6 hb6 h => ?_
    refine impl_in_w hb6 hS fun H hS => ?_
    try simp only [W, reduceIte]
    refine w_grdT h (fun hc h => ?_) (fun hc h => ?_)
    · try simp only [W, EE, Nat.reduceAdd, Nat.reduceBEq, hS.var 0 rfl, hc]
      refine w_call h fun b7 hb7 h => ?_
      refine impl_in_w hb7 hS fun H hS => ?_
      try simp only [W, reduceIte]
      refine seq_n hK4 ?_
      refine w_ret ?_
      refine fin_r1 hK0 rfl ?_
      try obtain rfl := Option.some.inj h
      exact hP _ (hS.sel 1 [] (by decide))
    · try simp only [W, hc]
      refine seq_n hK4 ?_
      refine w_ret ?_
      refine fin_r1 hK0 rfl ?_
      try obtain rfl := Option.some.inj h
      exact hP _ (hS.sel 1 [] (by decide))
  · try simp only [W, hc]
    refine seq_n hK4 ?_
    refine w_ret ?_
    refine fin_r1 hK0 rfl ?_
    try obtain rfl := Option.some.inj h
    exact hP _ (hS.sel 1 [] (by decide))
theorem impl_areWork_1_w {a0 : Work} {r : (Bool)} (h : impl_areWork_1 a0 = some r) {F : List It} {H : Heap} (hS : Own H (F)) {P : AV → Heap → Prop} (hP : ∀ H', Own H' (F) → P (.bool r) H') : ACall C 262 [.agg [.int .i64 a0.End, .int .i64 a0.Rank, .int .i64 a0.Id]] H P := by
  refine acall_of gC (res := [.tmp 2]) (n := 6) rfl rfl rfl rfl fun K0 hK0 => ?_
  simp only [W, Nat.reduceSub, Nat.reduceAdd, List.replicate]
  unfold impl_areWork_1 at h
  refine w_seq fun K1 hK1 => ?_
  refine w_reg gC ?_
  try simp only [W, Nat.reduceAdd]
  refine w_box hS rfl rfl rfl rfl fun ip2 wp2 H hS => ?_
  try simp only [W]
  refine seq_n hK1 ?_
  refine w_seq fun K4 hK4 => ?_
  refine w_reg gC ?_
  try simp only [W, EE, reduceIte, Nat.reduceAdd, Nat.reduceLeDiff, hS.var 0 rfl]
  refine w_call h fun b5 hb5 h => ?_
  refine impl_isWork_w hb5 hS fun H hS => ?_
  try simp only [W]
  refine seq_n hK4 ?_
  refine w_ret ?_
  refine fin_r1 hK0 rfl ?_
  try obtain rfl := Option.some.inj h
  exact hP _ (hS.sel 1 [] (by decide))
theorem impl_areWork_w {a0 : List Work} {r : (Bool)} (h : impl_areWork a0 = some r) {F : List It} {H : Heap} (hS : Own H (F)) {P : AV → Heap → Prop} (hP : ∀ H', Own H' (F) → P (.bool r) H') : ACall C 212 [.fz (a0.map e_Work)] H P := by
  refine acall_of gC (res := [.tmp 2]) (n := 11) rfl rfl rfl rfl fun K0 hK0 => ?_
  simp only [W, Nat.reduceSub, Nat.reduceAdd, List.replicate]
  unfold impl_areWork at h
  refine w_seq fun K1 hK1 => ?_
  refine w_reg gC ?_
  try simp only [W, Nat.reduceAdd]
  refine seq_n hK1 ?_
  refine w_seq fun K2 hK2 => ?_
  refine w_reg gC ?_
  try simp only [W, EE, Nat.reduceAdd]
  refine w_grdT h (fun hc h => ?_) (fun hc h => ?_)
  · try simp only [W, hc]
    refine w_call h fun b3 hb3 h => ?_
    refine slices_ContainsFunc_impl_Work_w hb3 (fun h _ n hL _ hS _ hP => impl_areWork_1_w h hS hP) hS fun H hS => ?_
    try simp only [W, reduceIte]
    refine seq_n hK2 ?_
    refine w_ret ?_
    refine fin_r1 hK0 rfl ?_
    try obtain rfl := Option.some.inj h
    exact hP _ hS
  · try simp only [W, hc]
    refine seq_n hK2 ?_
    refine w_ret ?_
    refine fin_r1 hK0 rfl ?_
    try obtain rfl := Option.some.inj h
    exact hP _ hS
theorem slices_Clone_impl_Work_w {a0 : List Work} {r : List Work} (h : slices_Clone_impl_Work a0 = some r) {F : List It} {H : Heap} (hS : Own H F) {P : AV → Heap → Prop} (hP : ∀ v0 : AV, isSl v0 → ∀ H', Own H' (⟨v0, 3, r.map e_Work⟩ :: F) → P v0 H') : ACall C 235 [.fz (a0.map e_Work)] H P :=
  clone_w (ids := cids) rfl (sz := 3) (b := 24) (by simp [cids]) (fun _ => rfl) (by decide) h hS hP
theorem cmp_Or_int_w {a0 : List Int} {r : (Int)} (h : cmp_Or_int a0 = some r) {F : List It} {H : Heap} (hS : Own H (F)) {P : AV → Heap → Prop} (hP : ∀ H', Own H' (F) → P (.int .i64 r) H') : ACall C 263 [.fz (a0.map (AV.int .i64))] H P := by
  refine acall_of gC (res := [.tmp 2]) (n := 18) rfl rfl rfl rfl fun K0 hK0 => ?_
  simp only [W, Nat.reduceSub, Nat.reduceAdd, List.replicate]
  unfold cmp_Or_int at h
  refine w_seq fun K1 hK1 => ?_
  refine w_reg gC ?_
  try simp only [W, Nat.reduceAdd]
  refine seq_n hK1 ?_
  refine w_seq fun K2 hK2 => ?_
  refine w_reg gC ?_
  try simp only [W, Nat.reduceAdd]
  refine seq_n hK2 ?_
  refine w_seq fun K3 hK3 => ?_
  refine w_seq fun K4 hK4 => ?_
  refine w_reg gC ?_
  try simp only [W, EE, Nat.reduceAdd]
  refine seq_n hK4 ?_
  obtain ⟨y6, hw7, g13⟩ := Option.bind_eq_some_iff.1 h
  refine w_join gC (fun s H => y6 = LR.next () ∧ s = [u, u, u, .int .i64 0, u, u, u, u, u, u, u, u, u, u, u, u, u, u] ∧ Own H (F)) (fun K8 hK8 => ?_) (fun s H hq => ?_)
  · refine w_blk fun K9 hK9 => ?_
    refine w_loop gC hw7 (fun x s H => s = [u, u, u, .int .i64 0, u, u, .fz (a0.map (AV.int .i64)), .int .i64 (a0.length : Int), .int .i64 x, u, u, u, u, u, u, u, u, u] ∧ Own H (F)) ⟨rfl, hS⟩ (fun x5 y12 s H h hd11 hi K10 hK10 => ?_)
    skip
    try dsimp only at hi
    obtain ⟨rfl, hS⟩ := hi
    simp only [cmp_Or_int_l0] at h
    refine w_seq fun K14 hK14 => ?_
    refine w_reg gC ?_
    try simp only [W, EE, Nat.reduceAdd]
    refine seq_n hK14 ?_
    refine w_seq fun K15 hK15 => ?_
    refine w_if ?_
    simp only [W]
    refine w_cnd h (fun hc h => ?_) (fun hc h => ?_)
    · refine w_skip ?_
      refine seq_n hK15 ?_
      refine w_seq fun K16 hK16 => ?_
      refine w_blk fun K17 hK17 => ?_
      refine w_seq fun K18 hK18 => ?_
      refine w_reg gC ?_
      try simp only [W, EE, Nat.reduceAdd]
      refine w_fz rfl rfl rfl (fun _ => rfl) h fun b19 hb19 h => ?_
      try simp only [W, EE]
      refine seq_n hK18 ?_
      refine w_seq fun K20 hK20 => ?_
      refine w_reg gC ?_
      try simp only [W, EE, Nat.reduceAdd]
      refine seq_n hK20 ?_
      refine w_if ?_
      simp only [W]
      refine w_cnd h (fun hc h => ?_) (fun hc h => ?_)
      · refine w_seq fun K21 hK21 => ?_
        refine w_reg gC ?_
        try simp only [W, Nat.reduceAdd]
        refine seq_n hK21 ?_
        refine w_ret ?_
        refine blk_r hK17 ?_
        refine seq_r hK16 ?_
        try obtain rfl := Option.some.inj h
        obtain rfl := hd11 _ rfl
        have h : (some (LR.done b19) : Option (LR Unit (Int))) = some (LR.done b19) := rfl
        refine lp_r hK10 ?_
        refine blk_r hK9 ?_
        try obtain rfl := Option.some.inj h
        obtain rfl := Option.some.inj g13
        have h : (some b19 : Option (Int)) = some b19 := rfl
        refine cut_r hK8 ?_
        refine seq_r hK3 ?_
        refine fin_r1 hK0 rfl ?_
        try obtain rfl := Option.some.inj h
        exact hP _ hS
      · refine w_skip ?_
        refine blk_n0 hK17 ?_
        refine seq_n hK16 ?_
        refine w_reg gC ?_
        try simp only [W, EE, Nat.reduceAdd]
        exact lp_n hK10 h ⟨rfl, hS⟩
    · refine w_exit ?_
      refine seq_x hK15 ?_
      try obtain rfl := Option.some.inj h
      obtain rfl := hd11 _ rfl
      have h : (some (LR.next ()) : Option (LR Unit (Int))) = some (LR.next ()) := rfl
      refine lp_x hK10 ?_
      refine blk_e hK9 ?_
      exact cut_n hK8 ⟨(Option.some.inj h).symm, rfl, hS⟩
  · obtain ⟨rfl, rfl, hS⟩ := hq
    replace h := g13
    try dsimp only at h
    refine seq_n hK3 ?_
    refine w_seq fun K28 hK28 => ?_
    refine w_reg gC ?_
    try simp only [W, Nat.reduceAdd]
    refine seq_n hK28 ?_
    refine w_ret ?_
    refine fin_r1 hK0 rfl ?_
    try obtain rfl := Option.some.inj h
    exact hP _ hS
theorem impl_compareWork_w {a0 : Work} {a1 : Work} {r : (Int)} (h : impl_compareWork a0 a1 = some r) {F : List It} {H : Heap} (hS : Own H (F)) {P : AV → Heap → Prop} (hP : ∀ H', Own H' (F) → P (.int .i64 r) H') : ACall C 220 [.agg [.int .i64 a0.End, .int .i64 a0.Rank, .int .i64 a0.Id], .agg [.int .i64 a1.End, .int .i64 a1.Rank, .int .i64 a1.Id]] H P := by
  refine acall_of gC (res := [.tmp 4]) (n := 22) rfl rfl rfl rfl fun K0 hK0 => ?_
  simp only [W, Nat.reduceSub, Nat.reduceAdd, List.replicate]
  unfold impl_compareWork at h
  refine w_seq fun K1 hK1 => ?_
  refine w_reg gC ?_
  try simp only [W, Nat.reduceAdd]
  refine w_box hS rfl rfl rfl rfl fun ip2 wp2 H hS => ?_
  try simp only [W]
  refine w_box hS rfl rfl rfl rfl fun ip4 wp4 H hS => ?_
  try simp only [W]
  refine seq_n hK1 ?_
  refine w_seq fun K6 hK6 => ?_
  refine w_reg gC ?_
  try simp only [W, EE, Nat.reduceAdd, Nat.reduceBEq, hS.var 1 rfl, hS.var 0 rfl]
  refine w_lit (el := ([(IntKind.i64.wrap (a0.End - a1.End)), (IntKind.i64.wrap (a0.Rank - a1.Rank)), (IntKind.i64.wrap (a0.Id - a1.Id))] : List Int).map (AV.int .i64)) hS rfl rfl rfl rfl rfl rfl rfl fun v7 H qv7 hS => ?_
  try simp only [W]
  refine w_callS (rsh := [[.sc]]) (ys := [.fz (([(IntKind.i64.wrap (a0.End - a1.End)), (IntKind.i64.wrap (a0.Rank - a1.Rank)), (IntKind.i64.wrap (a0.Id - a1.Id))] : List Int).map (AV.int .i64))]) h rfl (pv_c (sn_ow hS 0 rfl qv7 (fun _ => rfl)) pv_n) fun b9 hb9 h => ⟨.int .i64 b9, cmp_Or_int_w hb9 (Own.nil _) fun H hS => TV_ok rfl (TV_p rfl (TV_n rfl)), ⟨rfl, rfl, fun _ => rfl⟩, ?_⟩
  try simp only [W]
  refine seq_n hK6 ?_
  refine w_ret ?_
  refine fin_r1 hK0 rfl ?_
  try obtain rfl := Option.some.inj h
  exact hP _ (hS.sel 3 [] (by decide))
theorem impl_down_w {a0 : List Work} {a1 : Int} {m0 : AV} {r : (Int × List Work)} (h : impl_down a0 a1 = some r) {F : List It} {H : Heap} (hS : Own H (⟨m0, 3, a0.map e_Work⟩ :: F)) (qm0 : isSl m0) {P : AV → Heap → Prop} (hP : ∀ H', Own H' (⟨m0, 3, r.2.map e_Work⟩ :: F) → P (.int .i64 r.1) H') : ACall C 239 [m0, .int .i64 a1] H P := by
  refine acall_of gC (res := [.tmp 4]) (n := 64) rfl rfl rfl rfl fun K0 hK0 => ?_
  simp only [W, Nat.reduceSub, Nat.reduceAdd, List.replicate]
  unfold impl_down at h
  refine w_seq fun K1 hK1 => ?_
  refine w_reg gC ?_
  try simp only [W, Nat.reduceAdd]
  refine seq_n hK1 ?_
  refine w_seq fun K2 hK2 => ?_
  refine w_reg gC ?_
  try simp only [W, Nat.reduceAdd]
  refine seq_n hK2 ?_
  refine w_seq fun K3 hK3 => ?_
  obtain ⟨y9, hw10, g16⟩ := Option.bind_eq_some_iff.1 h
  refine w_join gC (fun s H => ∃ x7 : Int, ∃ x8 : List Work, y9 = (x7, x8) ∧ s = [u, u, u, u, u, .int .i64 x7, u, u, u, u, u, u, u, u, u, u, u, u, u, u, u, u, u, u, u, u, u, u, u, u, u, u, u, u, u, u, u, u, u, u, u, u, u, u, u, u, u, u, u, u, u, u, u, u, u, u, u, u, u, u, u, u, u, u] ∧ Own H (⟨m0, 3, x8.map e_Work⟩ :: F)) (fun K11 hK11 => ?_) (fun s H hq => ?_)
  · refine w_blk fun K12 hK12 => ?_
    refine w_loop gC hw10 (fun x s H => match x with | (x4, x5, x6) => s = [m0, .int .i64 x5, u, u, u, .int .i64 x6, u, u, u, u, u, u, u, u, u, u, u, u, u, u, u, u, u, u, u, u, u, u, u, u, u, u, u, u, u, u, u, u, u, u, u, u, u, u, u, u, u, u, u, u, u, u, u, u, u, u, u, u, u, u, u, u, u, u] ∧ Own H (⟨m0, 3, x4.map e_Work⟩ :: F)) ⟨rfl, hS⟩ (fun x y15 s H h hd14 hi K13 hK13 => ?_)
    obtain ⟨x4, x5, x6⟩ := x
    try dsimp only at hi
    obtain ⟨rfl, hS⟩ := hi
    simp only [impl_down_l0] at h
    refine w_seq fun K17 hK17 => ?_
    refine w_seq fun K18 hK18 => ?_
    refine w_reg gC ?_
    try simp only [W, EE, Nat.reduceAdd]
    refine w_len 0 hS rfl qm0 rfl ?_
    try simp only [W, EE]
    refine seq_n hK18 ?_
    refine w_if ?_
    simp only [W]
    refine w_cnd h (fun hc h => ?_) (fun hc h => ?_)
    · refine w_skip ?_
      refine seq_n hK17 ?_
      refine w_blk fun K19 hK19 => ?_
      refine w_seq fun K20 hK20 => ?_
      refine w_reg gC ?_
      try simp only [W, EE, Nat.reduceAdd]
      refine seq_n hK20 ?_
      refine w_seq fun K21 hK21 => ?_
      refine w_seq fun K22 hK22 => ?_
      obtain ⟨y24, h, g25⟩ := Option.bind_eq_some_iff.1 h
      refine w_join gC (fun s H => ∃ x23 : Bool, y24 = (x23) ∧ s = [m0, .int .i64 x5, u, u, u, .int .i64 x6, .int .i64 (IntKind.i64.wrap ((IntKind.i64.wrap (2 * x5)) + 1)), u, u, u, u, u, u, u, u, u, u, u, u, u, u, u, u, u, u, u, u, u, u, u, u, u, u, .bool x23, u, u, u, u, u, u, u, u, u, u, u, u, u, u, u, u, u, u, u, u, u, u, u, u, u, u, u, u, u, u] ∧ Own H (⟨m0, 3, x4.map e_Work⟩ :: F)) (fun K26 hK26 => ?_) (fun s H hq => ?_)
      · refine w_seq fun K27 hK27 => ?_
        refine w_draw0 gC (by kernel_rfl) ?_
        try simp only [W, EE, Nat.reduceAdd]
        refine w_len 0 hS rfl qm0 rfl ?_
        try simp only [W, EE]
        refine w_grdT h (fun hc h => ?_) (fun hc h => ?_)
        · try simp only [W, EE, hc]
          refine w_ow 0 hS rfl rfl rfl rfl rfl h (fun b28 in29 wn29 on29 hb28 h en29 => ?_) qm0.ne
          obtain ⟨kn29, hbn29, hen29⟩ := hS.elem 0 rfl en29 hb28
          try simp only [W, EE, EN, reduceIte, Nat.reduceAdd, Nat.reduceLeDiff, hbn29, hen29]
          refine w_ow 0 hS rfl rfl rfl rfl rfl h (fun b30 in31 wn31 on31 hb30 h en31 => ?_) qm0.ne
          obtain ⟨kn31, hbn31, hen31⟩ := hS.elem 0 rfl en31 hb30
          try simp only [W, EE, EN, reduceIte, Nat.reduceAdd, Nat.reduceLeDiff, hbn31, hen31]
          refine w_callS (rsh := [[.sc]]) (ys := [.agg [.int .i64 b28.End, .int .i64 b28.Rank, .int .i64 b28.Id], .agg [.int .i64 b30.End, .int .i64 b30.Rank, .int .i64 b30.Id]]) h rfl (by rfl) fun b32 hb32 h => ⟨.int .i64 b32, impl_compareWork_w hb32 (Own.nil _) fun H hS => TV_ok rfl (TV_p rfl (TV_n rfl)), ⟨rfl, rfl, fun _ => rfl⟩, ?_⟩
          try simp only [W, EE, reduceIte]
          refine seq_n hK27 ?_
          refine w_kill ?_
          exact cut_n hK26 ⟨_, (Option.some.inj h).symm, rfl, hS⟩
        · try simp only [W, hc]
          refine seq_n hK27 ?_
          refine w_kill ?_
          exact cut_n hK26 ⟨_, (Option.some.inj h).symm, rfl, hS⟩
      · obtain ⟨x23, ey, rfl, hS⟩ := hq; obtain rfl := ey.symm
        replace h := g25
        try dsimp only at h
        refine seq_n hK22 ?_
        obtain ⟨y34, h, g35⟩ := Option.bind_eq_some_iff.1 h
        refine w_join gC (fun s H => ∃ x33 : Int, y34 = (x33) ∧ s = [m0, .int .i64 x5, u, u, u, .int .i64 x6, .int .i64 x33, u, u, u, u, u, u, u, u, u, u, u, u, u, u, u, u, u, u, u, u, u, u, u, u, u, u, u, u, u, u, u, u, u, u, u, u, u, u, u, u, u, u, u, u, u, u, u, u, u, u, u, u, u, u, u, u, u] ∧ Own H (⟨m0, 3, x4.map e_Work⟩ :: F)) (fun K36 hK36 => ?_) (fun s H hq => ?_)
        · refine w_seq fun K37 hK37 => ?_
          refine w_if ?_
          simp only [W]
          refine w_cnd h (fun hc h => ?_) (fun hc h => ?_)
          · refine w_reg gC ?_
            try simp only [W, EE, Nat.reduceAdd]
            refine seq_n hK37 ?_
            refine w_kill ?_
            exact cut_n hK36 ⟨_, (Option.some.inj h).symm, rfl, hS⟩
          · refine w_skip ?_
            refine seq_n hK37 ?_
            refine w_kill ?_
            exact cut_n hK36 ⟨_, (Option.some.inj h).symm, rfl, hS⟩
        · obtain ⟨x33, ey, rfl, hS⟩ := hq; obtain rfl := ey.symm
          replace h := g35
          try dsimp only at h
          refine seq_n hK21 ?_
          refine w_seq fun K38 hK38 => ?_
          refine w_seq fun K39 hK39 => ?_
          refine w_draw0 gC (by kernel_rfl) ?_
          try simp only [W, EE, Nat.reduceAdd]
          refine w_ow 0 hS rfl rfl rfl rfl rfl h (fun b40 in41 wn41 on41 hb40 h en41 => ?_) qm0.ne
          obtain ⟨kn41, hbn41, hen41⟩ := hS.elem 0 rfl en41 hb40
          try simp only [W, EE, EN, reduceIte, Nat.reduceAdd, Nat.reduceLeDiff, hbn41, hen41]
          refine w_ow 0 hS rfl rfl rfl rfl rfl h (fun b42 in43 wn43 on43 hb42 h en43 => ?_) qm0.ne
          obtain ⟨kn43, hbn43, hen43⟩ := hS.elem 0 rfl en43 hb42
          try simp only [W, EE, EN, reduceIte, Nat.reduceAdd, Nat.reduceLeDiff, hbn43, hen43]
          refine w_callS (rsh := [[.sc]]) (ys := [.agg [.int .i64 b40.End, .int .i64 b40.Rank, .int .i64 b40.Id], .agg [.int .i64 b42.End, .int .i64 b42.Rank, .int .i64 b42.Id]]) h rfl (by rfl) fun b44 hb44 h => ⟨.int .i64 b44, impl_compareWork_w hb44 (Own.nil _) fun H hS => TV_ok rfl (TV_p rfl (TV_n rfl)), ⟨rfl, rfl, fun _ => rfl⟩, ?_⟩
          try simp only [W, EE]
          refine seq_n hK39 ?_
          refine w_if ?_
          simp only [W]
          refine w_cnd h (fun hc h => ?_) (fun hc h => ?_)
          · refine w_exit ?_
            refine seq_x hK38 ?_
            refine blk_x hK19 (by decide) ?_
            try obtain rfl := Option.some.inj h
            obtain rfl := hd14 _ rfl
            have h : (some (x6, x4) : Option (Int × (List Work))) = some (x6, x4) := rfl
            refine lp_x hK13 ?_
            refine blk_e hK12 ?_
            exact cut_n hK11 ⟨_, _, (Option.some.inj h).symm, rfl, hS⟩
          · refine w_skip ?_
            refine seq_n hK38 ?_
            refine w_seq fun K47 hK47 => ?_
            refine w_drawL gC [(13, [2, 3]), (15, [])] (by kernel_rfl) rfl (by kernel_rfl) ?_
            try simp only [W, EE, reduceIte, Nat.reduceAdd, tabAt, qAt, Nat.reduceEqDiff]
            refine w_ow 0 hS rfl rfl rfl rfl rfl h (fun b48 in49 wn49 on49 hb48 h en49 => ?_) qm0.ne
            obtain ⟨kn49, hbn49, hen49⟩ := hS.elem 0 rfl en49 hb48
            try simp only [W, EE, EN, reduceIte, Nat.reduceAdd, Nat.reduceLeDiff, hbn49, hen49]
            refine w_ow 0 hS rfl rfl rfl rfl rfl h (fun b50 in51 wn51 on51 hb50 h en51 => ?_) qm0.ne
            obtain ⟨kn51, hbn51, hen51⟩ := hS.elem 0 rfl en51 hb50
            try simp only [W, EE, EN, reduceIte, Nat.reduceAdd, Nat.reduceLeDiff, hbn51, hen51]
            refine w_ow 0 hS rfl rfl rfl rfl rfl h (fun b52 in53 wn53 on53 hb52 h en53 => ?_) qm0.ne
            obtain ⟨kn53, hbn53, hen53⟩ := hS.elem 0 rfl en53 hb52
            try simp only [W]
            refine w_ste (a := .agg [.int .i64 b48.End, .int .i64 b48.Rank, .int .i64 b48.Id]) (y' := b48) 0 hS rfl en53 hb52 rfl rfl rfl rfl rfl rfl rfl fun H hS => ?_
            refine goK_late ?_
            refine lateG_s (by first | rfl | (simp [evalOp, W, EE, EN, rdAt, mkT, subL, AV.cells]; done) | exact ev_ow 0 hS rfl rfl rfl rfl rfl en24 hb23 rfl rfl rfl rfl | exact ev_le 0 hS rfl rfl en24 hb23 rfl rfl rfl | exact ev_ow 0 hS rfl rfl rfl rfl rfl en26 hb25 rfl rfl rfl rfl | exact ev_le 0 hS rfl rfl en26 hb25 rfl rfl rfl | exact ev_ow 0 hS rfl rfl rfl rfl rfl en41 hb40 rfl rfl rfl rfl | exact ev_le 0 hS rfl rfl en41 hb40 rfl rfl rfl | exact ev_ow 0 hS rfl rfl rfl rfl rfl en43 hb42 rfl rfl rfl rfl | exact ev_le 0 hS rfl rfl en43 hb42 rfl rfl rfl | exact ev_ow 0 hS rfl rfl rfl rfl rfl en49 hb48 rfl rfl rfl rfl | exact ev_le 0 hS rfl rfl en49 hb48 rfl rfl rfl | exact ev_ow 0 hS rfl rfl rfl rfl rfl en51 hb50 rfl rfl rfl rfl | exact ev_le 0 hS rfl rfl en51 hb50 rfl rfl rfl | exact ev_ow 0 hS rfl rfl rfl rfl rfl en53 hb52 rfl rfl rfl rfl | exact ev_le 0 hS rfl rfl en53 hb52 rfl rfl rfl) ?_
            refine lateG_s (by first | rfl | (simp [evalOp, W, EE, EN, rdAt, mkT, subL, AV.cells]; done) | exact ev_ow 0 hS rfl rfl rfl rfl rfl en24 hb23 rfl rfl rfl rfl | exact ev_le 0 hS rfl rfl en24 hb23 rfl rfl rfl | exact ev_ow 0 hS rfl rfl rfl rfl rfl en26 hb25 rfl rfl rfl rfl | exact ev_le 0 hS rfl rfl en26 hb25 rfl rfl rfl | exact ev_ow 0 hS rfl rfl rfl rfl rfl en41 hb40 rfl rfl rfl rfl | exact ev_le 0 hS rfl rfl en41 hb40 rfl rfl rfl | exact ev_ow 0 hS rfl rfl rfl rfl rfl en43 hb42 rfl rfl rfl rfl | exact ev_le 0 hS rfl rfl en43 hb42 rfl rfl rfl | exact ev_ow 0 hS rfl rfl rfl rfl rfl en49 hb48 rfl rfl rfl rfl | exact ev_le 0 hS rfl rfl en49 hb48 rfl rfl rfl | exact ev_ow 0 hS rfl rfl rfl rfl rfl en51 hb50 rfl rfl rfl rfl | exact ev_le 0 hS rfl rfl en51 hb50 rfl rfl rfl | exact ev_ow 0 hS rfl rfl rfl rfl rfl en53 hb52 rfl rfl rfl rfl | exact ev_le 0 hS rfl rfl en53 hb52 rfl rfl rfl) ?_
            refine lateG_n ?_
            try simp only [W, EE]
            refine w_ow 0 hS rfl rfl rfl rfl rfl h (fun b54 in55 wn55 on55 hb54 h en55 => ?_) qm0.ne
            obtain ⟨kn55, hbn55, hen55⟩ := hS.elem 0 rfl en55 hb54
            try simp only [W]
            refine w_ste (a := .agg [.int .i64 b50.End, .int .i64 b50.Rank, .int .i64 b50.Id]) (y' := b50) 0 hS rfl en55 hb54 rfl rfl rfl rfl rfl rfl rfl fun H hS => ?_
            try simp only [W]
            refine seq_n hK47 ?_
            refine w_seq fun K56 hK56 => ?_
            refine w_reg gC ?_
            try simp only [W, Nat.reduceAdd]
            refine seq_n hK56 ?_
            refine w_reg gC ?_
            try simp only [W, EE, Nat.reduceAdd]
            refine blk_n0 hK19 ?_
            exact lp_n hK13 h ⟨rfl, hS⟩
    · refine w_exit ?_
      refine seq_x hK17 ?_
      try obtain rfl := Option.some.inj h
      obtain rfl := hd14 _ rfl
      have h : (some (x6, x4) : Option (Int × (List Work))) = some (x6, x4) := rfl
      refine lp_x hK13 ?_
      refine blk_e hK12 ?_
      exact cut_n hK11 ⟨_, _, (Option.some.inj h).symm, rfl, hS⟩
  · obtain ⟨x7, x8, rfl, rfl, hS⟩ := hq
    replace h := g16
    try dsimp only at h
    refine seq_n hK3 ?_
    refine w_seq fun K59 hK59 => ?_
    refine w_reg gC ?_
    try simp only [W, Nat.reduceAdd]
    refine seq_n hK59 ?_
    refine w_ret ?_
    refine fin_r1 hK0 rfl ?_
    try obtain rfl := Option.some.inj h
    exact hP _ hS
theorem impl_made_w {a0 : List Work} {r : (List Work × Int)} (h : impl_made a0 = some r) {F : List It} {H : Heap} (hS : Own H (F)) {P : AV → Heap → Prop} (hP : ∀ v31 : AV, isSl v31 → ∀ H', Own H' (⟨v31, 3, r.1.map e_Work⟩ :: F) → P (.tup [v31, .int .i64 r.2]) H') : ACall C 213 [.fz (a0.map e_Work)] H P := by
  refine acall_of gC (res := [.tmp 2, .tmp 3]) (n := 24) rfl rfl rfl rfl fun K0 hK0 => ?_
  simp only [W, Nat.reduceSub, Nat.reduceAdd, List.replicate]
  unfold impl_made at h
  refine w_seq fun K1 hK1 => ?_
  refine w_reg gC ?_
  try simp only [W, Nat.reduceAdd]
  refine seq_n hK1 ?_
  refine w_seq fun K2 hK2 => ?_
  refine w_reg gC ?_
  try simp only [W, Nat.reduceAdd]
  refine w_call h fun b3 hb3 h => ?_
  refine slices_Clone_impl_Work_w hb3 hS fun v4 qv4 H hS => ?_
  try simp only [W]
  refine seq_n hK2 ?_
  refine w_seq fun K6 hK6 => ?_
  refine w_seq fun K7 hK7 => ?_
  refine w_reg gC ?_
  try simp only [W, EE, Nat.reduceAdd]
  rw [dv_lit _ _ _ rfl, Option.map_some, resV_s]
  try simp only [W, EE]
  refine seq_n hK7 ?_
  obtain ⟨y13, hw14, g20⟩ := Option.bind_eq_some_iff.1 h
  refine w_join gC (fun s H => ∃ x11 : List Work, ∃ x12 : Int, y13 = (x11, x12) ∧ s = [u, u, u, u, v4, .int .i64 x12, u, u, u, u, u, u, u, u, u, u, u, u, u, u, u, u, u, u] ∧ Own H (⟨v4, 3, x11.map e_Work⟩ :: F)) (fun K15 hK15 => ?_) (fun s H hq => ?_)
  · refine w_blk fun K16 hK16 => ?_
    refine w_loop gC hw14 (fun x s H => match x with | (x8, x9, x10) => s = [u, u, u, u, v4, .int .i64 x9, .int .i64 x10, u, u, u, u, u, u, u, u, u, u, u, u, u, u, u, u, u] ∧ Own H (⟨v4, 3, x8.map e_Work⟩ :: F)) ⟨rfl, hS⟩ (fun x y19 s H h hd18 hi K17 hK17 => ?_)
    obtain ⟨x8, x9, x10⟩ := x
    try dsimp only at hi
    obtain ⟨rfl, hS⟩ := hi
    simp only [impl_made_l0] at h
    refine w_seq fun K21 hK21 => ?_
    refine w_seq fun K22 hK22 => ?_
    refine w_reg gC ?_
    try simp only [W, EE, Nat.reduceAdd]
    refine seq_n hK22 ?_
    refine w_if ?_
    simp only [W]
    refine w_cnd h (fun hc h => ?_) (fun hc h => ?_)
    · refine w_skip ?_
      refine seq_n hK21 ?_
      refine w_seq fun K23 hK23 => ?_
      refine w_blk fun K24 hK24 => ?_
      refine w_reg gC ?_
      try simp only [W, Nat.reduceAdd]
      refine w_call h fun b25 hb25 h => ?_
      obtain ⟨b26, b27⟩ := b25
      try dsimp only at h
      refine impl_down_w hb25 hS qv4 fun H hS => ?_
      try simp only [W, EE]
      refine blk_n0 hK24 ?_
      refine seq_n hK23 ?_
      refine w_reg gC ?_
      try simp only [W, EE, Nat.reduceAdd]
      exact lp_n hK17 h ⟨rfl, hS⟩
    · refine w_exit ?_
      refine seq_x hK21 ?_
      try obtain rfl := Option.some.inj h
      obtain rfl := hd18 _ rfl
      have h : (some (x8, x9) : Option ((List Work) × Int)) = some (x8, x9) := rfl
      refine lp_x hK17 ?_
      refine blk_e hK16 ?_
      exact cut_n hK15 ⟨_, _, (Option.some.inj h).symm, rfl, hS⟩
  · obtain ⟨x11, x12, rfl, rfl, hS⟩ := hq
    replace h := g20
    try dsimp only at h
    refine seq_n hK6 ?_
    refine w_seq fun K30 hK30 => ?_
    refine w_reg gC ?_
    try simp only [W, Nat.reduceAdd]
    refine seq_n hK30 ?_
    refine w_ret ?_
    refine fin_r2 hK0 rfl rfl ?_
    try obtain rfl := Option.some.inj h
    exact hP _ qv4 _ hS
theorem impl_MakeHeap_w {a0 : List Work} {r : (List Work × Bool)} (h : impl_MakeHeap a0 = some r) {F : List It} {H : Heap} (hS : Own H (F)) {P : AV → Heap → Prop} (hP : ∀ v13 : AV, isSl v13 → ∀ H', Own H' (⟨v13, 3, r.1.map e_Work⟩ :: F) → P (.tup [v13, .bool r.2]) H') : ACall C 92 [.fz (a0.map e_Work)] H P := by
  refine acall_of gC (res := [.tmp 2, .tmp 3]) (n := 15) rfl rfl rfl rfl fun K0 hK0 => ?_
  simp only [W, Nat.reduceSub, Nat.reduceAdd, List.replicate]
  unfold impl_MakeHeap at h
  refine w_seq fun K1 hK1 => ?_
  refine w_reg gC ?_
  try simp only [W, Nat.reduceAdd]
  refine seq_n hK1 ?_
  refine w_seq fun K2 hK2 => ?_
  refine w_seq fun K3 hK3 => ?_
  refine w_reg gC ?_
  try simp only [W, Nat.reduceAdd]
  refine w_call h fun b4 hb4 h => ?_
  refine impl_areWork_w hb4 hS fun H hS => ?_
  try simp only [W]
  refine seq_n hK3 ?_
  refine w_if ?_
  simp only [W]
  refine w_cnd h (fun hc h => ?_) (fun hc h => ?_)
  · refine w_seq fun K5 hK5 => ?_
    refine w_reg gC ?_
    try simp only [W, Nat.reduceAdd]
    refine seq_n hK5 ?_
    refine w_ret ?_
    refine seq_r hK2 ?_
    refine fin_r2 hK0 rfl rfl ?_
    try obtain rfl := Option.some.inj h
    exact hP _ isSl_nil _ (hS.nil_ 3)
  · refine w_skip ?_
    refine seq_n hK2 ?_
    refine w_seq fun K6 hK6 => ?_
    refine w_reg gC ?_
    try simp only [W, Nat.reduceAdd]
    refine w_call h fun b7 hb7 h => ?_
    obtain ⟨b8, b9⟩ := b7
    try dsimp only at h
    refine impl_made_w hb7 hS fun v10 qv10 H hS => ?_
    try simp only [W]
    refine seq_n hK6 ?_
    refine w_seq fun K12 hK12 => ?_
    refine w_reg gC ?_
    try simp only [W, Nat.reduceAdd]
    refine seq_n hK12 ?_
    refine w_ret ?_
    refine fin_r2 hK0 rfl rfl ?_
    try obtain rfl := Option.some.inj h
    exact hP _ qv10 _ hS
theorem spec_l1In_w {a0 : Int} {a1 : Int} {a2 : Int} {r : (Bool)} (h : spec_l1In a0 a1 a2 = some r) {F : List It} {H : Heap} (hS : Own H (F)) {P : AV → Heap → Prop} (hP : ∀ H', Own H' (F) → P (.bool r) H') : ACall C 153 [.int .i64 a0, .int .i64 a1, .int .i64 a2] H P := by
  refine acall_of gC (res := [.tmp 6]) (n := 15) rfl rfl rfl rfl fun K0 hK0 => ?_
  simp only [W, Nat.reduceSub, Nat.reduceAdd, List.replicate]
  unfold spec_l1In at h
  refine w_seq fun K1 hK1 => ?_
  refine w_reg gC ?_
  try simp only [W, Nat.reduceAdd]
  refine seq_n hK1 ?_
  refine w_seq fun K2 hK2 => ?_
  refine w_reg gC ?_
  try simp only [W, EE, Nat.reduceAdd]
  refine w_grdT h (fun hc h => ?_) (fun hc h => ?_)
  · try simp only [W, EE, reduceIte, hc]
    refine seq_n hK2 ?_
    refine w_ret ?_
    refine fin_r1 hK0 rfl ?_
    try obtain rfl := Option.some.inj h
    exact hP _ hS
  · try simp only [W, hc]
    refine seq_n hK2 ?_
    refine w_ret ?_
    refine fin_r1 hK0 rfl ?_
    try obtain rfl := Option.some.inj h
    exact hP _ hS
theorem spec_l3Work_w {a0 : Work} {r : (Bool)} (h : spec_l3Work a0 = some r) {F : List It} {H : Heap} (hS : Own H (F)) {P : AV → Heap → Prop} (hP : ∀ H', Own H' (F) → P (.bool r) H') : ACall C 222 [.agg [.int .i64 a0.End, .int .i64 a0.Rank, .int .i64 a0.Id]] H P := by
  refine acall_of gC (res := [.tmp 2]) (n := 16) rfl rfl rfl rfl fun K0 hK0 => ?_
  simp only [W, Nat.reduceSub, Nat.reduceAdd, List.replicate]
  unfold spec_l3Work at h
  refine w_seq fun K1 hK1 => ?_
  refine w_reg gC ?_
  try simp only [W, Nat.reduceAdd]
  refine w_box hS rfl rfl rfl rfl fun ip2 wp2 H hS => ?_
  try simp only [W]
  refine seq_n hK1 ?_
  refine w_seq fun K4 hK4 => ?_
  refine w_reg gC ?_
  try simp only [W, EE, Nat.reduceAdd, Nat.reduceBEq, hS.var 0 rfl]
  refine w_call h fun b5 hb5 h => ?_
  refine spec_l1In_w hb5 hS fun H hS => ?_
  try simp only [W]
  refine w_grdT h (fun hc h => ?_) (fun hc h => ?_)
  · try simp only [W, EE, Nat.reduceAdd, Nat.reduceBEq, hS.var 0 rfl, hc]
    refine w_call h fun b6 hb6 h => ?_
    refine spec_l1In_w hb6 hS fun H hS => ?_
    try simp only [W, reduceIte]
    refine w_grdT h (fun hc h => ?_) (fun hc h => ?_)
    · try simp only [W, EE, Nat.reduceAdd, Nat.reduceBEq, hS.var 0 rfl, hc]
      refine w_call h fun b7 hb7 h => ?_
      refine spec_l1In_w hb7 hS fun H hS => ?_
      try simp only [W, reduceIte]
      refine seq_n hK4 ?_
      refine w_ret ?_
      refine fin_r1 hK0 rfl ?_
      try obtain rfl := Option.some.inj h
      exact hP _ (hS.sel 1 [] (by decide))
    · try simp only [W, hc]
      refine seq_n hK4 ?_
      refine w_ret ?_
      refine fin_r1 hK0 rfl ?_
      try obtain rfl := Option.some.inj h
      exact hP _ (hS.sel 1 [] (by decide))
  · try simp only [W, hc]
    refine seq_n hK4 ?_
    refine w_ret ?_
    refine fin_r1 hK0 rfl ?_
    try obtain rfl := Option.some.inj h
    exact hP _ (hS.sel 1 [] (by decide))
theorem spec_l3Good_w {a0 : List Work} {r : (Bool)} (h : spec_l3Good a0 = some r) {F : List It} {H : Heap} (hS : Own H (F)) {P : AV → Heap → Prop} (hP : ∀ H', Own H' (F) → P (.bool r) H') : ACall C 214 [.fz (a0.map e_Work)] H P := by
  refine acall_of gC (res := [.tmp 2]) (n := 18) rfl rfl rfl rfl fun K0 hK0 => ?_
  simp only [W, Nat.reduceSub, Nat.reduceAdd, List.replicate]
  unfold spec_l3Good at h
  refine w_seq fun K1 hK1 => ?_
  refine w_reg gC ?_
  try simp only [W, Nat.reduceAdd]
  refine seq_n hK1 ?_
  refine w_seq fun K2 hK2 => ?_
  refine w_seq fun K3 hK3 => ?_
  refine w_reg gC ?_
  try simp only [W, EE, Nat.reduceAdd]
  refine seq_n hK3 ?_
  obtain ⟨y5, hw6, g12⟩ := Option.bind_eq_some_iff.1 h
  refine w_join gC (fun s H => y5 = LR.next () ∧ s = [.fz (a0.map e_Work), u, u, u, u, u, u, u, u, u, u, u, u, u, u, u, u, u] ∧ Own H (F)) (fun K7 hK7 => ?_) (fun s H hq => ?_)
  · refine w_blk fun K8 hK8 => ?_
    refine w_loop gC hw6 (fun x s H => s = [.fz (a0.map e_Work), u, u, u, u, .fz (a0.map e_Work), .int .i64 (a0.length : Int), .int .i64 x, u, u, u, u, u, u, u, u, u, u] ∧ Own H (F)) ⟨rfl, hS⟩ (fun x4 y11 s H h hd10 hi K9 hK9 => ?_)
    skip
    try dsimp only at hi
    obtain ⟨rfl, hS⟩ := hi
    simp only [spec_l3Good_l0] at h
    refine w_seq fun K13 hK13 => ?_
    refine w_reg gC ?_
    try simp only [W, EE, Nat.reduceAdd]
    refine seq_n hK13 ?_
    refine w_seq fun K14 hK14 => ?_
    refine w_if ?_
    simp only [W]
    refine w_cnd h (fun hc h => ?_) (fun hc h => ?_)
    · refine w_skip ?_
      refine seq_n hK14 ?_
      refine w_seq fun K15 hK15 => ?_
      refine w_blk fun K16 hK16 => ?_
      refine w_seq fun K17 hK17 => ?_
      refine w_reg gC ?_
      try simp only [W, EE, Nat.reduceAdd]
      refine w_fz rfl rfl rfl (fun _ => rfl) h fun b18 hb18 h => ?_
      try simp only [W, EE, EN, reduceIte, Nat.reduceAdd, Nat.reduceLeDiff]
      refine w_alloc hS rfl rfl fun ip19 wp19 H hS => ?_
      try simp only [W]
      refine w_stv (a := .agg [.int .i64 b18.End, .int .i64 b18.Rank, .int .i64 b18.Id]) (y' := .agg [.int .i64 b18.End, .int .i64 b18.Rank, .int .i64 b18.Id]) 0 hS rfl rfl rfl rfl rfl rfl rfl rfl fun H hS => ?_
      try simp only [W]
      refine seq_n hK17 ?_
      refine w_seq fun K21 hK21 => ?_
      refine w_reg gC ?_
      try simp only [W, EE, reduceIte, Nat.reduceAdd, Nat.reduceLeDiff, hS.var 0 rfl]
      refine w_call h fun b22 hb22 h => ?_
      refine spec_l3Work_w hb22 hS fun H hS => ?_
      try simp only [W]
      refine seq_n hK21 ?_
      refine w_if ?_
      simp only [W]
      refine w_cnd h (fun hc h => ?_) (fun hc h => ?_)
      · refine w_seq fun K23 hK23 => ?_
        refine w_reg gC ?_
        try simp only [W, Nat.reduceAdd]
        refine seq_n hK23 ?_
        refine w_ret ?_
        refine blk_r hK16 ?_
        refine seq_r hK15 ?_
        try obtain rfl := Option.some.inj h
        obtain rfl := hd10 _ rfl
        have h : (some (LR.done false) : Option (LR Unit (Bool))) = some (LR.done false) := rfl
        refine lp_r hK9 ?_
        refine blk_r hK8 ?_
        try obtain rfl := Option.some.inj h
        obtain rfl := Option.some.inj g12
        have h : (some false : Option (Bool)) = some false := rfl
        refine cut_r hK7 ?_
        refine seq_r hK2 ?_
        refine fin_r1 hK0 rfl ?_
        try obtain rfl := Option.some.inj h
        exact hP _ (hS.sel 1 [] (by decide))
      · refine w_skip ?_
        refine blk_n0 hK16 ?_
        refine seq_n hK15 ?_
        refine w_reg gC ?_
        try simp only [W, EE, Nat.reduceAdd]
        exact lp_n hK9 h ⟨rfl, (hS.sel 1 [] (by decide))⟩
    · refine w_exit ?_
      refine seq_x hK14 ?_
      try obtain rfl := Option.some.inj h
      obtain rfl := hd10 _ rfl
      have h : (some (LR.next ()) : Option (LR Unit (Bool))) = some (LR.next ()) := rfl
      refine lp_x hK9 ?_
      refine blk_e hK8 ?_
      exact cut_n hK7 ⟨(Option.some.inj h).symm, rfl, hS⟩
  · obtain ⟨rfl, rfl, hS⟩ := hq
    replace h := g12
    try dsimp only at h
    refine seq_n hK2 ?_
    refine w_seq fun K30 hK30 => ?_
    refine w_reg gC ?_
    try simp only [W, EE, Nat.reduceAdd]
    refine seq_n hK30 ?_
    refine w_ret ?_
    refine fin_r1 hK0 rfl ?_
    try obtain rfl := Option.some.inj h
    exact hP _ hS
theorem spec_l3Less_w {a0 : Work} {a1 : Work} {r : (Bool)} (h : spec_l3Less a0 a1 = some r) {F : List It} {H : Heap} (hS : Own H (F)) {P : AV → Heap → Prop} (hP : ∀ H', Own H' (F) → P (.bool r) H') : ACall C 223 [.agg [.int .i64 a0.End, .int .i64 a0.Rank, .int .i64 a0.Id], .agg [.int .i64 a1.End, .int .i64 a1.Rank, .int .i64 a1.Id]] H P := by
  refine acall_of gC (res := [.tmp 4]) (n := 32) rfl rfl rfl rfl fun K0 hK0 => ?_
  simp only [W, Nat.reduceSub, Nat.reduceAdd, List.replicate]
  unfold spec_l3Less at h
  refine w_seq fun K1 hK1 => ?_
  refine w_reg gC ?_
  try simp only [W, Nat.reduceAdd]
  refine w_box hS rfl rfl rfl rfl fun ip2 wp2 H hS => ?_
  try simp only [W]
  refine w_box hS rfl rfl rfl rfl fun ip4 wp4 H hS => ?_
  try simp only [W]
  refine seq_n hK1 ?_
  refine w_seq fun K6 hK6 => ?_
  refine w_blk fun K7 hK7 => ?_
  refine w_seq fun K8 hK8 => ?_
  refine w_reg gC ?_
  try simp only [W, EE, Nat.reduceAdd, Nat.reduceBEq, hS.var 1 rfl, hS.var 0 rfl]
  refine seq_n hK8 ?_
  refine w_if ?_
  simp only [W]
  refine w_cnd h (fun hc h => ?_) (fun hc h => ?_)
  · refine w_seq fun K9 hK9 => ?_
    refine w_reg gC ?_
    try simp only [W, EE, Nat.reduceAdd, Nat.reduceBEq, hS.var 1 rfl, hS.var 0 rfl]
    refine seq_n hK9 ?_
    refine w_ret ?_
    refine blk_r hK7 ?_
    refine seq_r hK6 ?_
    refine fin_r1 hK0 rfl ?_
    try obtain rfl := Option.some.inj h
    exact hP _ (hS.sel 2 [] (by decide))
  · refine w_seq fun K10 hK10 => ?_
    refine w_reg gC ?_
    try simp only [W, EE, Nat.reduceAdd, Nat.reduceBEq, hS.var 1 rfl, hS.var 0 rfl]
    refine seq_n hK10 ?_
    refine w_if ?_
    simp only [W]
    refine w_cnd h (fun hc h => ?_) (fun hc h => ?_)
    · refine w_seq fun K11 hK11 => ?_
      refine w_reg gC ?_
      try simp only [W, EE, Nat.reduceAdd, Nat.reduceBEq, hS.var 1 rfl, hS.var 0 rfl]
      refine seq_n hK11 ?_
      refine w_ret ?_
      refine blk_r hK7 ?_
      refine seq_r hK6 ?_
      refine fin_r1 hK0 rfl ?_
      try obtain rfl := Option.some.inj h
      exact hP _ (hS.sel 2 [] (by decide))
    · refine w_skip ?_
      refine blk_n0 hK7 ?_
      refine seq_n hK6 ?_
      refine w_seq fun K12 hK12 => ?_
      refine w_reg gC ?_
      try simp only [W, EE, Nat.reduceAdd, Nat.reduceBEq, hS.var 1 rfl, hS.var 0 rfl]
      refine seq_n hK12 ?_
      refine w_ret ?_
      refine fin_r1 hK0 rfl ?_
      try obtain rfl := Option.some.inj h
      exact hP _ (hS.sel 2 [] (by decide))
theorem spec_l3Down_w {a0 : List Work} {a1 : Int} {m0 : AV} {r : (Int × List Work)} (h : spec_l3Down a0 a1 = some r) {F : List It} {H : Heap} (hS : Own H (⟨m0, 3, a0.map e_Work⟩ :: F)) (qm0 : isSl m0) {P : AV → Heap → Prop} (hP : ∀ H', Own H' (⟨m0, 3, r.2.map e_Work⟩ :: F) → P (.int .i64 r.1) H') : ACall C 241 [m0, .int .i64 a1] H P := by
  refine acall_of gC (res := [.tmp 4]) (n := 62) rfl rfl rfl rfl fun K0 hK0 => ?_
  simp only [W, Nat.reduceSub, Nat.reduceAdd, List.replicate]
  unfold spec_l3Down at h
  refine w_seq fun K1 hK1 => ?_
  refine w_reg gC ?_
  try simp only [W, Nat.reduceAdd]
  refine seq_n hK1 ?_
  refine w_seq fun K2 hK2 => ?_
  refine w_reg gC ?_
  try simp only [W, Nat.reduceAdd]
  refine seq_n hK2 ?_
  obtain ⟨y6, hw7, g13⟩ := Option.bind_eq_some_iff.1 h
  refine w_join gC (fun s H => False) (fun K8 hK8 => ?_) (fun s H hq => hq.elim)
  · refine w_blk fun K9 hK9 => ?_
    refine w_loop gC hw7 (fun x s H => match x with | (x3, x4, x5) => s = [m0, .int .i64 x4, u, u, u, .int .i64 x5, u, u, u, u, u, u, u, u, u, u, u, u, u, u, u, u, u, u, u, u, u, u, u, u, u, u, u, u, u, u, u, u, u, u, u, u, u, u, u, u, u, u, u, u, u, u, u, u, u, u, u, u, u, u, u, u] ∧ Own H (⟨m0, 3, x3.map e_Work⟩ :: F)) ⟨rfl, hS⟩ (fun x y12 s H h hd11 hi K10 hK10 => ?_)
    obtain ⟨x3, x4, x5⟩ := x
    try dsimp only at hi
    obtain ⟨rfl, hS⟩ := hi
    simp only [spec_l3Down_l1] at h
    refine w_blk fun K14 hK14 => ?_
    refine w_seq fun K15 hK15 => ?_
    refine w_reg gC ?_
    try simp only [W, Nat.reduceAdd]
    refine seq_n hK15 ?_
    refine w_seq fun K16 hK16 => ?_
    refine w_seq fun K17 hK17 => ?_
    refine w_reg gC ?_
    try simp only [W, EE, Nat.reduceAdd]
    refine w_lit (el := ([(IntKind.i64.wrap ((IntKind.i64.wrap (2 * x4)) + 1)), (IntKind.i64.wrap ((IntKind.i64.wrap (2 * x4)) + 2))] : List Int).map (AV.int .i64)) hS rfl rfl rfl rfl rfl rfl rfl fun v18 H qv18 hS => ?_
    try simp only [W, EE]
    refine w_len 0 hS rfl qv18 rfl ?_
    try simp only [W, Nat.reduceAdd]
    refine seq_n hK17 ?_
    obtain ⟨y23, hw24, g30⟩ := Option.bind_eq_some_iff.1 h
    refine w_join gC (fun s H => ∃ x22 : Int, y23 = (x22) ∧ s = [m0, .int .i64 x4, u, u, u, .int .i64 x5, .int .i64 x22, u, u, u, u, u, u, u, u, u, u, u, u, u, u, u, u, u, u, u, u, u, u, u, u, u, u, u, u, u, u, u, u, u, u, u, u, u, u, u, u, u, u, u, u, u, u, u, u, u, u, u, u, u, u, u] ∧ Own H (⟨m0, 3, x3.map e_Work⟩ :: F)) (fun K25 hK25 => ?_) (fun s H hq => ?_)
    · refine w_blk fun K26 hK26 => ?_
      refine w_loop gC hw24 (fun x s H => match x with | (x20, x21) => s = [m0, .int .i64 x4, u, u, u, .int .i64 x5, .int .i64 x20, u, u, u, u, u, u, u, u, u, u, v18, .int .i64 (([(IntKind.i64.wrap ((IntKind.i64.wrap (2 * x4)) + 1)), (IntKind.i64.wrap ((IntKind.i64.wrap (2 * x4)) + 2))] : List Int).length : Int), .int .i64 x21, u, u, u, u, u, u, u, u, u, u, u, u, u, u, u, u, u, u, u, u, u, u, u, u, u, u, u, u, u, u, u, u, u, u, u, u, u, u, u, u, u, u] ∧ Own H (⟨m0, 3, x3.map e_Work⟩ :: ⟨v18, 1, ([(IntKind.i64.wrap ((IntKind.i64.wrap (2 * x4)) + 1)), (IntKind.i64.wrap ((IntKind.i64.wrap (2 * x4)) + 2))] : List Int).map (AV.int .i64)⟩ :: F)) ⟨rfl, (hS.sel 2 [1, 0] (by decide))⟩ (fun x y29 s H h hd28 hi K27 hK27 => ?_)
      obtain ⟨x20, x21⟩ := x
      try dsimp only at hi
      obtain ⟨rfl, hS⟩ := hi
      simp only [spec_l3Down_l0] at h
      refine w_seq fun K31 hK31 => ?_
      refine w_reg gC ?_
      try simp only [W, EE, Nat.reduceAdd]
      refine seq_n hK31 ?_
      refine w_seq fun K32 hK32 => ?_
      refine w_if ?_
      simp only [W]
      refine w_cnd h (fun hc h => ?_) (fun hc h => ?_)
      · refine w_skip ?_
        refine seq_n hK32 ?_
        refine w_seq fun K33 hK33 => ?_
        obtain ⟨y36, h, g37⟩ := Option.bind_eq_some_iff.1 h
        refine w_join gC (fun s H => ∃ x35 : Int, y36 = (x35) ∧ s = [m0, .int .i64 x4, u, u, u, .int .i64 x5, .int .i64 x35, u, u, u, u, u, u, u, u, u, u, v18, .int .i64 (([(IntKind.i64.wrap ((IntKind.i64.wrap (2 * x4)) + 1)), (IntKind.i64.wrap ((IntKind.i64.wrap (2 * x4)) + 2))] : List Int).length : Int), .int .i64 x21, u, u, u, u, u, u, u, u, u, u, u, u, u, u, u, u, u, u, u, u, u, u, u, u, u, u, u, u, u, u, u, u, u, u, u, u, u, u, u, u, u, u] ∧ Own H (⟨m0, 3, x3.map e_Work⟩ :: ⟨v18, 1, ([(IntKind.i64.wrap ((IntKind.i64.wrap (2 * x4)) + 1)), (IntKind.i64.wrap ((IntKind.i64.wrap (2 * x4)) + 2))] : List Int).map (AV.int .i64)⟩ :: F)) (fun K38 hK38 => ?_) (fun s H hq => ?_)
        · refine w_blk fun K34 hK34 => ?_
          refine w_seq fun K39 hK39 => ?_
          refine w_reg gC ?_
          try simp only [W, EE, Nat.reduceAdd]
          refine w_ow 1 hS rfl rfl rfl rfl rfl h (fun b40 in41 wn41 on41 hb40 h en41 => ?_) qv18.ne
          obtain ⟨kn41, hbn41, hen41⟩ := hS.elem 1 rfl en41 hb40
          try simp only [W, EE, hbn41, hen41]
          refine seq_n hK39 ?_
          refine w_seq fun K42 hK42 => ?_
          obtain ⟨y44, h, g45⟩ := Option.bind_eq_some_iff.1 h
          refine w_join gC (fun s H => ∃ x43 : Bool, y44 = (x43) ∧ s = [m0, .int .i64 x4, u, u, u, .int .i64 x5, .int .i64 x20, u, .int .i64 b40, u, u, u, u, u, u, u, u, v18, .int .i64 (([(IntKind.i64.wrap ((IntKind.i64.wrap (2 * x4)) + 1)), (IntKind.i64.wrap ((IntKind.i64.wrap (2 * x4)) + 2))] : List Int).length : Int), .int .i64 x21, u, u, u, u, u, u, u, u, u, u, u, u, u, u, u, u, u, .bool x43, u, u, u, u, u, u, u, u, u, u, u, u, u, u, u, u, u, u, u, u, u, u, u, u] ∧ Own H (⟨m0, 3, x3.map e_Work⟩ :: ⟨v18, 1, ([(IntKind.i64.wrap ((IntKind.i64.wrap (2 * x4)) + 1)), (IntKind.i64.wrap ((IntKind.i64.wrap (2 * x4)) + 2))] : List Int).map (AV.int .i64)⟩ :: F)) (fun K46 hK46 => ?_) (fun s H hq => ?_)
          · refine w_seq fun K47 hK47 => ?_
            refine w_draw0 gC (by kernel_rfl) ?_
            try simp only [W, EE, Nat.reduceAdd]
            refine w_len 0 hS rfl qm0 rfl ?_
            try simp only [W, EE]
            refine w_grdT h (fun hc h => ?_) (fun hc h => ?_)
            · try simp only [W, EE, hc]
              refine w_ow 0 hS rfl rfl rfl rfl rfl h (fun b48 in49 wn49 on49 hb48 h en49 => ?_) qm0.ne
              obtain ⟨kn49, hbn49, hen49⟩ := hS.elem 0 rfl en49 hb48
              try simp only [W, EE, EN, reduceIte, Nat.reduceAdd, Nat.reduceLeDiff, hbn49, hen49]
              refine w_ow 0 hS rfl rfl rfl rfl rfl h (fun b50 in51 wn51 on51 hb50 h en51 => ?_) qm0.ne
              obtain ⟨kn51, hbn51, hen51⟩ := hS.elem 0 rfl en51 hb50
              try simp only [W, EE, EN, reduceIte, Nat.reduceAdd, Nat.reduceLeDiff, hbn51, hen51]
              refine w_callS (rsh := [[.sc]]) (ys := [.agg [.int .i64 b48.End, .int .i64 b48.Rank, .int .i64 b48.Id], .agg [.int .i64 b50.End, .int .i64 b50.Rank, .int .i64 b50.Id]]) h rfl (by rfl) fun b52 hb52 h => ⟨.bool b52, spec_l3Less_w hb52 (Own.nil _) fun H hS => TV_ok rfl (TV_p rfl (TV_n rfl)), ⟨rfl, rfl, fun _ => rfl⟩, ?_⟩
              try simp only [W, reduceIte]
              refine seq_n hK47 ?_
              refine w_kill ?_
              exact cut_n hK46 ⟨_, (Option.some.inj h).symm, rfl, hS⟩
            · try simp only [W, hc]
              refine seq_n hK47 ?_
              refine w_kill ?_
              exact cut_n hK46 ⟨_, (Option.some.inj h).symm, rfl, hS⟩
          · obtain ⟨x43, ey, rfl, hS⟩ := hq; obtain rfl := ey.symm
            replace h := g45
            try dsimp only at h
            refine seq_n hK42 ?_
            obtain ⟨y54, h, g55⟩ := Option.bind_eq_some_iff.1 h
            refine w_join gC (fun s H => ∃ x53 : Int, y54 = (x53) ∧ s = [m0, .int .i64 x4, u, u, u, .int .i64 x5, .int .i64 x53, u, u, u, u, u, u, u, u, u, u, v18, .int .i64 (([(IntKind.i64.wrap ((IntKind.i64.wrap (2 * x4)) + 1)), (IntKind.i64.wrap ((IntKind.i64.wrap (2 * x4)) + 2))] : List Int).length : Int), .int .i64 x21, u, u, u, u, u, u, u, u, u, u, u, u, u, u, u, u, u, u, u, u, u, u, u, u, u, u, u, u, u, u, u, u, u, u, u, u, u, u, u, u, u, u] ∧ Own H (⟨m0, 3, x3.map e_Work⟩ :: ⟨v18, 1, ([(IntKind.i64.wrap ((IntKind.i64.wrap (2 * x4)) + 1)), (IntKind.i64.wrap ((IntKind.i64.wrap (2 * x4)) + 2))] : List Int).map (AV.int .i64)⟩ :: F)) (fun K56 hK56 => ?_) (fun s H hq => ?_)
            · refine w_seq fun K57 hK57 => ?_
              refine w_if ?_
              simp only [W, Nat.reduceAdd]
              refine w_cnd h (fun hc h => ?_) (fun hc h => ?_)
              · refine w_reg gC ?_
                try simp only [W, Nat.reduceAdd]
                refine seq_n hK57 ?_
                refine w_kill ?_
                exact cut_n hK56 ⟨_, (Option.some.inj h).symm, rfl, hS⟩
              · refine w_skip ?_
                refine seq_n hK57 ?_
                refine w_kill ?_
                exact cut_n hK56 ⟨_, (Option.some.inj h).symm, rfl, hS⟩
            · obtain ⟨x53, ey, rfl, hS⟩ := hq; obtain rfl := ey.symm
              replace h := g55
              try dsimp only at h
              refine blk_n hK34 ?_
              exact cut_n hK38 ⟨_, (Option.some.inj h).symm, rfl, hS⟩
        · obtain ⟨x35, ey, rfl, hS⟩ := hq; obtain rfl := ey.symm
          replace h := g37
          try dsimp only at h
          refine seq_n hK33 ?_
          refine w_reg gC ?_
          try simp only [W, EE, Nat.reduceAdd]
          exact lp_n hK27 h ⟨rfl, hS⟩
      · refine w_exit ?_
        refine seq_x hK32 ?_
        try obtain rfl := Option.some.inj h
        obtain rfl := hd28 _ rfl
        have h : (some (x20) : Option (Int)) = some (x20) := rfl
        refine lp_x hK27 ?_
        refine blk_e hK26 ?_
        exact cut_n hK25 ⟨_, (Option.some.inj h).symm, rfl, (hS.sel 2 [0] (by decide))⟩
    · obtain ⟨x22, ey, rfl, hS⟩ := hq; obtain rfl := ey.symm
      replace h := g30
      try dsimp only at h
      refine seq_n hK16 ?_
      refine w_seq fun K60 hK60 => ?_
      refine w_seq fun K61 hK61 => ?_
      refine w_reg gC ?_
      try simp only [W, EE, Nat.reduceAdd]
      refine seq_n hK61 ?_
      refine w_if ?_
      simp only [W]
      refine w_cnd h (fun hc h => ?_) (fun hc h => ?_)
      · refine w_seq fun K62 hK62 => ?_
        refine w_reg gC ?_
        try simp only [W, Nat.reduceAdd]
        refine seq_n hK62 ?_
        refine w_ret ?_
        refine seq_r hK60 ?_
        refine blk_r hK14 ?_
        try obtain rfl := Option.some.inj h
        obtain rfl := hd11 _ rfl
        have h : (some (LR.done (x5, x3)) : Option (LR Unit (Int × List Work))) = some (LR.done (x5, x3)) := rfl
        refine lp_r hK10 ?_
        refine blk_r hK9 ?_
        try obtain rfl := Option.some.inj h
        obtain rfl := Option.some.inj g13
        have h : (some (x5, x3) : Option (Int × List Work)) = some (x5, x3) := rfl
        refine cut_r hK8 ?_
        refine fin_r1 hK0 rfl ?_
        try obtain rfl := Option.some.inj h
        exact hP _ hS
      · refine w_skip ?_
        refine seq_n hK60 ?_
        refine w_seq fun K67 hK67 => ?_
        refine w_reg gC ?_
        try simp only [W, EE, Nat.reduceAdd]
        refine w_ow 0 hS rfl rfl rfl rfl rfl h (fun b68 in69 wn69 on69 hb68 h en69 => ?_) qm0.ne
        obtain ⟨kn69, hbn69, hen69⟩ := hS.elem 0 rfl en69 hb68
        try simp only [W, EE, EN, reduceIte, Nat.reduceAdd, Nat.reduceLeDiff, hbn69, hen69]
        refine w_alloc hS rfl rfl fun ip70 wp70 H hS => ?_
        try simp only [W]
        refine w_stv (a := .agg [.int .i64 b68.End, .int .i64 b68.Rank, .int .i64 b68.Id]) (y' := .agg [.int .i64 b68.End, .int .i64 b68.Rank, .int .i64 b68.Id]) 0 hS rfl rfl rfl rfl rfl rfl rfl rfl fun H hS => ?_
        try simp only [W]
        refine seq_n hK67 ?_
        refine w_seq fun K72 hK72 => ?_
        refine w_reg gC ?_
        try simp only [W, EE, Nat.reduceAdd]
        refine w_ow 1 hS rfl rfl rfl rfl rfl h (fun b73 in74 wn74 on74 hb73 h en74 => ?_) qm0.ne
        obtain ⟨kn74, hbn74, hen74⟩ := hS.elem 1 rfl en74 hb73
        try simp only [W, EE, EN, reduceIte, Nat.reduceAdd, Nat.reduceLeDiff, hbn74, hen74]
        refine w_ow 1 hS rfl rfl rfl rfl rfl h (fun b75 in76 wn76 on76 hb75 h en76 => ?_) qm0.ne
        obtain ⟨kn76, hbn76, hen76⟩ := hS.elem 1 rfl en76 hb75
        try simp only [W]
        refine w_ste (a := .agg [.int .i64 b73.End, .int .i64 b73.Rank, .int .i64 b73.Id]) (y' := b73) 1 hS rfl en76 hb75 rfl rfl rfl rfl rfl rfl rfl fun H hS => ?_
        try simp only [W]
        refine seq_n hK72 ?_
        refine w_seq fun K77 hK77 => ?_
        refine w_reg gC ?_
        try simp only [W, EE, reduceIte, Nat.reduceAdd, Nat.reduceLeDiff, hS.var 0 rfl]
        refine w_ow 1 hS rfl rfl rfl rfl rfl h (fun b78 in79 wn79 on79 hb78 h en79 => ?_) qm0.ne
        obtain ⟨kn79, hbn79, hen79⟩ := hS.elem 1 rfl en79 hb78
        try simp only [W]
        refine w_ste (a := .agg [.int .i64 b68.End, .int .i64 b68.Rank, .int .i64 b68.Id]) (y' := b68) 1 hS rfl en79 hb78 rfl rfl rfl rfl rfl rfl rfl fun H hS => ?_
        try simp only [W]
        refine seq_n hK77 ?_
        refine w_seq fun K80 hK80 => ?_
        refine w_reg gC ?_
        try simp only [W, Nat.reduceAdd]
        refine seq_n hK80 ?_
        refine w_reg gC ?_
        try simp only [W, EE, Nat.reduceAdd]
        refine blk_n0 hK14 ?_
        exact lp_n hK10 h ⟨rfl, (hS.sel 2 [1] (by decide))⟩
theorem spec_l3Make_w {a0 : List Work} {r : (List Work × Int)} (h : spec_l3Make a0 = some r) {F : List It} {H : Heap} (hS : Own H (F)) {P : AV → Heap → Prop} (hP : ∀ v33 : AV, isSl v33 → ∀ H', Own H' (⟨v33, 3, r.1.map e_Work⟩ :: F) → P (.tup [v33, .int .i64 r.2]) H') : ACall C 215 [.fz (a0.map e_Work)] H P := by
  refine acall_of gC (res := [.tmp 2, .tmp 3]) (n := 25) rfl rfl rfl rfl fun K0 hK0 => ?_
  simp only [W, Nat.reduceSub, Nat.reduceAdd, List.replicate]
  unfold spec_l3Make at h
  refine w_seq fun K1 hK1 => ?_
  refine w_reg gC ?_
  try simp only [W, Nat.reduceAdd]
  refine seq_n hK1 ?_
  refine w_seq fun K2 hK2 => ?_
  refine w_reg gC ?_
  try simp only [W, Nat.reduceAdd]
  refine w_lit0 rfl rfl ?_
  try simp only [W, EE]
  have hS := hS.e0_ 3
  refine w_appV (l := ([] : List Work)) (c := e_Work) 0 hS rfl isSl_e0 rfl rfl rfl rfl (fun _ => rfl) rfl h fun v5 H x4 qv5 hm h hS => ?_
  try simp only [W]
  refine seq_n hK2 ?_
  refine w_seq fun K7 hK7 => ?_
  refine w_reg gC ?_
  try simp only [W, Nat.reduceAdd]
  refine seq_n hK7 ?_
  refine w_seq fun K8 hK8 => ?_
  refine w_seq fun K9 hK9 => ?_
  refine w_reg gC ?_
  try simp only [W, EE, Nat.reduceAdd]
  refine w_len 0 hS rfl qv5 rfl ?_
  try simp only [W, EE]
  rw [dv_lit _ _ _ rfl, Option.map_some, resV_s]
  try simp only [W, EE]
  refine seq_n hK9 ?_
  obtain ⟨y15, hw16, g22⟩ := Option.bind_eq_some_iff.1 h
  refine w_join gC (fun s H => ∃ x13 : List Work, ∃ x14 : Int, y15 = (x13, x14) ∧ s = [u, u, u, u, v5, .int .i64 x14, u, u, u, u, u, u, u, u, u, u, u, u, u, u, u, u, u, u, u] ∧ Own H (⟨v5, 3, x13.map e_Work⟩ :: F)) (fun K17 hK17 => ?_) (fun s H hq => ?_)
  · refine w_blk fun K18 hK18 => ?_
    refine w_loop gC hw16 (fun x s H => match x with | (x10, x11, x12) => s = [u, u, u, u, v5, .int .i64 x11, .int .i64 x12, u, u, u, u, u, u, u, u, u, u, u, u, u, u, u, u, u, u] ∧ Own H (⟨v5, 3, x10.map e_Work⟩ :: F)) ⟨rfl, hS⟩ (fun x y21 s H h hd20 hi K19 hK19 => ?_)
    obtain ⟨x10, x11, x12⟩ := x
    try dsimp only at hi
    obtain ⟨rfl, hS⟩ := hi
    simp only [spec_l3Make_l0] at h
    refine w_seq fun K23 hK23 => ?_
    refine w_seq fun K24 hK24 => ?_
    refine w_reg gC ?_
    try simp only [W, EE, Nat.reduceAdd]
    refine seq_n hK24 ?_
    refine w_if ?_
    simp only [W]
    refine w_cnd h (fun hc h => ?_) (fun hc h => ?_)
    · refine w_skip ?_
      refine seq_n hK23 ?_
      refine w_seq fun K25 hK25 => ?_
      refine w_blk fun K26 hK26 => ?_
      refine w_reg gC ?_
      try simp only [W, Nat.reduceAdd]
      refine w_call h fun b27 hb27 h => ?_
      obtain ⟨b28, b29⟩ := b27
      try dsimp only at h
      refine spec_l3Down_w hb27 hS qv5 fun H hS => ?_
      try simp only [W, EE]
      refine blk_n0 hK26 ?_
      refine seq_n hK25 ?_
      refine w_reg gC ?_
      try simp only [W, EE, Nat.reduceAdd]
      exact lp_n hK19 h ⟨rfl, hS⟩
    · refine w_exit ?_
      refine seq_x hK23 ?_
      try obtain rfl := Option.some.inj h
      obtain rfl := hd20 _ rfl
      have h : (some (x10, x11) : Option ((List Work) × Int)) = some (x10, x11) := rfl
      refine lp_x hK19 ?_
      refine blk_e hK18 ?_
      exact cut_n hK17 ⟨_, _, (Option.some.inj h).symm, rfl, hS⟩
  · obtain ⟨x13, x14, rfl, rfl, hS⟩ := hq
    replace h := g22
    try dsimp only at h
    refine seq_n hK8 ?_
    refine w_seq fun K32 hK32 => ?_
    refine w_reg gC ?_
    try simp only [W, Nat.reduceAdd]
    refine seq_n hK32 ?_
    refine w_ret ?_
    refine fin_r2 hK0 rfl rfl ?_
    try obtain rfl := Option.some.inj h
    exact hP _ qv5 _ hS
theorem spec_MakeHeap_w {a0 : List Work} {r : (List Work × Bool)} (h : spec_MakeHeap a0 = some r) {F : List It} {H : Heap} (hS : Own H (F)) {P : AV → Heap → Prop} (hP : ∀ v13 : AV, isSl v13 → ∀ H', Own H' (⟨v13, 3, r.1.map e_Work⟩ :: F) → P (.tup [v13, .bool r.2]) H') : ACall C 93 [.fz (a0.map e_Work)] H P := by
  refine acall_of gC (res := [.tmp 2, .tmp 3]) (n := 15) rfl rfl rfl rfl fun K0 hK0 => ?_
  simp only [W, Nat.reduceSub, Nat.reduceAdd, List.replicate]
  unfold spec_MakeHeap at h
  refine w_seq fun K1 hK1 => ?_
  refine w_reg gC ?_
  try simp only [W, Nat.reduceAdd]
  refine seq_n hK1 ?_
  refine w_seq fun K2 hK2 => ?_
  refine w_seq fun K3 hK3 => ?_
  refine w_reg gC ?_
  try simp only [W, Nat.reduceAdd]
  refine w_call h fun b4 hb4 h => ?_
  refine spec_l3Good_w hb4 hS fun H hS => ?_
  try simp only [W]
  refine seq_n hK3 ?_
  refine w_if ?_
  simp only [W]
  refine w_cnd h (fun hc h => ?_) (fun hc h => ?_)
  · refine w_seq fun K5 hK5 => ?_
    refine w_reg gC ?_
    try simp only [W, Nat.reduceAdd]
    refine seq_n hK5 ?_
    refine w_ret ?_
    refine seq_r hK2 ?_
    refine fin_r2 hK0 rfl rfl ?_
    try obtain rfl := Option.some.inj h
    exact hP _ isSl_nil _ (hS.nil_ 3)
  · refine w_skip ?_
    refine seq_n hK2 ?_
    refine w_seq fun K6 hK6 => ?_
    refine w_reg gC ?_
    try simp only [W, Nat.reduceAdd]
    refine w_call h fun b7 hb7 h => ?_
    obtain ⟨b8, b9⟩ := b7
    try dsimp only at h
    refine spec_l3Make_w hb7 hS fun v10 qv10 H hS => ?_
    try simp only [W]
    refine seq_n hK6 ?_
    refine w_seq fun K12 hK12 => ?_
    refine w_reg gC ?_
    try simp only [W, Nat.reduceAdd]
    refine seq_n hK12 ?_
    refine w_ret ?_
    refine fin_r2 hK0 rfl rfl ?_
    try obtain rfl := Option.some.inj h
    exact hP _ qv10 _ hS
theorem impl_StepsToMake_w {a0 : List Work} {r : (Int × Bool)} (h : impl_StepsToMake a0 = some r) {F : List It} {H : Heap} (hS : Own H (F)) {P : AV → Heap → Prop} (hP : ∀ H', Own H' (F) → P (.tup [.int .i64 r.1, .bool r.2]) H') : ACall C 94 [.fz (a0.map e_Work)] H P := by
  refine acall_of gC (res := [.tmp 2, .tmp 3]) (n := 15) rfl rfl rfl rfl fun K0 hK0 => ?_
  simp only [W, Nat.reduceSub, Nat.reduceAdd, List.replicate]
  unfold impl_StepsToMake at h
  refine w_seq fun K1 hK1 => ?_
  refine w_reg gC ?_
  try simp only [W, Nat.reduceAdd]
  refine seq_n hK1 ?_
  refine w_seq fun K2 hK2 => ?_
  refine w_seq fun K3 hK3 => ?_
  refine w_reg gC ?_
  try simp only [W, Nat.reduceAdd]
  refine w_call h fun b4 hb4 h => ?_
  refine impl_areWork_w hb4 hS fun H hS => ?_
  try simp only [W]
  refine seq_n hK3 ?_
  refine w_if ?_
  simp only [W]
  refine w_cnd h (fun hc h => ?_) (fun hc h => ?_)
  · refine w_seq fun K5 hK5 => ?_
    refine w_reg gC ?_
    try simp only [W, Nat.reduceAdd]
    refine seq_n hK5 ?_
    refine w_ret ?_
    refine seq_r hK2 ?_
    refine fin_r2 hK0 rfl rfl ?_
    try obtain rfl := Option.some.inj h
    exact hP _ hS
  · refine w_skip ?_
    refine seq_n hK2 ?_
    refine w_seq fun K6 hK6 => ?_
    refine w_reg gC ?_
    try simp only [W, Nat.reduceAdd]
    refine w_call h fun b7 hb7 h => ?_
    obtain ⟨b8, b9⟩ := b7
    try dsimp only at h
    refine impl_made_w hb7 hS fun v10 qv10 H hS => ?_
    try simp only [W]
    refine seq_n hK6 ?_
    refine w_seq fun K12 hK12 => ?_
    refine w_reg gC ?_
    try simp only [W, Nat.reduceAdd]
    refine seq_n hK12 ?_
    refine w_ret ?_
    refine fin_r2 hK0 rfl rfl ?_
    try obtain rfl := Option.some.inj h
    exact hP _ (hS.sel 1 [] (by decide))
theorem spec_StepsToMake_w {a0 : List Work} {r : (Int × Bool)} (h : spec_StepsToMake a0 = some r) {F : List It} {H : Heap} (hS : Own H (F)) {P : AV → Heap → Prop} (hP : ∀ H', Own H' (F) → P (.tup [.int .i64 r.1, .bool r.2]) H') : ACall C 95 [.fz (a0.map e_Work)] H P := by
  refine acall_of gC (res := [.tmp 2, .tmp 3]) (n := 15) rfl rfl rfl rfl fun K0 hK0 => ?_
  simp only [W, Nat.reduceSub, Nat.reduceAdd, List.replicate]
  unfold spec_StepsToMake at h
  refine w_seq fun K1 hK1 => ?_
  refine w_reg gC ?_
  try simp only [W, Nat.reduceAdd]
  refine seq_n hK1 ?_
  refine w_seq fun K2 hK2 => ?_
  refine w_seq fun K3 hK3 => ?_
  refine w_reg gC ?_
  try simp only [W, Nat.reduceAdd]
  refine w_call h fun b4 hb4 h => ?_
  refine spec_l3Good_w hb4 hS fun H hS => ?_
  try simp only [W]
  refine seq_n hK3 ?_
  refine w_if ?_
  simp only [W]
  refine w_cnd h (fun hc h => ?_) (fun hc h => ?_)
  · refine w_seq fun K5 hK5 => ?_
    refine w_reg gC ?_
    try simp only [W, Nat.reduceAdd]
    refine seq_n hK5 ?_
    refine w_ret ?_
    refine seq_r hK2 ?_
    refine fin_r2 hK0 rfl rfl ?_
    try obtain rfl := Option.some.inj h
    exact hP _ hS
  · refine w_skip ?_
    refine seq_n hK2 ?_
    refine w_seq fun K6 hK6 => ?_
    refine w_reg gC ?_
    try simp only [W, Nat.reduceAdd]
    refine w_call h fun b7 hb7 h => ?_
    obtain ⟨b8, b9⟩ := b7
    try dsimp only at h
    refine spec_l3Make_w hb7 hS fun v10 qv10 H hS => ?_
    try simp only [W]
    refine seq_n hK6 ?_
    refine w_seq fun K12 hK12 => ?_
    refine w_reg gC ?_
    try simp only [W, Nat.reduceAdd]
    refine seq_n hK12 ?_
    refine w_ret ?_
    refine fin_r2 hK0 rfl rfl ?_
    try obtain rfl := Option.some.inj h
    exact hP _ (hS.sel 1 [] (by decide))
theorem impl_pop_w {a0 : List Work} {m0 : AV} {r : (List Work × Work)} (h : impl_pop a0 = some r) {F : List It} {H : Heap} (hS : Own H (⟨m0, 3, a0.map e_Work⟩ :: F)) (qm0 : isSl m0) {P : AV → Heap → Prop} (hP : ∀ v23 : AV, isSl v23 → ∀ H', Own H' (⟨v23, 3, r.1.map e_Work⟩ :: F) → P (.tup [v23, .agg [.int .i64 r.2.End, .int .i64 r.2.Rank, .int .i64 r.2.Id]]) H') : ACall C 216 [m0] H P := by
  refine acall_of gC (res := [.tmp 2, .cell 3 118]) (n := 25) rfl rfl rfl rfl fun K0 hK0 => ?_
  simp only [W, Nat.reduceSub, Nat.reduceAdd, List.replicate]
  unfold impl_pop at h
  refine w_seq fun K1 hK1 => ?_
  refine w_reg gC ?_
  try simp only [W, Nat.reduceAdd]
  refine w_alloc hS rfl rfl fun ip2 wp2 H hS => ?_
  try simp only [W]
  refine seq_n hK1 ?_
  refine w_seq fun K4 hK4 => ?_
  refine w_reg gC ?_
  try simp only [W, EE, Nat.reduceAdd]
  refine w_ow 1 hS rfl rfl rfl rfl rfl h (fun b5 in6 wn6 on6 hb5 h en6 => ?_) qm0.ne
  obtain ⟨kn6, hbn6, hen6⟩ := hS.elem 1 rfl en6 hb5
  try simp only [W, EE, EN, reduceIte, Nat.reduceAdd, Nat.reduceLeDiff, hbn6, hen6]
  refine w_len 1 hS rfl qm0 rfl ?_
  try simp only [W, EE]
  refine w_alloc hS rfl rfl fun ip7 wp7 H hS => ?_
  try simp only [W]
  refine w_stv (a := .agg [.int .i64 b5.End, .int .i64 b5.Rank, .int .i64 b5.Id]) (y' := .agg [.int .i64 b5.End, .int .i64 b5.Rank, .int .i64 b5.Id]) 0 hS rfl rfl rfl rfl rfl rfl rfl rfl fun H hS => ?_
  try simp only [W]
  refine seq_n hK4 ?_
  refine w_seq fun K9 hK9 => ?_
  refine w_reg gC ?_
  try simp only [W, EE, Nat.reduceAdd]
  refine w_ow 2 hS rfl rfl rfl rfl rfl h (fun b10 in11 wn11 on11 hb10 h en11 => ?_) qm0.ne
  obtain ⟨kn11, hbn11, hen11⟩ := hS.elem 2 rfl en11 hb10
  try simp only [W, EE, EN, reduceIte, Nat.reduceAdd, Nat.reduceLeDiff, hbn11, hen11]
  refine w_ow 2 hS rfl rfl rfl rfl rfl h (fun b12 in13 wn13 on13 hb12 h en13 => ?_) qm0.ne
  obtain ⟨kn13, hbn13, hen13⟩ := hS.elem 2 rfl en13 hb12
  try simp only [W]
  refine w_ste (a := .agg [.int .i64 b10.End, .int .i64 b10.Rank, .int .i64 b10.Id]) (y' := b10) 2 hS rfl en13 hb12 rfl rfl rfl rfl rfl rfl rfl fun H hS => ?_
  try simp only [W]
  refine seq_n hK9 ?_
  refine w_seq fun K14 hK14 => ?_
  refine w_reg gC ?_
  try simp only [W, EE, Nat.reduceAdd]
  refine w_slO 2 hS rfl qm0 rfl rfl rfl h fun v16 x15 qv16 hx15 h hS => ?_
  try simp only [W]
  refine seq_n hK14 ?_
  refine w_seq fun K18 hK18 => ?_
  refine w_reg gC ?_
  try simp only [W, Nat.reduceAdd]
  refine w_call h fun b19 hb19 h => ?_
  obtain ⟨b20, b21⟩ := b19
  try dsimp only at h
  refine impl_down_w hb19 (hS.sel 3 [2, 0, 1] (by decide)) qv16 fun H hS => ?_
  try simp only [W]
  refine seq_n hK18 ?_
  refine w_seq fun K22 hK22 => ?_
  refine w_drawL gC [(3, [])] (by kernel_rfl) rfl (by kernel_rfl) ?_
  try simp only [W, EE, reduceIte, Nat.reduceAdd, Nat.reduceLeDiff, hS.var 1 rfl, tabAt, qAt, Nat.reduceEqDiff]
  refine w_stv (a := .agg [.int .i64 b5.End, .int .i64 b5.Rank, .int .i64 b5.Id]) (y' := .agg [.int .i64 b5.End, .int .i64 b5.Rank, .int .i64 b5.Id]) 2 hS rfl rfl rfl rfl rfl rfl rfl rfl fun H hS => ?_
  try simp only [W]
  refine seq_n hK22 ?_
  refine w_ret ?_
  refine fin_r hK0 (res_tc rfl (res_c rfl rfl (hS.var 2 rfl) rfl rfl)) ?_
  try obtain rfl := Option.some.inj h
  exact hP _ qv16 _ (hS.sel 3 [0] (by decide))
theorem impl_SortWork_w {a0 : List Work} {r : (List Work × Bool)} (h : impl_SortWork a0 = some r) {F : List It} {H : Heap} (hS : Own H (F)) {P : AV → Heap → Prop} (hP : ∀ v50 : AV, isSl v50 → ∀ H', Own H' (⟨v50, 3, r.1.map e_Work⟩ :: F) → P (.tup [v50, .bool r.2]) H') : ACall C 96 [.fz (a0.map e_Work)] H P := by
  refine acall_of gC (res := [.tmp 2, .tmp 3]) (n := 31) rfl rfl rfl rfl fun K0 hK0 => ?_
  simp only [W, Nat.reduceSub, Nat.reduceAdd, List.replicate]
  unfold impl_SortWork at h
  refine w_seq fun K1 hK1 => ?_
  refine w_reg gC ?_
  try simp only [W, Nat.reduceAdd]
  refine seq_n hK1 ?_
  refine w_seq fun K2 hK2 => ?_
  refine w_seq fun K3 hK3 => ?_
  refine w_reg gC ?_
  try simp only [W, Nat.reduceAdd]
  refine w_call h fun b4 hb4 h => ?_
  refine impl_areWork_w hb4 hS fun H hS => ?_
  try simp only [W]
  refine seq_n hK3 ?_
  refine w_if ?_
  simp only [W]
  refine w_cnd h (fun hc h => ?_) (fun hc h => ?_)
  · refine w_seq fun K5 hK5 => ?_
    refine w_reg gC ?_
    try simp only [W, Nat.reduceAdd]
    refine seq_n hK5 ?_
    refine w_ret ?_
    refine seq_r hK2 ?_
    refine fin_r2 hK0 rfl rfl ?_
    try obtain rfl := Option.some.inj h
    exact hP _ isSl_nil _ (hS.nil_ 3)
  · refine w_skip ?_
    refine seq_n hK2 ?_
    refine w_seq fun K6 hK6 => ?_
    refine w_reg gC ?_
    try simp only [W, Nat.reduceAdd]
    refine w_lit0 rfl rfl ?_
    try simp only [W]
    refine seq_n hK6 ?_
    refine w_seq fun K7 hK7 => ?_
    refine w_seq fun K8 hK8 => ?_
    refine w_reg gC ?_
    try simp only [W, Nat.reduceAdd]
    refine w_call h fun b9 hb9 h => ?_
    obtain ⟨b10, b11⟩ := b9
    try dsimp only at h
    refine impl_made_w hb9 hS fun v12 qv12 H hS => ?_
    try simp only [W]
    refine seq_n hK8 ?_
    obtain ⟨y22, hw23, g29⟩ := Option.bind_eq_some_iff.1 h
    refine w_join gC (fun s H => ∃ x20 : List Work, y22 = (x20) ∧ ∃ v21 : AV, isSl v21 ∧ s = [u, u, u, u, v21, u, u, u, u, u, u, u, u, u, u, u, u, u, u, u, u, u, u, u, u, u, u, u, u, u, u] ∧ Own H (⟨v21, 3, x20.map e_Work⟩ :: F)) (fun K24 hK24 => ?_) (fun s H hq => ?_)
    · refine w_blk fun K25 hK25 => ?_
      refine w_loop gC hw23 (fun x s H => match x with | (x14, x17) => ∃ v15 : AV, isSl v15 ∧ ∃ v18 : AV, isSl v18 ∧ s = [u, u, u, u, v15, v18, u, u, u, u, u, u, u, u, u, u, u, u, u, u, u, u, u, u, u, u, u, u, u, u, u] ∧ Own H (⟨v15, 3, x14.map e_Work⟩ :: ⟨v18, 3, x17.map e_Work⟩ :: F)) ⟨_, isSl_e0, _, qv12, rfl, (hS.e0_ 3)⟩ (fun x y28 s H h hd27 hi K26 hK26 => ?_)
      obtain ⟨x14, x17⟩ := x
      try dsimp only at hi
      obtain ⟨v15, qv15, v18, qv18, rfl, hS⟩ := hi
      simp only [impl_SortWork_l0] at h
      refine w_seq fun K30 hK30 => ?_
      refine w_seq fun K31 hK31 => ?_
      refine w_reg gC ?_
      try simp only [W, EE, Nat.reduceAdd]
      refine w_len 1 hS rfl qv18 rfl ?_
      try simp only [W, EE]
      refine seq_n hK31 ?_
      refine w_if ?_
      simp only [W]
      refine w_cnd h (fun hc h => ?_) (fun hc h => ?_)
      · refine w_skip ?_
        refine seq_n hK30 ?_
        refine w_blk fun K32 hK32 => ?_
        refine w_seq fun K33 hK33 => ?_
        refine w_reg gC ?_
        try simp only [W, EE, Nat.reduceAdd]
        refine w_bld rfl rfl rfl rfl rfl ?_
        try simp only [W]
        refine w_alloc hS rfl rfl fun ip34 wp34 H hS => ?_
        try simp only [W]
        refine w_stv (a := .agg [.int .i64 0, .int .i64 0, .int .i64 0]) (y' := .agg [.int .i64 0, .int .i64 0, .int .i64 0]) 0 hS rfl rfl rfl rfl rfl rfl rfl rfl fun H hS => ?_
        try simp only [W]
        refine seq_n hK33 ?_
        refine w_seq fun K36 hK36 => ?_
        refine w_reg gC ?_
        try simp only [W, Nat.reduceAdd]
        refine w_call h fun b37 hb37 h => ?_
        obtain ⟨b38, b39⟩ := b37
        try dsimp only at h
        refine impl_pop_w hb37 (hS.sel 3 [2, 0, 1] (by decide)) qv18 fun v40 qv40 H hS => ?_
        try simp only [W]
        refine w_stv (a := .agg [.int .i64 b39.End, .int .i64 b39.Rank, .int .i64 b39.Id]) (y' := .agg [.int .i64 b39.End, .int .i64 b39.Rank, .int .i64 b39.Id]) 1 hS rfl rfl rfl rfl rfl rfl rfl rfl fun H hS => ?_
        try simp only [W]
        refine seq_n hK36 ?_
        refine w_reg gC ?_
        try simp only [W, EE, reduceIte, Nat.reduceAdd, Nat.reduceLeDiff, hS.var 1 rfl]
        refine w_lit (el := ([b39] : List Work).map e_Work) hS rfl rfl rfl rfl rfl rfl rfl fun v42 H qv42 hS => ?_
        try simp only [W, EE]
        refine w_appV (l := x14) (c := e_Work) 3 hS rfl qv15 rfl rfl rfl (hS.elems 0 rfl qv42) (fun _ => rfl) rfl h fun v45 H x44 qv45 hm h hS => ?_
        try simp only [W]
        refine blk_n0 hK32 ?_
        exact lp_n hK26 h ⟨_, qv45, _, qv40, rfl, (hS.sel 4 [3, 1] (by decide))⟩
      · refine w_exit ?_
        refine seq_x hK30 ?_
        try obtain rfl := Option.some.inj h
        obtain rfl := hd27 _ rfl
        have h : (some (x14) : Option ((List Work))) = some (x14) := rfl
        refine lp_x hK26 ?_
        refine blk_e hK25 ?_
        exact cut_n hK24 ⟨_, (Option.some.inj h).symm, _, qv15, rfl, (hS.sel 2 [0] (by decide))⟩
    · obtain ⟨x20, ey, v21, qv21, rfl, hS⟩ := hq; obtain rfl := ey.symm
      replace h := g29
      try dsimp only at h
      refine seq_n hK7 ?_
      refine w_seq fun K49 hK49 => ?_
      refine w_reg gC ?_
      try simp only [W, Nat.reduceAdd]
      refine seq_n hK49 ?_
      refine w_ret ?_
      refine fin_r2 hK0 rfl rfl ?_
      try obtain rfl := Option.some.inj h
      exact hP _ qv21 _ hS
theorem spec_l3Pop_w {a0 : List Work} {r : (List Work × Work)} (h : spec_l3Pop a0 = some r) {F : List It} {H : Heap} (hS : Own H (F)) {P : AV → Heap → Prop} (hP : ∀ v34 : AV, isSl v34 → ∀ H', Own H' (⟨v34, 3, r.1.map e_Work⟩ :: F) → P (.tup [v34, .agg [.int .i64 r.2.End, .int .i64 r.2.Rank, .int .i64 r.2.Id]]) H') : ACall C 217 [.fz (a0.map e_Work)] H P := by
  refine acall_of gC (res := [.tmp 2, .cell 3 118]) (n := 32) rfl rfl rfl rfl fun K0 hK0 => ?_
  simp only [W, Nat.reduceSub, Nat.reduceAdd, List.replicate]
  unfold spec_l3Pop at h
  refine w_seq fun K1 hK1 => ?_
  refine w_reg gC ?_
  try simp only [W, Nat.reduceAdd]
  refine w_alloc hS rfl rfl fun ip2 wp2 H hS => ?_
  try simp only [W]
  refine seq_n hK1 ?_
  refine w_seq fun K4 hK4 => ?_
  refine w_reg gC ?_
  try simp only [W, Nat.reduceAdd]
  refine w_lit0 rfl rfl ?_
  try simp only [W, EE]
  have hS := hS.e0_ 3
  refine w_appV (l := ([] : List Work)) (c := e_Work) 0 hS rfl isSl_e0 rfl rfl rfl rfl (fun _ => rfl) rfl h fun v7 H x6 qv7 hm h hS => ?_
  try simp only [W]
  refine seq_n hK4 ?_
  refine w_seq fun K9 hK9 => ?_
  refine w_reg gC ?_
  try simp only [W, EE, Nat.reduceAdd]
  refine w_ow 0 hS rfl rfl rfl rfl rfl h (fun b10 in11 wn11 on11 hb10 h en11 => ?_) qv7.ne
  obtain ⟨kn11, hbn11, hen11⟩ := hS.elem 0 rfl en11 hb10
  try simp only [W, EE, EN, reduceIte, Nat.reduceAdd, Nat.reduceLeDiff, hbn11, hen11]
  refine w_alloc hS rfl rfl fun ip12 wp12 H hS => ?_
  try simp only [W]
  refine w_stv (a := .agg [.int .i64 b10.End, .int .i64 b10.Rank, .int .i64 b10.Id]) (y' := .agg [.int .i64 b10.End, .int .i64 b10.Rank, .int .i64 b10.Id]) 0 hS rfl rfl rfl rfl rfl rfl rfl rfl fun H hS => ?_
  try simp only [W]
  refine seq_n hK9 ?_
  refine w_seq fun K14 hK14 => ?_
  refine w_reg gC ?_
  try simp only [W, EE, Nat.reduceAdd]
  refine w_len 1 hS rfl qv7 rfl ?_
  try simp only [W, EE]
  refine w_ow 1 hS rfl rfl rfl rfl rfl h (fun b15 in16 wn16 on16 hb15 h en16 => ?_) qv7.ne
  obtain ⟨kn16, hbn16, hen16⟩ := hS.elem 1 rfl en16 hb15
  try simp only [W, EE, EN, reduceIte, Nat.reduceAdd, Nat.reduceLeDiff, hbn16, hen16]
  refine w_ow 1 hS rfl rfl rfl rfl rfl h (fun b17 in18 wn18 on18 hb17 h en18 => ?_) qv7.ne
  obtain ⟨kn18, hbn18, hen18⟩ := hS.elem 1 rfl en18 hb17
  try simp only [W]
  refine w_ste (a := .agg [.int .i64 b15.End, .int .i64 b15.Rank, .int .i64 b15.Id]) (y' := b15) 1 hS rfl en18 hb17 rfl rfl rfl rfl rfl rfl rfl fun H hS => ?_
  try simp only [W]
  refine seq_n hK14 ?_
  refine w_seq fun K19 hK19 => ?_
  refine w_reg gC ?_
  try simp only [W, EE, Nat.reduceAdd]
  refine w_len 1 hS rfl qv7 rfl ?_
  try simp only [W, EE]
  refine w_slO 1 hS rfl qv7 rfl rfl rfl h fun v21 x20 qv21 hx20 h hS => ?_
  try simp only [W]
  refine seq_n hK19 ?_
  refine w_seq fun K23 hK23 => ?_
  refine w_seq fun K24 hK24 => ?_
  refine w_reg gC ?_
  try simp only [W, EE, Nat.reduceAdd]
  refine w_len 1 hS rfl qv21 rfl ?_
  try simp only [W, EE]
  refine seq_n hK24 ?_
  obtain ⟨y26, h, g27⟩ := Option.bind_eq_some_iff.1 h
  refine w_join gC (fun s H => ∃ x25 : List Work, y26 = (x25) ∧ s = [u, u, u, .ptr ip2 wp2 0 0, v21, .ptr ip12 wp12 0 0, u, u, u, u, u, u, u, u, u, u, u, u, u, u, u, u, u, u, u, u, u, u, u, u, u, u] ∧ Own H (⟨v21, 3, x25.map e_Work⟩ :: ⟨.ptr ip2 wp2 0 0, 3, [.agg [.int .i64 0, .int .i64 0, .int .i64 0]]⟩ :: ⟨.ptr ip12 wp12 0 0, 3, [.agg [.int .i64 b10.End, .int .i64 b10.Rank, .int .i64 b10.Id]]⟩ :: F)) (fun K28 hK28 => ?_) (fun s H hq => ?_)
  · refine w_seq fun K29 hK29 => ?_
    refine w_if ?_
    simp only [W]
    refine w_cnd h (fun hc h => ?_) (fun hc h => ?_)
    · refine w_reg gC ?_
      try simp only [W, Nat.reduceAdd]
      refine w_call h fun b30 hb30 h => ?_
      obtain ⟨b31, b32⟩ := b30
      try dsimp only at h
      refine spec_l3Down_w hb30 (hS.sel 3 [1, 0, 2] (by decide)) qv21 fun H hS => ?_
      try simp only [W]
      refine seq_n hK29 ?_
      refine w_kill ?_
      exact cut_n hK28 ⟨_, (Option.some.inj h).symm, rfl, (hS.sel 3 [0, 2, 1] (by decide))⟩
    · refine w_skip ?_
      refine seq_n hK29 ?_
      refine w_kill ?_
      exact cut_n hK28 ⟨_, (Option.some.inj h).symm, rfl, (hS.sel 3 [1, 2, 0] (by decide))⟩
  · obtain ⟨x25, ey, rfl, hS⟩ := hq; obtain rfl := ey.symm
    replace h := g27
    try dsimp only at h
    refine seq_n hK23 ?_
    refine w_seq fun K33 hK33 => ?_
    refine w_drawL gC [(3, [])] (by kernel_rfl) rfl (by kernel_rfl) ?_
    try simp only [W, EE, reduceIte, Nat.reduceAdd, Nat.reduceLeDiff, hS.var 2 rfl, tabAt, qAt, Nat.reduceEqDiff]
    refine w_stv (a := .agg [.int .i64 b10.End, .int .i64 b10.Rank, .int .i64 b10.Id]) (y' := .agg [.int .i64 b10.End, .int .i64 b10.Rank, .int .i64 b10.Id]) 1 hS rfl rfl rfl rfl rfl rfl rfl rfl fun H hS => ?_
    try simp only [W]
    refine seq_n hK33 ?_
    refine w_ret ?_
    refine fin_r hK0 (res_tc rfl (res_c rfl rfl (hS.var 1 rfl) rfl rfl)) ?_
    try obtain rfl := Option.some.inj h
    exact hP _ qv21 _ (hS.sel 3 [0] (by decide))
theorem spec_SortWork_w {a0 : List Work} {r : (List Work × Bool)} (h : spec_SortWork a0 = some r) {F : List It} {H : Heap} (hS : Own H (F)) {P : AV → Heap → Prop} (hP : ∀ v51 : AV, isSl v51 → ∀ H', Own H' (⟨v51, 3, r.1.map e_Work⟩ :: F) → P (.tup [v51, .bool r.2]) H') : ACall C 97 [.fz (a0.map e_Work)] H P := by
  refine acall_of gC (res := [.tmp 2, .tmp 3]) (n := 31) rfl rfl rfl rfl fun K0 hK0 => ?_
  simp only [W, Nat.reduceSub, Nat.reduceAdd, List.replicate]
  unfold spec_SortWork at h
  refine w_seq fun K1 hK1 => ?_
  refine w_reg gC ?_
  try simp only [W, Nat.reduceAdd]
  refine seq_n hK1 ?_
  refine w_seq fun K2 hK2 => ?_
  refine w_seq fun K3 hK3 => ?_
  refine w_reg gC ?_
  try simp only [W, Nat.reduceAdd]
  refine w_call h fun b4 hb4 h => ?_
  refine spec_l3Good_w hb4 hS fun H hS => ?_
  try simp only [W]
  refine seq_n hK3 ?_
  refine w_if ?_
  simp only [W]
  refine w_cnd h (fun hc h => ?_) (fun hc h => ?_)
  · refine w_seq fun K5 hK5 => ?_
    refine w_reg gC ?_
    try simp only [W, Nat.reduceAdd]
    refine seq_n hK5 ?_
    refine w_ret ?_
    refine seq_r hK2 ?_
    refine fin_r2 hK0 rfl rfl ?_
    try obtain rfl := Option.some.inj h
    exact hP _ isSl_nil _ (hS.nil_ 3)
  · refine w_skip ?_
    refine seq_n hK2 ?_
    refine w_seq fun K6 hK6 => ?_
    refine w_reg gC ?_
    try simp only [W, Nat.reduceAdd]
    refine w_call h fun b7 hb7 h => ?_
    obtain ⟨b8, b9⟩ := b7
    try dsimp only at h
    refine spec_l3Make_w hb7 hS fun v10 qv10 H hS => ?_
    try simp only [W]
    refine seq_n hK6 ?_
    refine w_seq fun K12 hK12 => ?_
    refine w_reg gC ?_
    try simp only [W, Nat.reduceAdd]
    refine seq_n hK12 ?_
    refine w_seq fun K13 hK13 => ?_
    obtain ⟨y22, hw23, g29⟩ := Option.bind_eq_some_iff.1 h
    refine w_join gC (fun s H => ∃ x20 : List Work, y22 = (x20) ∧ ∃ v21 : AV, isSl v21 ∧ s = [u, u, u, u, u, u, v21, u, u, u, u, u, u, u, u, u, u, u, u, u, u, u, u, u, u, u, u, u, u, u, u] ∧ Own H (⟨v21, 3, x20.map e_Work⟩ :: F)) (fun K24 hK24 => ?_) (fun s H hq => ?_)
    · refine w_blk fun K25 hK25 => ?_
      refine w_loop gC hw23 (fun x s H => match x with | (x14, x17) => ∃ v15 : AV, isSl v15 ∧ ∃ v18 : AV, isSl v18 ∧ s = [u, u, u, u, v15, u, v18, u, u, u, u, u, u, u, u, u, u, u, u, u, u, u, u, u, u, u, u, u, u, u, u] ∧ Own H (⟨v15, 3, x14.map e_Work⟩ :: ⟨v18, 3, x17.map e_Work⟩ :: F)) ⟨_, qv10, _, isSl_nil, rfl, ((hS.nil_ 3).sel 2 [1, 0] (by decide))⟩ (fun x y28 s H h hd27 hi K26 hK26 => ?_)
      obtain ⟨x14, x17⟩ := x
      try dsimp only at hi
      obtain ⟨v15, qv15, v18, qv18, rfl, hS⟩ := hi
      simp only [spec_SortWork_l0] at h
      refine w_seq fun K30 hK30 => ?_
      refine w_seq fun K31 hK31 => ?_
      refine w_reg gC ?_
      try simp only [W, EE, Nat.reduceAdd]
      refine w_len 0 hS rfl qv15 rfl ?_
      try simp only [W, EE]
      refine seq_n hK31 ?_
      refine w_if ?_
      simp only [W]
      refine w_cnd h (fun hc h => ?_) (fun hc h => ?_)
      · refine w_skip ?_
        refine seq_n hK30 ?_
        refine w_blk fun K32 hK32 => ?_
        refine w_seq fun K33 hK33 => ?_
        refine w_reg gC ?_
        try simp only [W, Nat.reduceAdd, Nat.reduceBEq, List.contains_cons, Nat.reduceBEq, Bool.or_self]
        refine w_callO (rsh := [[.sl [.sc, .sc, .sc]], [.sc, .sc, .sc]]) (ys := [.fz (x14.map e_Work)]) h rfl (pv_c (sn_ow hS 0 rfl qv15 (fun _ => rfl)) pv_n) fun b34 hb34 h => ⟨.tup [.own 3 (b34.1.map e_Work), .agg [.int .i64 b34.2.End, .int .i64 b34.2.Rank, .int .i64 b34.2.Id]], spec_l3Pop_w hb34 (Own.nil _) fun v37 qv37 H hS => TV_ok rfl (TV_o 0 hS rfl qv37 (fun _ _ => by simp [takeE, takeT, takeC, plainA, e_Work]) fun H hS => TV_a (TC_sc rfl (TC_sc rfl (TC_sc rfl (TC_nil (TV_n rfl)))))), (nf_t (nf_c (noFz_o _ (fun _ => rfl) _) (nf_c (nf_a (nf_c rfl (nf_c rfl (nf_c rfl nf_n)))) nf_n))), ?_⟩
        refine thaw_tup ?_
        refine TH_o hS (fun _ _ => rfl) (fun _ => rfl) fun v39 H qv39 hS => ?_
        refine TH_a ?_
        refine TH_p (fun _ => rfl) ?_
        refine TH_p (fun _ => rfl) ?_
        refine TH_p (fun _ => rfl) ?_
        refine TH_n ?_
        refine TH_n ?_
        try simp only [List.headD_cons]
        obtain ⟨b35, b36⟩ := b34
        try dsimp only at h
        try simp only [W]
        refine w_alloc hS rfl rfl fun ip40 wp40 H hS => ?_
        try simp only [W]
        refine w_stv (a := .agg [.int .i64 b36.End, .int .i64 b36.Rank, .int .i64 b36.Id]) (y' := .agg [.int .i64 b36.End, .int .i64 b36.Rank, .int .i64 b36.Id]) 0 hS rfl rfl rfl rfl rfl rfl rfl rfl fun H hS => ?_
        try simp only [W]
        refine seq_n hK33 ?_
        refine w_seq fun K42 hK42 => ?_
        refine w_reg gC ?_
        try simp only [W, Nat.reduceAdd]
        refine seq_n hK42 ?_
        refine w_reg gC ?_
        try simp only [W, EE, reduceIte, Nat.reduceAdd, Nat.reduceLeDiff, hS.var 0 rfl]
        refine w_lit (el := ([b36] : List Work).map e_Work) hS rfl rfl rfl rfl rfl rfl rfl fun v43 H qv43 hS => ?_
        try simp only [W, EE]
        refine w_appV (l := x17) (c := e_Work) 4 hS rfl qv18 rfl rfl rfl (hS.elems 0 rfl qv43) (fun _ => rfl) rfl h fun v46 H x45 qv46 hm h hS => ?_
        try simp only [W]
        refine blk_n0 hK32 ?_
        exact lp_n hK26 h ⟨_, qv39, _, qv46, rfl, (hS.sel 5 [2, 4] (by decide))⟩
      · refine w_exit ?_
        refine seq_x hK30 ?_
        try obtain rfl := Option.some.inj h
        obtain rfl := hd27 _ rfl
        have h : (some (x17) : Option ((List Work))) = some (x17) := rfl
        refine lp_x hK26 ?_
        refine blk_e hK25 ?_
        exact cut_n hK24 ⟨_, (Option.some.inj h).symm, _, qv18, rfl, (hS.sel 2 [1] (by decide))⟩
    · obtain ⟨x20, ey, v21, qv21, rfl, hS⟩ := hq; obtain rfl := ey.symm
      replace h := g29
      try dsimp only at h
      refine seq_n hK13 ?_
      refine w_seq fun K50 hK50 => ?_
      refine w_reg gC ?_
      try simp only [W, Nat.reduceAdd]
      refine seq_n hK50 ?_
      refine w_ret ?_
      refine fin_r2 hK0 rfl rfl ?_
      try obtain rfl := Option.some.inj h
      exact hP _ qv21 _ hS
theorem laws_sameWorks_w {a0 : List Work} {a1 : List Work} {r : (Bool)} (h : laws_sameWorks a0 a1 = some r) {F : List It} {H : Heap} (hS : Own H (F)) {P : AV → Heap → Prop} (hP : ∀ H', Own H' (F) → P (.bool r) H') : ACall C 98 [.fz (a0.map e_Work), .fz (a1.map e_Work)] H P := by
  refine acall_of gC (res := [.tmp 4]) (n := 26) rfl rfl rfl rfl fun K0 hK0 => ?_
  simp only [W, Nat.reduceSub, Nat.reduceAdd, List.replicate]
  unfold laws_sameWorks at h
  refine w_seq fun K1 hK1 => ?_
  refine w_reg gC ?_
  try simp only [W, Nat.reduceAdd]
  refine seq_n hK1 ?_
  refine w_seq fun K2 hK2 => ?_
  refine w_seq fun K3 hK3 => ?_
  refine w_reg gC ?_
  try simp only [W, EE, Nat.reduceAdd]
  refine seq_n hK3 ?_
  refine w_if ?_
  simp only [W]
  refine w_cnd h (fun hc h => ?_) (fun hc h => ?_)
  · refine w_seq fun K4 hK4 => ?_
    refine w_reg gC ?_
    try simp only [W, Nat.reduceAdd]
    refine seq_n hK4 ?_
    refine w_ret ?_
    refine seq_r hK2 ?_
    refine fin_r1 hK0 rfl ?_
    try obtain rfl := Option.some.inj h
    exact hP _ hS
  · refine w_skip ?_
    refine seq_n hK2 ?_
    refine w_seq fun K5 hK5 => ?_
    refine w_seq fun K6 hK6 => ?_
    refine w_reg gC ?_
    try simp only [W, EE, Nat.reduceAdd]
    refine seq_n hK6 ?_
    obtain ⟨y8, hw9, g15⟩ := Option.bind_eq_some_iff.1 h
    refine w_join gC (fun s H => y8 = LR.next () ∧ s = [u, u, u, u, u, u, u, u, u, u, u, u, u, u, u, u, u, u, u, u, u, u, u, u, u, u] ∧ Own H (F)) (fun K10 hK10 => ?_) (fun s H hq => ?_)
    · refine w_blk fun K11 hK11 => ?_
      refine w_loop gC hw9 (fun x s H => s = [.fz (a0.map e_Work), .fz (a1.map e_Work), u, u, u, u, u, u, u, u, u, u, .int .i64 (a0.length : Int), .int .i64 x, u, u, u, u, u, u, u, u, u, u, u, u] ∧ Own H (F)) ⟨rfl, hS⟩ (fun x7 y14 s H h hd13 hi K12 hK12 => ?_)
      skip
      try dsimp only at hi
      obtain ⟨rfl, hS⟩ := hi
      simp only [laws_sameWorks_l0] at h
      refine w_seq fun K16 hK16 => ?_
      refine w_reg gC ?_
      try simp only [W, EE, Nat.reduceAdd]
      refine seq_n hK16 ?_
      refine w_seq fun K17 hK17 => ?_
      refine w_if ?_
      simp only [W]
      refine w_cnd h (fun hc h => ?_) (fun hc h => ?_)
      · refine w_skip ?_
        refine seq_n hK17 ?_
        refine w_seq fun K18 hK18 => ?_
        refine w_blk fun K19 hK19 => ?_
        refine w_seq fun K20 hK20 => ?_
        refine w_reg gC ?_
        try simp only [W, Nat.reduceAdd]
        refine seq_n hK20 ?_
        refine w_seq fun K21 hK21 => ?_
        refine w_draw0 gC (by kernel_rfl) ?_
        try simp only [W, EE, Nat.reduceAdd]
        refine w_fz rfl rfl rfl (fun _ => rfl) h fun b22 hb22 h => ?_
        try simp only [W, EE, EN, reduceIte, Nat.reduceAdd, Nat.reduceLeDiff]
        refine w_fz rfl rfl rfl (fun _ => rfl) h fun b23 hb23 h => ?_
        try simp only [W, EE, EN, reduceIte, Nat.reduceAdd, Nat.reduceLeDiff]
        refine seq_n hK21 ?_
        refine w_if ?_
        simp only [W]
        refine w_cnd h (fun hc h => ?_) (fun hc h => ?_)
        · refine w_seq fun K24 hK24 => ?_
          refine w_reg gC ?_
          try simp only [W, Nat.reduceAdd]
          refine seq_n hK24 ?_
          refine w_ret ?_
          refine blk_r hK19 ?_
          refine seq_r hK18 ?_
          try obtain rfl := Option.some.inj h
          obtain rfl := hd13 _ rfl
          have h : (some (LR.done false) : Option (LR Unit (Bool))) = some (LR.done false) := rfl
          refine lp_r hK12 ?_
          refine blk_r hK11 ?_
          try obtain rfl := Option.some.inj h
          obtain rfl := Option.some.inj g15
          have h : (some false : Option (Bool)) = some false := rfl
          refine cut_r hK10 ?_
          refine seq_r hK5 ?_
          refine fin_r1 hK0 rfl ?_
          try obtain rfl := Option.some.inj h
          exact hP _ hS
        · refine w_skip ?_
          refine blk_n0 hK19 ?_
          refine seq_n hK18 ?_
          refine w_reg gC ?_
          try simp only [W, EE, Nat.reduceAdd]
          exact lp_n hK12 h ⟨rfl, hS⟩
      · refine w_exit ?_
        refine seq_x hK17 ?_
        try obtain rfl := Option.some.inj h
        obtain rfl := hd13 _ rfl
        have h : (some (LR.next ()) : Option (LR Unit (Bool))) = some (LR.next ()) := rfl
        refine lp_x hK12 ?_
        refine blk_e hK11 ?_
        exact cut_n hK10 ⟨(Option.some.inj h).symm, rfl, hS⟩
    · obtain ⟨rfl, rfl, hS⟩ := hq
      replace h := g15
      try dsimp only at h
      refine seq_n hK5 ?_
      refine w_seq fun K31 hK31 => ?_
      refine w_reg gC ?_
      try simp only [W, Nat.reduceAdd]
      refine seq_n hK31 ?_
      refine w_ret ?_
      refine fin_r1 hK0 rfl ?_
      try obtain rfl := Option.some.inj h
      exact hP _ hS
theorem impl_isHeap_w {a0 : List Work} {r : (Bool)} (h : impl_isHeap a0 = some r) {F : List It} {H : Heap} (hS : Own H (F)) {P : AV → Heap → Prop} (hP : ∀ H', Own H' (F) → P (.bool r) H') : ACall C 218 [.fz (a0.map e_Work)] H P := by
  refine acall_of gC (res := [.tmp 2]) (n := 25) rfl rfl rfl rfl fun K0 hK0 => ?_
  simp only [W, Nat.reduceSub, Nat.reduceAdd, List.replicate]
  unfold impl_isHeap at h
  refine w_seq fun K1 hK1 => ?_
  refine w_reg gC ?_
  try simp only [W, Nat.reduceAdd]
  refine seq_n hK1 ?_
  refine w_seq fun K2 hK2 => ?_
  refine w_seq fun K3 hK3 => ?_
  refine w_reg gC ?_
  try simp only [W, Nat.reduceAdd]
  refine w_call h fun b4 hb4 h => ?_
  refine impl_areWork_w hb4 hS fun H hS => ?_
  try simp only [W]
  refine seq_n hK3 ?_
  refine w_if ?_
  simp only [W]
  refine w_cnd h (fun hc h => ?_) (fun hc h => ?_)
  · refine w_seq fun K5 hK5 => ?_
    refine w_reg gC ?_
    try simp only [W, Nat.reduceAdd]
    refine seq_n hK5 ?_
    refine w_ret ?_
    refine seq_r hK2 ?_
    refine fin_r1 hK0 rfl ?_
    try obtain rfl := Option.some.inj h
    exact hP _ hS
  · refine w_skip ?_
    refine seq_n hK2 ?_
    refine w_seq fun K6 hK6 => ?_
    refine w_seq fun K7 hK7 => ?_
    refine w_reg gC ?_
    try simp only [W, Nat.reduceAdd]
    refine seq_n hK7 ?_
    obtain ⟨y9, hw10, g16⟩ := Option.bind_eq_some_iff.1 h
    refine w_join gC (fun s H => y9 = LR.next () ∧ s = [u, u, u, u, u, u, u, u, u, u, u, u, u, u, u, u, u, u, u, u, u, u, u, u, u] ∧ Own H (F)) (fun K11 hK11 => ?_) (fun s H hq => ?_)
    · refine w_blk fun K12 hK12 => ?_
      refine w_loop gC hw10 (fun x s H => s = [.fz (a0.map e_Work), u, u, .int .i64 x, u, u, u, u, u, u, u, u, u, u, u, u, u, u, u, u, u, u, u, u, u] ∧ Own H (F)) ⟨rfl, hS⟩ (fun x8 y15 s H h hd14 hi K13 hK13 => ?_)
      skip
      try dsimp only at hi
      obtain ⟨rfl, hS⟩ := hi
      simp only [impl_isHeap_l0] at h
      refine w_seq fun K17 hK17 => ?_
      refine w_seq fun K18 hK18 => ?_
      refine w_reg gC ?_
      try simp only [W, EE, Nat.reduceAdd]
      refine seq_n hK18 ?_
      refine w_if ?_
      simp only [W]
      refine w_cnd h (fun hc h => ?_) (fun hc h => ?_)
      · refine w_skip ?_
        refine seq_n hK17 ?_
        refine w_seq fun K19 hK19 => ?_
        refine w_blk fun K20 hK20 => ?_
        refine w_seq fun K21 hK21 => ?_
        refine w_draw0 gC (by kernel_rfl) ?_
        try simp only [W, EE, Nat.reduceAdd]
        refine w_fz rfl rfl rfl (fun _ => rfl) h fun b22 hb22 h => ?_
        try simp only [W, EE, EN, reduceIte, Nat.reduceAdd, Nat.reduceLeDiff]
        rw [dv_lit _ _ _ rfl, Option.map_some, resV_s]
        try simp only [W, EE]
        refine w_fz rfl rfl rfl (fun _ => rfl) h fun b23 hb23 h => ?_
        try simp only [W, EE, EN, reduceIte, Nat.reduceAdd, Nat.reduceLeDiff]
        refine w_callS (rsh := [[.sc]]) (ys := [.agg [.int .i64 b22.End, .int .i64 b22.Rank, .int .i64 b22.Id], .agg [.int .i64 b23.End, .int .i64 b23.Rank, .int .i64 b23.Id]]) h rfl (by rfl) fun b24 hb24 h => ⟨.int .i64 b24, impl_compareWork_w hb24 (Own.nil _) fun H hS => TV_ok rfl (TV_p rfl (TV_n rfl)), ⟨rfl, rfl, fun _ => rfl⟩, ?_⟩
        try simp only [W, EE]
        refine seq_n hK21 ?_
        refine w_if ?_
        simp only [W]
        refine w_cnd h (fun hc h => ?_) (fun hc h => ?_)
        · refine w_seq fun K25 hK25 => ?_
          refine w_reg gC ?_
          try simp only [W, Nat.reduceAdd]
          refine seq_n hK25 ?_
          refine w_ret ?_
          refine blk_r hK20 ?_
          refine seq_r hK19 ?_
          try obtain rfl := Option.some.inj h
          obtain rfl := hd14 _ rfl
          have h : (some (LR.done false) : Option (LR Unit (Bool))) = some (LR.done false) := rfl
          refine lp_r hK13 ?_
          refine blk_r hK12 ?_
          try obtain rfl := Option.some.inj h
          obtain rfl := Option.some.inj g16
          have h : (some false : Option (Bool)) = some false := rfl
          refine cut_r hK11 ?_
          refine seq_r hK6 ?_
          refine fin_r1 hK0 rfl ?_
          try obtain rfl := Option.some.inj h
          exact hP _ hS
        · refine w_skip ?_
          refine blk_n0 hK20 ?_
          refine seq_n hK19 ?_
          refine w_reg gC ?_
          try simp only [W, EE, Nat.reduceAdd]
          exact lp_n hK13 h ⟨rfl, hS⟩
      · refine w_exit ?_
        refine seq_x hK17 ?_
        try obtain rfl := Option.some.inj h
        obtain rfl := hd14 _ rfl
        have h : (some (LR.next ()) : Option (LR Unit (Bool))) = some (LR.next ()) := rfl
        refine lp_x hK13 ?_
        refine blk_e hK12 ?_
        exact cut_n hK11 ⟨(Option.some.inj h).symm, rfl, hS⟩
    · obtain ⟨rfl, rfl, hS⟩ := hq
      replace h := g16
      try dsimp only at h
      refine seq_n hK6 ?_
      refine w_seq fun K32 hK32 => ?_
      refine w_reg gC ?_
      try simp only [W, Nat.reduceAdd]
      refine seq_n hK32 ?_
      refine w_ret ?_
      refine fin_r1 hK0 rfl ?_
      try obtain rfl := Option.some.inj h
      exact hP _ hS
theorem impl_IsHeap_w {a0 : List Work} {r : (Bool × Bool)} (h : impl_IsHeap a0 = some r) {F : List It} {H : Heap} (hS : Own H (F)) {P : AV → Heap → Prop} (hP : ∀ H', Own H' (F) → P (.tup [.bool r.1, .bool r.2]) H') : ACall C 99 [.fz (a0.map e_Work)] H P := by
  refine acall_of gC (res := [.tmp 2, .tmp 3]) (n := 9) rfl rfl rfl rfl fun K0 hK0 => ?_
  simp only [W, Nat.reduceSub, Nat.reduceAdd, List.replicate]
  unfold impl_IsHeap at h
  refine w_seq fun K1 hK1 => ?_
  refine w_reg gC ?_
  try simp only [W, Nat.reduceAdd]
  refine seq_n hK1 ?_
  refine w_seq fun K2 hK2 => ?_
  refine w_seq fun K3 hK3 => ?_
  refine w_reg gC ?_
  try simp only [W, Nat.reduceAdd]
  refine w_call h fun b4 hb4 h => ?_
  refine impl_areWork_w hb4 hS fun H hS => ?_
  try simp only [W]
  refine seq_n hK3 ?_
  refine w_if ?_
  simp only [W]
  refine w_cnd h (fun hc h => ?_) (fun hc h => ?_)
  · refine w_seq fun K5 hK5 => ?_
    refine w_reg gC ?_
    try simp only [W, Nat.reduceAdd]
    refine seq_n hK5 ?_
    refine w_ret ?_
    refine seq_r hK2 ?_
    refine fin_r2 hK0 rfl rfl ?_
    try obtain rfl := Option.some.inj h
    exact hP _ hS
  · refine w_skip ?_
    refine seq_n hK2 ?_
    refine w_seq fun K6 hK6 => ?_
    refine w_reg gC ?_
    try simp only [W, Nat.reduceAdd]
    refine w_call h fun b7 hb7 h => ?_
    refine impl_isHeap_w hb7 hS fun H hS => ?_
    try simp only [W]
    refine seq_n hK6 ?_
    refine w_ret ?_
    refine fin_r2 hK0 rfl rfl ?_
    try obtain rfl := Option.some.inj h
    exact hP _ hS
theorem laws_manyOf_w {a0 : List Work} {a1 : Work} {r : (Int)} (h : laws_manyOf a0 a1 = some r) {F : List It} {H : Heap} (hS : Own H (F)) {P : AV → Heap → Prop} (hP : ∀ H', Own H' (F) → P (.int .i64 r) H') : ACall C 100 [.fz (a0.map e_Work), .agg [.int .i64 a1.End, .int .i64 a1.Rank, .int .i64 a1.Id]] H P := by
  refine acall_of gC (res := [.tmp 4]) (n := 21) rfl rfl rfl rfl fun K0 hK0 => ?_
  simp only [W, Nat.reduceSub, Nat.reduceAdd, List.replicate]
  unfold laws_manyOf at h
  refine w_seq fun K1 hK1 => ?_
  refine w_reg gC ?_
  try simp only [W, Nat.reduceAdd]
  refine w_box hS rfl rfl rfl rfl fun ip2 wp2 H hS => ?_
  try simp only [W]
  refine seq_n hK1 ?_
  refine w_seq fun K4 hK4 => ?_
  refine w_reg gC ?_
  try simp only [W, Nat.reduceAdd]
  refine seq_n hK4 ?_
  refine w_seq fun K5 hK5 => ?_
  refine w_seq fun K6 hK6 => ?_
  refine w_reg gC ?_
  try simp only [W, EE, Nat.reduceAdd]
  refine seq_n hK6 ?_
  obtain ⟨y10, hw11, g17⟩ := Option.bind_eq_some_iff.1 h
  refine w_join gC (fun s H => ∃ x9 : Int, y10 = (x9) ∧ s = [u, u, u, u, u, .int .i64 x9, u, u, u, u, u, u, u, u, u, u, u, u, u, u, u] ∧ Own H (F)) (fun K12 hK12 => ?_) (fun s H hq => ?_)
  · refine w_blk fun K13 hK13 => ?_
    refine w_loop gC hw11 (fun x s H => match x with | (x7, x8) => s = [u, u, u, .ptr ip2 wp2 0 0, u, .int .i64 x7, u, u, .fz (a0.map e_Work), .int .i64 (a0.length : Int), .int .i64 x8, u, u, u, u, u, u, u, u, u, u] ∧ Own H (⟨.ptr ip2 wp2 0 0, 3, [.agg [.int .i64 a1.End, .int .i64 a1.Rank, .int .i64 a1.Id]]⟩ :: F)) ⟨rfl, hS⟩ (fun x y16 s H h hd15 hi K14 hK14 => ?_)
    obtain ⟨x7, x8⟩ := x
    try dsimp only at hi
    obtain ⟨rfl, hS⟩ := hi
    simp only [laws_manyOf_l0] at h
    refine w_seq fun K18 hK18 => ?_
    refine w_reg gC ?_
    try simp only [W, EE, Nat.reduceAdd]
    refine seq_n hK18 ?_
    refine w_seq fun K19 hK19 => ?_
    refine w_if ?_
    simp only [W]
    refine w_cnd h (fun hc h => ?_) (fun hc h => ?_)
    · refine w_skip ?_
      refine seq_n hK19 ?_
      refine w_seq fun K20 hK20 => ?_
      obtain ⟨y23, h, g24⟩ := Option.bind_eq_some_iff.1 h
      refine w_join gC (fun s H => ∃ x22 : Int, y23 = (x22) ∧ s = [u, u, u, .ptr ip2 wp2 0 0, u, .int .i64 x22, u, u, .fz (a0.map e_Work), .int .i64 (a0.length : Int), .int .i64 x8, u, u, u, u, u, u, u, u, u, u] ∧ Own H (⟨.ptr ip2 wp2 0 0, 3, [.agg [.int .i64 a1.End, .int .i64 a1.Rank, .int .i64 a1.Id]]⟩ :: F)) (fun K25 hK25 => ?_) (fun s H hq => ?_)
      · refine w_blk fun K21 hK21 => ?_
        refine w_seq fun K26 hK26 => ?_
        refine w_reg gC ?_
        try simp only [W, EE, Nat.reduceAdd]
        refine w_fz rfl rfl rfl (fun _ => rfl) h fun b27 hb27 h => ?_
        try simp only [W, EE, EN, reduceIte, Nat.reduceAdd, Nat.reduceLeDiff]
        refine w_alloc hS rfl rfl fun ip28 wp28 H hS => ?_
        try simp only [W]
        refine w_stv (a := .agg [.int .i64 b27.End, .int .i64 b27.Rank, .int .i64 b27.Id]) (y' := .agg [.int .i64 b27.End, .int .i64 b27.Rank, .int .i64 b27.Id]) 0 hS rfl rfl rfl rfl rfl rfl rfl rfl fun H hS => ?_
        try simp only [W]
        refine seq_n hK26 ?_
        refine w_seq fun K30 hK30 => ?_
        refine w_reg gC ?_
        try simp only [W, EE, reduceIte, Nat.reduceAdd, Nat.reduceLeDiff, Bool.false_eq_true, hS.var 0 rfl, hS.var 1 rfl]
        refine seq_n hK30 ?_
        obtain ⟨y32, h, g33⟩ := Option.bind_eq_some_iff.1 h
        refine w_join gC (fun s H => ∃ x31 : Int, y32 = (x31) ∧ s = [u, u, u, .ptr ip2 wp2 0 0, u, .int .i64 x31, u, u, .fz (a0.map e_Work), .int .i64 (a0.length : Int), .int .i64 x8, u, u, u, u, u, u, u, u, u, u] ∧ Own H (⟨.ptr ip2 wp2 0 0, 3, [.agg [.int .i64 a1.End, .int .i64 a1.Rank, .int .i64 a1.Id]]⟩ :: F)) (fun K34 hK34 => ?_) (fun s H hq => ?_)
        · refine w_seq fun K35 hK35 => ?_
          refine w_if ?_
          simp only [W]
          refine w_cnd h (fun hc h => ?_) (fun hc h => ?_)
          · refine w_reg gC ?_
            try simp only [W, EE, Nat.reduceAdd]
            refine seq_n hK35 ?_
            refine w_kill ?_
            exact cut_n hK34 ⟨_, (Option.some.inj h).symm, rfl, (hS.sel 2 [1] (by decide))⟩
          · refine w_skip ?_
            refine seq_n hK35 ?_
            refine w_kill ?_
            exact cut_n hK34 ⟨_, (Option.some.inj h).symm, rfl, (hS.sel 2 [1] (by decide))⟩
        · obtain ⟨x31, ey, rfl, hS⟩ := hq; obtain rfl := ey.symm
          replace h := g33
          try dsimp only at h
          refine blk_n hK21 ?_
          exact cut_n hK25 ⟨_, (Option.some.inj h).symm, rfl, hS⟩
      · obtain ⟨x22, ey, rfl, hS⟩ := hq; obtain rfl := ey.symm
        replace h := g24
        try dsimp only at h
        refine seq_n hK20 ?_
        refine w_reg gC ?_
        try simp only [W, EE, Nat.reduceAdd]
        exact lp_n hK14 h ⟨rfl, hS⟩
    · refine w_exit ?_
      refine seq_x hK19 ?_
      try obtain rfl := Option.some.inj h
      obtain rfl := hd15 _ rfl
      have h : (some (x7) : Option (Int)) = some (x7) := rfl
      refine lp_x hK14 ?_
      refine blk_e hK13 ?_
      exact cut_n hK12 ⟨_, (Option.some.inj h).symm, rfl, (hS.sel 1 [] (by decide))⟩
  · obtain ⟨x9, ey, rfl, hS⟩ := hq; obtain rfl := ey.symm
    replace h := g17
    try dsimp only at h
    refine seq_n hK5 ?_
    refine w_seq fun K38 hK38 => ?_
    refine w_reg gC ?_
    try simp only [W, Nat.reduceAdd]
    refine seq_n hK38 ?_
    refine w_ret ?_
    refine fin_r1 hK0 rfl ?_
    try obtain rfl := Option.some.inj h
    exact hP _ hS
theorem impl_LessWork_w {a0 : Work} {a1 : Work} {r : (Bool × Bool)} (h : impl_LessWork a0 a1 = some r) {F : List It} {H : Heap} (hS : Own H (F)) {P : AV → Heap → Prop} (hP : ∀ H', Own H' (F) → P (.tup [.bool r.1, .bool r.2]) H') : ACall C 101 [.agg [.int .i64 a0.End, .int .i64 a0.Rank, .int .i64 a0.Id], .agg [.int .i64 a1.End, .int .i64 a1.Rank, .int .i64 a1.Id]] H P := by
  refine acall_of gC (res := [.tmp 4, .tmp 5]) (n := 18) rfl rfl rfl rfl fun K0 hK0 => ?_
  simp only [W, Nat.reduceSub, Nat.reduceAdd, List.replicate]
  unfold impl_LessWork at h
  refine w_seq fun K1 hK1 => ?_
  refine w_reg gC ?_
  try simp only [W, Nat.reduceAdd]
  refine w_box hS rfl rfl rfl rfl fun ip2 wp2 H hS => ?_
  try simp only [W]
  refine w_box hS rfl rfl rfl rfl fun ip4 wp4 H hS => ?_
  try simp only [W]
  refine seq_n hK1 ?_
  refine w_seq fun K6 hK6 => ?_
  refine w_seq fun K7 hK7 => ?_
  obtain ⟨y9, h, g10⟩ := Option.bind_eq_some_iff.1 h
  refine w_join gC (fun s H => ∃ x8 : Bool, y9 = (x8) ∧ s = [u, u, .ptr ip2 wp2 0 0, .ptr ip4 wp4 0 0, u, u, u, u, u, u, u, u, u, .bool x8, u, u, u, u] ∧ Own H (⟨.ptr ip2 wp2 0 0, 3, [.agg [.int .i64 a0.End, .int .i64 a0.Rank, .int .i64 a0.Id]]⟩ :: ⟨.ptr ip4 wp4 0 0, 3, [.agg [.int .i64 a1.End, .int .i64 a1.Rank, .int .i64 a1.Id]]⟩ :: F)) (fun K11 hK11 => ?_) (fun s H hq => ?_)
  · refine w_seq fun K12 hK12 => ?_
    refine w_reg gC ?_
    try simp only [W, EE, reduceIte, Nat.reduceAdd, Nat.reduceLeDiff, hS.var 1 rfl]
    refine w_call h fun b13 hb13 h => ?_
    refine impl_isWork_w hb13 hS fun H hS => ?_
    try simp only [W]
    refine w_grdT h (fun hc h => ?_) (fun hc h => ?_)
    · try simp only [W, hc]
      refine seq_n hK12 ?_
      refine w_kill ?_
      exact cut_n hK11 ⟨_, (Option.some.inj h).symm, rfl, (hS.sel 2 [1, 0] (by decide))⟩
    · try simp only [W, EE, reduceIte, Nat.reduceAdd, Nat.reduceLeDiff, hS.var 0 rfl, hc]
      refine w_call h fun b14 hb14 h => ?_
      refine impl_isWork_w hb14 hS fun H hS => ?_
      try simp only [W, reduceIte, Bool.false_eq_true]
      refine seq_n hK12 ?_
      refine w_kill ?_
      exact cut_n hK11 ⟨_, (Option.some.inj h).symm, rfl, (hS.sel 2 [1, 0] (by decide))⟩
  · obtain ⟨x8, ey, rfl, hS⟩ := hq; obtain rfl := ey.symm
    replace h := g10
    try dsimp only at h
    refine seq_n hK7 ?_
    refine w_if ?_
    simp only [W]
    refine w_cnd h (fun hc h => ?_) (fun hc h => ?_)
    · refine w_seq fun K15 hK15 => ?_
      refine w_reg gC ?_
      try simp only [W, Nat.reduceAdd]
      refine seq_n hK15 ?_
      refine w_ret ?_
      refine seq_r hK6 ?_
      refine fin_r2 hK0 rfl rfl ?_
      try obtain rfl := Option.some.inj h
      exact hP _ (hS.sel 2 [] (by decide))
    · refine w_skip ?_
      refine seq_n hK6 ?_
      refine w_seq fun K16 hK16 => ?_
      refine w_reg gC ?_
      try simp only [W, EE, reduceIte, Nat.reduceAdd, Nat.reduceLeDiff, hS.var 0 rfl, hS.var 1 rfl]
      refine w_call h fun b17 hb17 h => ?_
      refine impl_compareWork_w hb17 hS fun H hS => ?_
      try simp only [W, EE]
      refine seq_n hK16 ?_
      refine w_ret ?_
      refine fin_r2 hK0 rfl rfl ?_
      try obtain rfl := Option.some.inj h
      exact hP _ (hS.sel 2 [] (by decide))
theorem spec_DrawLessWork_w {a0 : List Int} {r : (Work × Work)} (h : spec_DrawLessWork a0 = some r) {F : List It} {H : Heap} (hS : Own H (F)) {P : AV → Heap → Prop} (hP : ∀ H', Own H' (F) → P (.tup [.agg [.int .i64 r.1.End, .int .i64 r.1.Rank, .int .i64 r.1.Id], .agg [.int .i64 r.2.End, .int .i64 r.2.Rank, .int .i64 r.2.Id]]) H') : ACall C 102 [.fz (a0.map (AV.int .u8))] H P := by
  refine acall_of gC (res := [.cell 2 118, .cell 3 118]) (n := 12) rfl rfl rfl rfl fun K0 hK0 => ?_
  simp only [W, Nat.reduceSub, Nat.reduceAdd, List.replicate]
  unfold spec_DrawLessWork at h
  refine w_seq fun K1 hK1 => ?_
  refine w_reg gC ?_
  try simp only [W, Nat.reduceAdd]
  refine w_alloc hS rfl rfl fun ip2 wp2 H hS => ?_
  try simp only [W]
  refine w_alloc hS rfl rfl fun ip4 wp4 H hS => ?_
  try simp only [W]
  refine seq_n hK1 ?_
  refine w_seq fun K6 hK6 => ?_
  refine w_reg gC ?_
  try simp only [W, EE, Nat.reduceAdd]
  refine w_bld rfl rfl rfl rfl rfl ?_
  try simp only [W]
  refine w_box hS rfl rfl rfl rfl fun ip7 wp7 H hS => ?_
  try simp only [W]
  refine seq_n hK6 ?_
  refine w_seq fun K9 hK9 => ?_
  refine w_reg gC ?_
  try simp only [W, Nat.reduceAdd]
  refine w_call h fun b10 hb10 h => ?_
  obtain ⟨b11, b12⟩ := b10
  try dsimp only at h
  refine spec_l1Cur_work_w hb10 hS fun H hS => ?_
  try simp only [W]
  refine w_call h fun b13 hb13 h => ?_
  obtain ⟨b14, b15⟩ := b13
  try dsimp only at h
  refine spec_l1Cur_work_w hb13 hS fun H hS => ?_
  try simp only [W]
  refine w_stv (a := .agg [.int .i64 b11.End, .int .i64 b11.Rank, .int .i64 b11.Id]) (y' := .agg [.int .i64 b11.End, .int .i64 b11.Rank, .int .i64 b11.Id]) 2 hS rfl rfl rfl rfl rfl rfl rfl rfl fun H hS => ?_
  try simp only [W]
  refine w_stv (a := .agg [.int .i64 b14.End, .int .i64 b14.Rank, .int .i64 b14.Id]) (y' := .agg [.int .i64 b14.End, .int .i64 b14.Rank, .int .i64 b14.Id]) 1 hS rfl rfl rfl rfl rfl rfl rfl rfl fun H hS => ?_
  try simp only [W]
  refine seq_n hK9 ?_
  refine w_ret ?_
  refine fin_r hK0 (res_c rfl rfl (hS.var 2 rfl) rfl (res_c rfl rfl (hS.var 1 rfl) rfl rfl)) ?_
  try obtain rfl := Option.some.inj h
  exact hP _ (hS.sel 3 [] (by decide))
theorem spec_LessWork_w {a0 : Work} {a1 : Work} {r : (Bool × Bool)} (h : spec_LessWork a0 a1 = some r) {F : List It} {H : Heap} (hS : Own H (F)) {P : AV → Heap → Prop} (hP : ∀ H', Own H' (F) → P (.tup [.bool r.1, .bool r.2]) H') : ACall C 103 [.agg [.int .i64 a0.End, .int .i64 a0.Rank, .int .i64 a0.Id], .agg [.int .i64 a1.End, .int .i64 a1.Rank, .int .i64 a1.Id]] H P := by
  refine acall_of gC (res := [.tmp 4, .tmp 5]) (n := 17) rfl rfl rfl rfl fun K0 hK0 => ?_
  simp only [W, Nat.reduceSub, Nat.reduceAdd, List.replicate]
  unfold spec_LessWork at h
  refine w_seq fun K1 hK1 => ?_
  refine w_reg gC ?_
  try simp only [W, Nat.reduceAdd]
  refine w_box hS rfl rfl rfl rfl fun ip2 wp2 H hS => ?_
  try simp only [W]
  refine w_box hS rfl rfl rfl rfl fun ip4 wp4 H hS => ?_
  try simp only [W]
  refine seq_n hK1 ?_
  refine w_seq fun K6 hK6 => ?_
  refine w_seq fun K7 hK7 => ?_
  obtain ⟨y9, h, g10⟩ := Option.bind_eq_some_iff.1 h
  refine w_join gC (fun s H => ∃ x8 : Bool, y9 = (x8) ∧ s = [u, u, .ptr ip2 wp2 0 0, .ptr ip4 wp4 0 0, u, u, u, u, u, u, u, u, u, .bool x8, u, u, u] ∧ Own H (⟨.ptr ip2 wp2 0 0, 3, [.agg [.int .i64 a0.End, .int .i64 a0.Rank, .int .i64 a0.Id]]⟩ :: ⟨.ptr ip4 wp4 0 0, 3, [.agg [.int .i64 a1.End, .int .i64 a1.Rank, .int .i64 a1.Id]]⟩ :: F)) (fun K11 hK11 => ?_) (fun s H hq => ?_)
  · refine w_seq fun K12 hK12 => ?_
    refine w_reg gC ?_
    try simp only [W, EE, reduceIte, Nat.reduceAdd, Nat.reduceLeDiff, hS.var 1 rfl]
    refine w_call h fun b13 hb13 h => ?_
    refine spec_l3Work_w hb13 hS fun H hS => ?_
    try simp only [W]
    refine w_grdT h (fun hc h => ?_) (fun hc h => ?_)
    · try simp only [W, hc]
      refine seq_n hK12 ?_
      refine w_kill ?_
      exact cut_n hK11 ⟨_, (Option.some.inj h).symm, rfl, (hS.sel 2 [1, 0] (by decide))⟩
    · try simp only [W, EE, reduceIte, Nat.reduceAdd, Nat.reduceLeDiff, hS.var 0 rfl, hc]
      refine w_call h fun b14 hb14 h => ?_
      refine spec_l3Work_w hb14 hS fun H hS => ?_
      try simp only [W, reduceIte, Bool.false_eq_true]
      refine seq_n hK12 ?_
      refine w_kill ?_
      exact cut_n hK11 ⟨_, (Option.some.inj h).symm, rfl, (hS.sel 2 [1, 0] (by decide))⟩
  · obtain ⟨x8, ey, rfl, hS⟩ := hq; obtain rfl := ey.symm
    replace h := g10
    try dsimp only at h
    refine seq_n hK7 ?_
    refine w_if ?_
    simp only [W]
    refine w_cnd h (fun hc h => ?_) (fun hc h => ?_)
    · refine w_seq fun K15 hK15 => ?_
      refine w_reg gC ?_
      try simp only [W, Nat.reduceAdd]
      refine seq_n hK15 ?_
      refine w_ret ?_
      refine seq_r hK6 ?_
      refine fin_r2 hK0 rfl rfl ?_
      try obtain rfl := Option.some.inj h
      exact hP _ (hS.sel 2 [] (by decide))
    · refine w_skip ?_
      refine seq_n hK6 ?_
      refine w_seq fun K16 hK16 => ?_
      refine w_reg gC ?_
      try simp only [W, EE, reduceIte, Nat.reduceAdd, Nat.reduceLeDiff, hS.var 0 rfl, hS.var 1 rfl]
      refine w_call h fun b17 hb17 h => ?_
      refine spec_l3Less_w hb17 hS fun H hS => ?_
      try simp only [W]
      refine seq_n hK16 ?_
      refine w_ret ?_
      refine fin_r2 hK0 rfl rfl ?_
      try obtain rfl := Option.some.inj h
      exact hP _ (hS.sel 2 [] (by decide))
theorem laws_FnSorted_w {a0 : List Int} {a1 : List Int} {r : (Bool)} (h : laws_FnSorted a0 a1 = some r) {F : List It} {H : Heap} (hS : Own H (F)) {P : AV → Heap → Prop} (hP : ∀ H', Own H' (F) → P (.bool r) H') : ACall C 11 [.fz (a0.map (AV.int .u8)), .fz (a1.map (AV.int .u8))] H P := by
  refine acall_of gC (res := [.tmp 4]) (n := 236) rfl rfl rfl rfl fun K0 hK0 => ?_
  simp only [W, Nat.reduceSub, Nat.reduceAdd, List.replicate]
  unfold laws_FnSorted at h
  refine w_seq fun K1 hK1 => ?_
  refine w_reg gC ?_
  try simp only [W, Nat.reduceAdd]
  refine seq_n hK1 ?_
  refine w_seq fun K2 hK2 => ?_
  refine w_seq fun K3 hK3 => ?_
  refine w_reg gC ?_
  try simp only [W, EE, Nat.reduceAdd]
  refine seq_n hK3 ?_
  refine w_if ?_
  simp only [W]
  refine w_cnd h (fun hc h => ?_) (fun hc h => ?_)
  · refine w_seq fun K4 hK4 => ?_
    refine w_reg gC ?_
    try simp only [W, Nat.reduceAdd]
    refine seq_n hK4 ?_
    refine w_ret ?_
    refine seq_r hK2 ?_
    refine fin_r1 hK0 rfl ?_
    try obtain rfl := Option.some.inj h
    exact hP _ hS
  · refine w_skip ?_
    refine seq_n hK2 ?_
    refine w_seq fun K5 hK5 => ?_
    refine w_reg gC ?_
    try simp only [W, Nat.reduceAdd]
    refine w_call h fun b6 hb6 h => ?_
    refine spec_DrawMakeHeap_w hb6 hS fun v7 qv7 H hS => ?_
    try simp only [W]
    refine seq_n hK5 ?_
    refine w_seq fun K9 hK9 => ?_
    refine w_reg gC ?_
    try simp only [W, Nat.reduceAdd, Nat.reduceBEq, List.contains_cons, Nat.reduceBEq, Bool.or_self]
    refine w_callO (rsh := [[.sl [.sc, .sc, .sc]], [.sc]]) (ys := [.fz (b6.map e_Work)]) h rfl (pv_c (sn_ow hS 0 rfl qv7 (fun _ => rfl)) pv_n) fun b10 hb10 h => ⟨.tup [.own 3 (b10.1.map e_Work), .bool b10.2], impl_MakeHeap_w hb10 (Own.nil _) fun v13 qv13 H hS => TV_ok rfl (TV_o 0 hS rfl qv13 (fun _ _ => by simp [takeE, takeT, takeC, plainA, e_Work]) fun H hS => TV_p rfl (TV_n rfl)), (nf_t (nf_c (noFz_o _ (fun _ => rfl) _) (nf_c rfl nf_n))), ?_⟩
    refine thaw_tup ?_
    refine TH_o hS (fun _ _ => rfl) (fun _ => rfl) fun v15 H qv15 hS => ?_
    refine TH_p (fun _ => rfl) ?_
    refine TH_n ?_
    try simp only [List.headD_cons]
    obtain ⟨b11, b12⟩ := b10
    try dsimp only at h
    try simp only [W]
    refine seq_n hK9 ?_
    refine w_seq fun K16 hK16 => ?_
    refine w_reg gC ?_
    try simp only [W, Nat.reduceAdd, Nat.reduceBEq, List.contains_cons, Nat.reduceBEq, Bool.or_self]
    refine w_callO (rsh := [[.sl [.sc, .sc, .sc]], [.sc]]) (ys := [.fz (b6.map e_Work)]) h rfl (pv_c (sn_ow hS 1 rfl qv7 (fun _ => rfl)) pv_n) fun b17 hb17 h => ⟨.tup [.own 3 (b17.1.map e_Work), .bool b17.2], spec_MakeHeap_w hb17 (Own.nil _) fun v20 qv20 H hS => TV_ok rfl (TV_o 0 hS rfl qv20 (fun _ _ => by simp [takeE, takeT, takeC, plainA, e_Work]) fun H hS => TV_p rfl (TV_n rfl)), (nf_t (nf_c (noFz_o _ (fun _ => rfl) _) (nf_c rfl nf_n))), ?_⟩
    refine thaw_tup ?_
    refine TH_o hS (fun _ _ => rfl) (fun _ => rfl) fun v22 H qv22 hS => ?_
    refine TH_p (fun _ => rfl) ?_
    refine TH_n ?_
    try simp only [List.headD_cons]
    obtain ⟨b18, b19⟩ := b17
    try dsimp only at h
    try simp only [W]
    refine seq_n hK16 ?_
    refine w_seq fun K23 hK23 => ?_
    refine w_reg gC ?_
    try simp only [W, Nat.reduceAdd]
    refine w_callS (rsh := [[.sc], [.sc]]) (ys := [.fz (b6.map e_Work)]) h rfl (pv_c (sn_ow hS 2 rfl qv7 (fun _ => rfl)) pv_n) fun b24 hb24 h => ⟨.tup [.int .i64 b24.1, .bool b24.2], impl_StepsToMake_w hb24 (Own.nil _) fun H hS => TV_ok rfl (TV_p rfl (TV_p rfl (TV_n rfl))), ⟨rfl, rfl, fun _ => rfl⟩, ?_⟩
    obtain ⟨b25, b26⟩ := b24
    try dsimp only at h
    try simp only [W]
    refine seq_n hK23 ?_
    refine w_seq fun K27 hK27 => ?_
    refine w_reg gC ?_
    try simp only [W, Nat.reduceAdd]
    refine w_callS (rsh := [[.sc], [.sc]]) (ys := [.fz (b6.map e_Work)]) h rfl (pv_c (sn_ow hS 2 rfl qv7 (fun _ => rfl)) pv_n) fun b28 hb28 h => ⟨.tup [.int .i64 b28.1, .bool b28.2], spec_StepsToMake_w hb28 (Own.nil _) fun H hS => TV_ok rfl (TV_p rfl (TV_p rfl (TV_n rfl))), ⟨rfl, rfl, fun _ => rfl⟩, ?_⟩
    obtain ⟨b29, b30⟩ := b28
    try dsimp only at h
    try simp only [W]
    refine seq_n hK27 ?_
    refine w_seq fun K31 hK31 => ?_
    refine w_reg gC ?_
    try simp only [W, Nat.reduceAdd, Nat.reduceBEq, List.contains_cons, Nat.reduceBEq, Bool.or_self]
    refine w_callO (rsh := [[.sl [.sc, .sc, .sc]], [.sc]]) (ys := [.fz (b6.map e_Work)]) h rfl (pv_c (sn_ow hS 2 rfl qv7 (fun _ => rfl)) pv_n) fun b32 hb32 h => ⟨.tup [.own 3 (b32.1.map e_Work), .bool b32.2], impl_SortWork_w hb32 (Own.nil _) fun v35 qv35 H hS => TV_ok rfl (TV_o 0 hS rfl qv35 (fun _ _ => by simp [takeE, takeT, takeC, plainA, e_Work]) fun H hS => TV_p rfl (TV_n rfl)), (nf_t (nf_c (noFz_o _ (fun _ => rfl) _) (nf_c rfl nf_n))), ?_⟩
    refine thaw_tup ?_
    refine TH_o hS (fun _ _ => rfl) (fun _ => rfl) fun v37 H qv37 hS => ?_
    refine TH_p (fun _ => rfl) ?_
    refine TH_n ?_
    try simp only [List.headD_cons]
    obtain ⟨b33, b34⟩ := b32
    try dsimp only at h
    try simp only [W]
    refine seq_n hK31 ?_
    refine w_seq fun K38 hK38 => ?_
    refine w_reg gC ?_
    try simp only [W, Nat.reduceAdd, Nat.reduceBEq, List.contains_cons, Nat.reduceBEq, Bool.or_self]
    refine w_callO (rsh := [[.sl [.sc, .sc, .sc]], [.sc]]) (ys := [.fz (b6.map e_Work)]) h rfl (pv_c (sn_ow hS 3 rfl qv7 (fun _ => rfl)) pv_n) fun b39 hb39 h => ⟨.tup [.own 3 (b39.1.map e_Work), .bool b39.2], spec_SortWork_w hb39 (Own.nil _) fun v42 qv42 H hS => TV_ok rfl (TV_o 0 hS rfl qv42 (fun _ _ => by simp [takeE, takeT, takeC, plainA, e_Work]) fun H hS => TV_p rfl (TV_n rfl)), (nf_t (nf_c (noFz_o _ (fun _ => rfl) _) (nf_c rfl nf_n))), ?_⟩
    refine thaw_tup ?_
    refine TH_o hS (fun _ _ => rfl) (fun _ => rfl) fun v44 H qv44 hS => ?_
    refine TH_p (fun _ => rfl) ?_
    refine TH_n ?_
    try simp only [List.headD_cons]
    obtain ⟨b40, b41⟩ := b39
    try dsimp only at h
    try simp only [W]
    refine seq_n hK38 ?_
    refine w_seq fun K45 hK45 => ?_
    refine w_seq fun K46 hK46 => ?_
    obtain ⟨y48, h, g49⟩ := Option.bind_eq_some_iff.1 h
    refine w_join gC (fun s H => ∃ x47 : Bool, y48 = (x47) ∧ s = [u, .fz (a1.map (AV.int .u8)), u, u, u, v7, v15, .bool b12, u, u, .int .i64 b25, .bool b26, u, u, v37, .bool b34, u, u, u, u, u, u, u, u, u, u, u, u, u, u, u, u, u, u, u, u, u, u, u, u, u, u, u, u, u, u, u, u, u, u, u, u, u, u, u, u, u, u, u, u, u, u, u, u, u, u, u, u, u, u, u, u, u, u, u, u, u, u, u, u, u, u, u, u, u, u, u, u, u, u, u, u, u, u, u, u, u, u, u, .bool x47, u, u, u, u, u, u, u, u, u, u, u, u, u, u, u, u, u, u, u, u, u, u, u, u, u, u, u, u, u, u, u, u, u, u, u, u, u, u, u, u, u, u, u, u, u, u, u, u, u, u, u, u, u, u, u, u, u, u, u, u, u, u, u, u, u, u, u, u, u, u, u, u, u, u, u, u, u, u, u, u, u, u, u, u, u, u, u, u, u, u, u, u, u, u, u, u, u, u, u, u, u, u, u, u, u, u, u, u, u, u, u, u, u, u, u, u, u, u, u, u, u, u, u, u, u, u, u, u, u, u, u, u, u, u, u, u] ∧ Own H (⟨v7, 3, b6.map e_Work⟩ :: ⟨v15, 3, b11.map e_Work⟩ :: ⟨v37, 3, b33.map e_Work⟩ :: F)) (fun K50 hK50 => ?_) (fun s H hq => ?_)
    · refine w_seq fun K51 hK51 => ?_
      refine w_reg gC ?_
      try simp only [W, EE, Nat.reduceAdd]
      rw [b_bneq _ _ _ _ (h := rfl) rfl, resV_s]
      try simp only [W]
      refine w_grdT h (fun hc h => ?_) (fun hc h => ?_)
      · try simp only [W, hc]
        refine seq_n hK51 ?_
        refine w_kill ?_
        exact cut_n hK50 ⟨_, (Option.some.inj h).symm, rfl, (hS.sel 5 [4, 3, 1] (by decide))⟩
      · try simp only [W, hc]
        refine w_callS (rsh := [[.sc]]) (ys := [.fz (b11.map e_Work), .fz (b18.map e_Work)]) h rfl (pv_c (sn_ow hS 3 rfl qv15 (fun _ => rfl)) (pv_c (sn_ow hS 2 rfl qv22 (fun _ => rfl)) pv_n)) fun b52 hb52 h => ⟨.bool b52, laws_sameWorks_w hb52 (Own.nil _) fun H hS => TV_ok rfl (TV_p rfl (TV_n rfl)), ⟨rfl, rfl, fun _ => rfl⟩, ?_⟩
        try simp only [W, reduceIte, Bool.false_eq_true]
        refine w_grdT h (fun hc h => ?_) (fun hc h => ?_)
        · try simp only [W, hc]
          refine seq_n hK51 ?_
          refine w_kill ?_
          exact cut_n hK50 ⟨_, (Option.some.inj h).symm, rfl, (hS.sel 5 [4, 3, 1] (by decide))⟩
        · try simp only [W, EE, hc]
          rw [b_bneq _ _ _ _ (h := rfl) rfl, resV_s]
          try simp only [W, reduceIte, Bool.false_eq_true]
          refine w_grdT h (fun hc h => ?_) (fun hc h => ?_)
          · try simp only [W, hc]
            refine seq_n hK51 ?_
            refine w_kill ?_
            exact cut_n hK50 ⟨_, (Option.some.inj h).symm, rfl, (hS.sel 5 [4, 3, 1] (by decide))⟩
          · try simp only [W, EE, reduceIte, Bool.false_eq_true, hc]
            refine w_grdT h (fun hc h => ?_) (fun hc h => ?_)
            · try simp only [W, hc]
              refine seq_n hK51 ?_
              refine w_kill ?_
              exact cut_n hK50 ⟨_, (Option.some.inj h).symm, rfl, (hS.sel 5 [4, 3, 1] (by decide))⟩
            · try simp only [W, EE, hc]
              rw [b_bneq _ _ _ _ (h := rfl) rfl, resV_s]
              try simp only [W, reduceIte, Bool.false_eq_true]
              refine w_grdT h (fun hc h => ?_) (fun hc h => ?_)
              · try simp only [W, hc]
                refine seq_n hK51 ?_
                refine w_kill ?_
                exact cut_n hK50 ⟨_, (Option.some.inj h).symm, rfl, (hS.sel 5 [4, 3, 1] (by decide))⟩
              · try simp only [W, hc]
                refine w_callS (rsh := [[.sc]]) (ys := [.fz (b33.map e_Work), .fz (b40.map e_Work)]) h rfl (pv_c (sn_ow hS 1 rfl qv37 (fun _ => rfl)) (pv_c (sn_ow hS 0 rfl qv44 (fun _ => rfl)) pv_n)) fun b53 hb53 h => ⟨.bool b53, laws_sameWorks_w hb53 (Own.nil _) fun H hS => TV_ok rfl (TV_p rfl (TV_n rfl)), ⟨rfl, rfl, fun _ => rfl⟩, ?_⟩
                try simp only [W, reduceIte, Bool.false_eq_true]
                refine seq_n hK51 ?_
                refine w_kill ?_
                exact cut_n hK50 ⟨_, (Option.some.inj h).symm, rfl, (hS.sel 5 [4, 3, 1] (by decide))⟩
    · obtain ⟨x47, ey, rfl, hS⟩ := hq; obtain rfl := ey.symm
      replace h := g49
      try dsimp only at h
      refine seq_n hK46 ?_
      refine w_if ?_
      simp only [W]
      refine w_cnd h (fun hc h => ?_) (fun hc h => ?_)
      · refine w_seq fun K54 hK54 => ?_
        refine w_reg gC ?_
        try simp only [W, Nat.reduceAdd]
        refine seq_n hK54 ?_
        refine w_ret ?_
        refine seq_r hK45 ?_
        refine fin_r1 hK0 rfl ?_
        try obtain rfl := Option.some.inj h
        exact hP _ (hS.sel 3 [] (by decide))
      · refine w_skip ?_
        refine seq_n hK45 ?_
        refine w_seq fun K55 hK55 => ?_
        refine w_seq fun K56 hK56 => ?_
        refine w_reg gC ?_
        try simp only [W, Nat.reduceAdd]
        refine seq_n hK56 ?_
        obtain ⟨y57, h, g58⟩ := Option.bind_eq_some_iff.1 h
        refine w_join gC (fun s H => y57 = LR.next () ∧ s = [u, .fz (a1.map (AV.int .u8)), u, u, u, u, u, u, u, u, u, u, u, u, u, u, u, u, u, u, u, u, u, u, u, u, u, u, u, u, u, u, u, u, u, u, u, u, u, u, u, u, u, u, u, u, u, u, u, u, u, u, u, u, u, u, u, u, u, u, u, u, u, u, u, u, u, u, u, u, u, u, u, u, u, u, u, u, u, u, u, u, u, u, u, u, u, u, u, u, u, u, u, u, u, u, u, u, u, u, u, u, u, u, u, u, u, u, u, u, u, u, u, u, u, u, u, u, u, u, u, u, u, u, u, u, u, u, u, u, u, u, u, u, u, u, u, u, u, u, u, u, u, u, u, u, u, u, u, u, u, u, u, u, u, u, u, u, u, u, u, u, u, u, u, u, u, u, u, u, u, u, u, u, u, u, u, u, u, u, u, u, u, u, u, u, u, u, u, u, u, u, u, u, u, u, u, u, u, u, u, u, u, u, u, u, u, u, u, u, u, u, u, u, u, u, u, u, u, u, u, u, u, u, u, u, u, u, u, u, u, u, u, u, u, u] ∧ Own H (F)) (fun K59 hK59 => ?_) (fun s H hq => ?_)
        · refine w_seq fun K60 hK60 => ?_
          refine w_if ?_
          simp only [W]
          refine w_cnd h (fun hc h => ?_) (fun hc h => ?_)
          · refine w_seq fun K61 hK61 => ?_
            refine w_reg gC ?_
            try simp only [W, Nat.reduceAdd]
            refine w_callS (rsh := [[.sc], [.sc]]) (ys := [.fz (b11.map e_Work)]) h rfl (pv_c (sn_ow hS 1 rfl qv15 (fun _ => rfl)) pv_n) fun b62 hb62 h => ⟨.tup [.bool b62.1, .bool b62.2], impl_IsHeap_w hb62 (Own.nil _) fun H hS => TV_ok rfl (TV_p rfl (TV_p rfl (TV_n rfl))), ⟨rfl, rfl, fun _ => rfl⟩, ?_⟩
            obtain ⟨b63, b64⟩ := b62
            try dsimp only at h
            try simp only [W]
            refine seq_n hK61 ?_
            refine w_seq fun K65 hK65 => ?_
            refine w_seq fun K66 hK66 => ?_
            obtain ⟨y68, h, g69⟩ := Option.bind_eq_some_iff.1 h
            refine w_join gC (fun s H => ∃ x67 : Bool, y68 = (x67) ∧ s = [u, .fz (a1.map (AV.int .u8)), u, u, u, v7, v15, u, u, u, u, u, u, u, v37, u, u, u, u, u, u, u, u, u, u, u, u, u, u, u, u, u, u, u, u, u, u, u, u, u, u, u, u, u, u, u, u, u, u, u, u, u, u, u, u, u, u, u, u, u, u, u, u, u, u, u, u, u, u, u, u, u, u, u, u, u, u, u, u, u, u, u, u, u, u, u, u, u, u, u, u, u, u, u, u, u, u, u, u, u, u, u, u, u, u, u, u, u, u, u, u, u, u, u, u, u, u, u, u, u, u, u, u, u, u, u, u, u, u, u, u, u, u, u, u, u, u, u, u, u, u, u, u, .bool x67, u, u, u, u, u, u, u, u, u, u, u, u, u, u, u, u, u, u, u, u, u, u, u, u, u, u, u, u, u, u, u, u, u, u, u, u, u, u, u, u, u, u, u, u, u, u, u, u, u, u, u, u, u, u, u, u, u, u, u, u, u, u, u, u, u, u, u, u, u, u, u, u, u, u, u, u, u, u, u, u, u, u, u, u, u, u, u, u, u, u, u, u] ∧ Own H (⟨v7, 3, b6.map e_Work⟩ :: ⟨v15, 3, b11.map e_Work⟩ :: ⟨v37, 3, b33.map e_Work⟩ :: F)) (fun K70 hK70 => ?_) (fun s H hq => ?_)
            · refine w_seq fun K71 hK71 => ?_
              refine w_reg gC ?_
              try simp only [W, Nat.reduceAdd]
              refine w_grdT h (fun hc h => ?_) (fun hc h => ?_)
              · try simp only [W, hc]
                refine seq_n hK71 ?_
                refine w_kill ?_
                exact cut_n hK70 ⟨_, (Option.some.inj h).symm, rfl, hS⟩
              · try simp only [W, reduceIte, Bool.false_eq_true, hc]
                refine w_grdT h (fun hc h => ?_) (fun hc h => ?_)
                · try simp only [W, hc]
                  refine seq_n hK71 ?_
                  refine w_kill ?_
                  exact cut_n hK70 ⟨_, (Option.some.inj h).symm, rfl, hS⟩
                · try simp only [W, reduceIte, Bool.false_eq_true, hc]
                  refine w_grdT h (fun hc h => ?_) (fun hc h => ?_)
                  · try simp only [W, hc]
                    refine seq_n hK71 ?_
                    refine w_kill ?_
                    exact cut_n hK70 ⟨_, (Option.some.inj h).symm, rfl, hS⟩
                  · try simp only [W, EE, hc]
                    refine w_len 0 hS rfl qv7 rfl ?_
                    try simp only [W, EE, reduceIte, Bool.false_eq_true]
                    refine w_grdT h (fun hc h => ?_) (fun hc h => ?_)
                    · try simp only [W, hc]
                      refine seq_n hK71 ?_
                      refine w_kill ?_
                      exact cut_n hK70 ⟨_, (Option.some.inj h).symm, rfl, hS⟩
                    · try simp only [W, EE, hc]
                      refine w_len 0 hS rfl qv7 rfl ?_
                      try simp only [W, EE]
                      refine w_grdT h (fun hc h => ?_) (fun hc h => ?_)
                      · try simp only [W, EE, hc]
                        refine w_len 0 hS rfl qv7 rfl ?_
                        try simp only [W, EE, reduceIte, Bool.false_eq_true]
                        refine w_grdT h (fun hc h => ?_) (fun hc h => ?_)
                        · try simp only [W, hc]
                          refine seq_n hK71 ?_
                          refine w_kill ?_
                          exact cut_n hK70 ⟨_, (Option.some.inj h).symm, rfl, hS⟩
                        · try simp only [W, reduceIte, Bool.false_eq_true, hc]
                          refine w_grdT h (fun hc h => ?_) (fun hc h => ?_)
                          · try simp only [W, hc]
                            refine seq_n hK71 ?_
                            refine w_kill ?_
                            exact cut_n hK70 ⟨_, (Option.some.inj h).symm, rfl, hS⟩
                          · try simp only [W, EE, hc]
                            refine w_len 2 hS rfl qv37 rfl ?_
                            try simp only [W, EE]
                            refine w_len 0 hS rfl qv7 rfl ?_
                            try simp only [W, EE, reduceIte, Bool.false_eq_true]
                            refine seq_n hK71 ?_
                            refine w_kill ?_
                            exact cut_n hK70 ⟨_, (Option.some.inj h).symm, rfl, hS⟩
                      · try simp only [W, reduceIte, Bool.false_eq_true, hc]
                        refine w_grdT h (fun hc h => ?_) (fun hc h => ?_)
                        · try simp only [W, hc]
                          refine seq_n hK71 ?_
                          refine w_kill ?_
                          exact cut_n hK70 ⟨_, (Option.some.inj h).symm, rfl, hS⟩
                        · try simp only [W, EE, hc]
                          refine w_len 2 hS rfl qv37 rfl ?_
                          try simp only [W, EE]
                          refine w_len 0 hS rfl qv7 rfl ?_
                          try simp only [W, EE, reduceIte, Bool.false_eq_true]
                          refine seq_n hK71 ?_
                          refine w_kill ?_
                          exact cut_n hK70 ⟨_, (Option.some.inj h).symm, rfl, hS⟩
            · obtain ⟨x67, ey, rfl, hS⟩ := hq; obtain rfl := ey.symm
              replace h := g69
              try dsimp only at h
              refine seq_n hK66 ?_
              refine w_if ?_
              simp only [W]
              refine w_cnd h (fun hc h => ?_) (fun hc h => ?_)
              · refine w_seq fun K72 hK72 => ?_
                refine w_reg gC ?_
                try simp only [W, Nat.reduceAdd]
                refine seq_n hK72 ?_
                refine w_ret ?_
                refine seq_r hK65 ?_
                refine seq_r hK60 ?_
                try obtain rfl := Option.some.inj h
                obtain rfl := Option.some.inj g58
                have h : (some false : Option (Bool)) = some false := rfl
                refine cut_r hK59 ?_
                refine seq_r hK55 ?_
                refine fin_r1 hK0 rfl ?_
                try obtain rfl := Option.some.inj h
                exact hP _ (hS.sel 3 [] (by decide))
              · refine w_skip ?_
                refine seq_n hK65 ?_
                refine w_seq fun K75 hK75 => ?_
                refine w_reg gC ?_
                try simp only [W, EE, Nat.reduceAdd]
                refine w_len 2 hS rfl qv37 rfl ?_
                try simp only [W]
                refine seq_n hK75 ?_
                obtain ⟨y77, hw78, g84⟩ := Option.bind_eq_some_iff.1 h
                refine w_join gC (fun s H => y77 = LR.next () ∧ s = [u, .fz (a1.map (AV.int .u8)), u, u, u, u, u, u, u, u, u, u, u, u, u, u, u, u, u, u, u, u, u, u, u, u, u, u, u, u, u, u, u, u, u, u, u, u, u, u, u, u, u, u, u, u, u, u, u, u, u, u, u, u, u, u, u, u, u, u, u, u, u, u, u, u, u, u, u, u, u, u, u, u, u, u, u, u, u, u, u, u, u, u, u, u, u, u, u, u, u, u, u, u, u, u, u, u, u, u, u, u, u, u, u, u, u, u, u, u, u, u, u, u, u, u, u, u, u, u, u, u, u, u, u, u, u, u, u, u, u, u, u, u, u, u, u, u, u, u, u, u, u, u, u, u, u, u, u, u, u, u, u, u, u, u, u, u, u, u, u, u, u, u, u, u, u, u, u, u, u, u, u, u, u, u, u, u, u, u, u, u, u, u, u, u, u, u, u, u, u, u, u, u, u, u, u, u, u, u, u, u, u, u, u, u, u, u, u, u, u, u, u, u, u, u, u, u, u, u, u, u, u, u, u, u, u, u, u, u, u, u, u, u, u, u] ∧ Own H (F)) (fun K79 hK79 => ?_) (fun s H hq => ?_)
                · refine w_blk fun K80 hK80 => ?_
                  refine w_loop gC hw78 (fun x s H => s = [u, .fz (a1.map (AV.int .u8)), u, u, u, v7, v15, u, u, u, u, u, u, u, v37, u, u, u, u, u, u, u, u, u, u, u, u, u, u, u, u, u, u, u, u, u, u, u, u, u, u, u, u, u, u, u, u, u, u, u, u, u, u, u, u, u, u, u, u, u, u, u, u, u, u, u, u, u, u, u, u, u, u, u, u, u, u, u, u, u, u, u, u, u, u, u, u, u, u, u, u, u, u, u, u, u, u, u, u, u, u, u, u, u, u, u, u, u, u, u, u, u, u, u, u, u, u, u, u, u, u, u, u, u, u, u, u, u, u, u, u, u, u, u, u, u, u, u, u, u, u, u, u, u, v37, .int .i64 (b33.length : Int), .int .i64 x, u, u, u, u, u, u, u, u, u, u, u, u, u, u, u, u, u, u, u, u, u, u, u, u, u, u, u, u, u, u, u, u, u, u, u, u, u, u, u, u, u, u, u, u, u, u, u, u, u, u, u, u, u, u, u, u, u, u, u, u, u, u, u, u, u, u, u, u, u, u, u, u, u, u, u, u, u, u, u, u, u, u, u, u, u, u, u, u, u] ∧ Own H (⟨v7, 3, b6.map e_Work⟩ :: ⟨v15, 3, b11.map e_Work⟩ :: ⟨v37, 3, b33.map e_Work⟩ :: F)) ⟨rfl, hS⟩ (fun x76 y83 s H h hd82 hi K81 hK81 => ?_)
                  skip
                  try dsimp only at hi
                  obtain ⟨rfl, hS⟩ := hi
                  simp only [laws_FnSorted_l0] at h
                  refine w_seq fun K85 hK85 => ?_
                  refine w_reg gC ?_
                  try simp only [W, EE, Nat.reduceAdd]
                  refine seq_n hK85 ?_
                  refine w_seq fun K86 hK86 => ?_
                  refine w_if ?_
                  simp only [W]
                  refine w_cnd h (fun hc h => ?_) (fun hc h => ?_)
                  · refine w_skip ?_
                    refine seq_n hK86 ?_
                    refine w_seq fun K87 hK87 => ?_
                    obtain ⟨y89, h, g90⟩ := Option.bind_eq_some_iff.1 h
                    refine w_join gC (fun s H => y89 = LR.next () ∧ s = [u, .fz (a1.map (AV.int .u8)), u, u, u, v7, v15, u, u, u, u, u, u, u, v37, u, u, u, u, u, u, u, u, u, u, u, u, u, u, u, u, u, u, u, u, u, u, u, u, u, u, u, u, u, u, u, u, u, u, u, u, u, u, u, u, u, u, u, u, u, u, u, u, u, u, u, u, u, u, u, u, u, u, u, u, u, u, u, u, u, u, u, u, u, u, u, u, u, u, u, u, u, u, u, u, u, u, u, u, u, u, u, u, u, u, u, u, u, u, u, u, u, u, u, u, u, u, u, u, u, u, u, u, u, u, u, u, u, u, u, u, u, u, u, u, u, u, u, u, u, u, u, u, u, v37, .int .i64 (b33.length : Int), .int .i64 x76, u, u, u, u, u, u, u, u, u, u, u, u, u, u, u, u, u, u, u, u, u, u, u, u, u, u, u, u, u, u, u, u, u, u, u, u, u, u, u, u, u, u, u, u, u, u, u, u, u, u, u, u, u, u, u, u, u, u, u, u, u, u, u, u, u, u, u, u, u, u, u, u, u, u, u, u, u, u, u, u, u, u, u, u, u, u, u, u, u] ∧ Own H (⟨v7, 3, b6.map e_Work⟩ :: ⟨v15, 3, b11.map e_Work⟩ :: ⟨v37, 3, b33.map e_Work⟩ :: F)) (fun K91 hK91 => ?_) (fun s H hq => ?_)
                    · refine w_blk fun K88 hK88 => ?_
                      refine w_seq fun K92 hK92 => ?_
                      refine w_reg gC ?_
                      try simp only [W, EE, Nat.reduceAdd]
                      refine w_ow 2 hS rfl rfl rfl rfl rfl h (fun b93 in94 wn94 on94 hb93 h en94 => ?_) qv37.ne
                      obtain ⟨kn94, hbn94, hen94⟩ := hS.elem 2 rfl en94 hb93
                      try simp only [W, EE, EN, reduceIte, Nat.reduceAdd, Nat.reduceLeDiff, hbn94, hen94]
                      refine w_alloc hS rfl rfl fun ip95 wp95 H hS => ?_
                      try simp only [W]
                      refine w_stv (a := .agg [.int .i64 b93.End, .int .i64 b93.Rank, .int .i64 b93.Id]) (y' := .agg [.int .i64 b93.End, .int .i64 b93.Rank, .int .i64 b93.Id]) 0 hS rfl rfl rfl rfl rfl rfl rfl rfl fun H hS => ?_
                      try simp only [W]
                      refine seq_n hK92 ?_
                      refine w_seq fun K97 hK97 => ?_
                      refine w_seq fun K98 hK98 => ?_
                      obtain ⟨y100, h, g101⟩ := Option.bind_eq_some_iff.1 h
                      refine w_join gC (fun s H => ∃ x99 : Bool, y100 = (x99) ∧ s = [u, .fz (a1.map (AV.int .u8)), u, u, u, v7, v15, u, u, u, u, u, u, u, v37, u, u, u, u, u, .int .i64 x76, .ptr ip95 wp95 0 0, u, u, u, u, u, u, u, u, u, u, u, u, u, u, u, u, u, u, u, u, u, u, u, u, u, u, u, u, u, u, u, u, u, u, u, u, u, u, u, u, u, u, u, u, u, u, u, u, u, u, u, u, u, u, u, u, u, u, u, u, u, u, u, u, u, u, u, u, u, u, u, u, u, u, u, u, u, u, u, u, u, u, u, u, u, u, u, u, u, u, u, u, u, u, u, u, u, u, u, u, u, u, u, u, u, u, u, u, u, u, u, u, u, u, u, u, u, u, u, u, u, u, v37, .int .i64 (b33.length : Int), .int .i64 x76, u, u, u, u, u, u, u, u, u, u, u, u, u, u, u, u, u, u, u, .bool x99, u, u, u, u, u, u, u, u, u, u, u, u, u, u, u, u, u, u, u, u, u, u, u, u, u, u, u, u, u, u, u, u, u, u, u, u, u, u, u, u, u, u, u, u, u, u, u, u, u, u, u, u, u, u, u, u, u, u, u, u, u, u, u, u, u, u, u, u, u] ∧ Own H (⟨v7, 3, b6.map e_Work⟩ :: ⟨v15, 3, b11.map e_Work⟩ :: ⟨v37, 3, b33.map e_Work⟩ :: ⟨.ptr ip95 wp95 0 0, 3, [.agg [.int .i64 b93.End, .int .i64 b93.Rank, .int .i64 b93.Id]]⟩ :: F)) (fun K102 hK102 => ?_) (fun s H hq => ?_)
                      · refine w_seq fun K103 hK103 => ?_
                        refine w_draw0 gC (by kernel_rfl) ?_
                        try simp only [W, EE, reduceIte, Nat.reduceAdd, Nat.reduceLeDiff, hS.var 0 rfl]
                        refine w_callS (rsh := [[.sc]]) (ys := [.fz (b33.map e_Work), .agg [.int .i64 b93.End, .int .i64 b93.Rank, .int .i64 b93.Id]]) h rfl (pv_c (sn_ow hS 3 rfl qv37 (fun _ => rfl)) (pv_c rfl pv_n)) fun b104 hb104 h => ⟨.int .i64 b104, laws_manyOf_w hb104 (Own.nil _) fun H hS => TV_ok rfl (TV_p rfl (TV_n rfl)), ⟨rfl, rfl, fun _ => rfl⟩, ?_⟩
                        try simp only [W, EE, reduceIte, Nat.reduceAdd, Nat.reduceLeDiff, hS.var 0 rfl]
                        refine w_callS (rsh := [[.sc]]) (ys := [.fz (b6.map e_Work), .agg [.int .i64 b93.End, .int .i64 b93.Rank, .int .i64 b93.Id]]) h rfl (pv_c (sn_ow hS 1 rfl qv7 (fun _ => rfl)) (pv_c rfl pv_n)) fun b105 hb105 h => ⟨.int .i64 b105, laws_manyOf_w hb105 (Own.nil _) fun H hS => TV_ok rfl (TV_p rfl (TV_n rfl)), ⟨rfl, rfl, fun _ => rfl⟩, ?_⟩
                        try simp only [W, EE]
                        refine w_grdT h (fun hc h => ?_) (fun hc h => ?_)
                        · try simp only [W, hc]
                          refine seq_n hK103 ?_
                          refine w_kill ?_
                          exact cut_n hK102 ⟨_, (Option.some.inj h).symm, rfl, (hS.sel 4 [1, 2, 3, 0] (by decide))⟩
                        · try simp only [W, EE, reduceIte, Nat.reduceAdd, Nat.reduceLeDiff, hS.var 0 rfl, hc]
                          refine w_callS (rsh := [[.sc]]) (ys := [.fz (b11.map e_Work), .agg [.int .i64 b93.End, .int .i64 b93.Rank, .int .i64 b93.Id]]) h rfl (pv_c (sn_ow hS 2 rfl qv15 (fun _ => rfl)) (pv_c rfl pv_n)) fun b106 hb106 h => ⟨.int .i64 b106, laws_manyOf_w hb106 (Own.nil _) fun H hS => TV_ok rfl (TV_p rfl (TV_n rfl)), ⟨rfl, rfl, fun _ => rfl⟩, ?_⟩
                          try simp only [W, EE, reduceIte, Nat.reduceAdd, Nat.reduceLeDiff, hS.var 0 rfl]
                          refine w_callS (rsh := [[.sc]]) (ys := [.fz (b6.map e_Work), .agg [.int .i64 b93.End, .int .i64 b93.Rank, .int .i64 b93.Id]]) h rfl (pv_c (sn_ow hS 1 rfl qv7 (fun _ => rfl)) (pv_c rfl pv_n)) fun b107 hb107 h => ⟨.int .i64 b107, laws_manyOf_w hb107 (Own.nil _) fun H hS => TV_ok rfl (TV_p rfl (TV_n rfl)), ⟨rfl, rfl, fun _ => rfl⟩, ?_⟩
                          try simp only [W, EE, reduceIte, Bool.false_eq_true]
                          refine seq_n hK103 ?_
                          refine w_kill ?_
                          exact cut_n hK102 ⟨_, (Option.some.inj h).symm, rfl, (hS.sel 4 [1, 2, 3, 0] (by decide))⟩
                      · obtain ⟨x99, ey, rfl, hS⟩ := hq; obtain rfl := ey.symm
                        replace h := g101
                        try dsimp only at h
                        refine seq_n hK98 ?_
                        refine w_if ?_
                        simp only [W]
                        refine w_cnd h (fun hc h => ?_) (fun hc h => ?_)
                        · refine w_seq fun K108 hK108 => ?_
                          refine w_reg gC ?_
                          try simp only [W, Nat.reduceAdd]
                          refine seq_n hK108 ?_
                          refine w_ret ?_
                          refine seq_r hK97 ?_
                          refine blk_r hK88 ?_
                          try obtain rfl := Option.some.inj h
                          obtain rfl := Option.some.inj g90
                          have h : (some (LR.done (LR.done (LR.done false))) : Option (LR (Int) (LR Unit (LR Unit (Bool))))) = some (LR.done (LR.done (LR.done false))) := rfl
                          refine cut_r hK91 ?_
                          refine seq_r hK87 ?_
                          try obtain rfl := Option.some.inj h
                          obtain rfl := hd82 _ rfl
                          have h : (some (LR.done (LR.done false)) : Option (LR Unit (LR Unit (Bool)))) = some (LR.done (LR.done false)) := rfl
                          refine lp_r hK81 ?_
                          refine blk_r hK80 ?_
                          try obtain rfl := Option.some.inj h
                          obtain rfl := Option.some.inj g84
                          have h : (some (LR.done false) : Option (LR Unit (Bool))) = some (LR.done false) := rfl
                          refine cut_r hK79 ?_
                          refine seq_r hK60 ?_
                          try obtain rfl := Option.some.inj h
                          obtain rfl := Option.some.inj g58
                          have h : (some false : Option (Bool)) = some false := rfl
                          refine cut_r hK59 ?_
                          refine seq_r hK55 ?_
                          refine fin_r1 hK0 rfl ?_
                          try obtain rfl := Option.some.inj h
                          exact hP _ (hS.sel 4 [] (by decide))
                        · refine w_skip ?_
                          refine seq_n hK97 ?_
                          refine w_seq fun K117 hK117 => ?_
                          refine w_reg gC ?_
                          try simp only [W, EE, Nat.reduceAdd]
                          refine seq_n hK117 ?_
                          obtain ⟨y118, h, g119⟩ := Option.bind_eq_some_iff.1 h
                          refine w_join gC (fun s H => y118 = LR.next () ∧ s = [u, .fz (a1.map (AV.int .u8)), u, u, u, v7, v15, u, u, u, u, u, u, u, v37, u, u, u, u, u, u, u, u, u, u, u, u, u, u, u, u, u, u, u, u, u, u, u, u, u, u, u, u, u, u, u, u, u, u, u, u, u, u, u, u, u, u, u, u, u, u, u, u, u, u, u, u, u, u, u, u, u, u, u, u, u, u, u, u, u, u, u, u, u, u, u, u, u, u, u, u, u, u, u, u, u, u, u, u, u, u, u, u, u, u, u, u, u, u, u, u, u, u, u, u, u, u, u, u, u, u, u, u, u, u, u, u, u, u, u, u, u, u, u, u, u, u, u, u, u, u, u, u, u, v37, .int .i64 (b33.length : Int), .int .i64 x76, u, u, u, u, u, u, u, u, u, u, u, u, u, u, u, u, u, u, u, u, u, u, u, u, u, u, u, u, u, u, u, u, u, u, u, u, u, u, u, u, u, u, u, u, u, u, u, u, u, u, u, u, u, u, u, u, u, u, u, u, u, u, u, u, u, u, u, u, u, u, u, u, u, u, u, u, u, u, u, u, u, u, u, u, u, u, u, u, u] ∧ Own H (⟨v7, 3, b6.map e_Work⟩ :: ⟨v15, 3, b11.map e_Work⟩ :: ⟨v37, 3, b33.map e_Work⟩ :: F)) (fun K120 hK120 => ?_) (fun s H hq => ?_)
                          · refine w_seq fun K121 hK121 => ?_
                            refine w_if ?_
                            simp only [W]
                            refine w_cnd h (fun hc h => ?_) (fun hc h => ?_)
                            · refine w_seq fun K122 hK122 => ?_
                              refine w_draw0 gC (by kernel_rfl) ?_
                              try simp only [W, EE, reduceIte, Nat.reduceAdd, Nat.reduceLeDiff, hS.var 3 rfl]
                              refine w_ow 2 hS rfl rfl rfl rfl rfl h (fun b123 in124 wn124 on124 hb123 h en124 => ?_) qv37.ne
                              obtain ⟨kn124, hbn124, hen124⟩ := hS.elem 2 rfl en124 hb123
                              try simp only [W, EE, EN, reduceIte, Nat.reduceAdd, Nat.reduceLeDiff, hbn124, hen124]
                              refine w_callS (rsh := [[.sc], [.sc]]) (ys := [.agg [.int .i64 b93.End, .int .i64 b93.Rank, .int .i64 b93.Id], .agg [.int .i64 b123.End, .int .i64 b123.Rank, .int .i64 b123.Id]]) h rfl (by rfl) fun b125 hb125 h => ⟨.tup [.bool b125.1, .bool b125.2], impl_LessWork_w hb125 (Own.nil _) fun H hS => TV_ok rfl (TV_p rfl (TV_p rfl (TV_n rfl))), ⟨rfl, rfl, fun _ => rfl⟩, ?_⟩
                              obtain ⟨b126, b127⟩ := b125
                              try dsimp only at h
                              try simp only [W]
                              refine seq_n hK122 ?_
                              refine w_seq fun K128 hK128 => ?_
                              obtain ⟨y130, h, g131⟩ := Option.bind_eq_some_iff.1 h
                              refine w_join gC (fun s H => ∃ x129 : Bool, y130 = (x129) ∧ s = [u, .fz (a1.map (AV.int .u8)), u, u, u, v7, v15, u, u, u, u, u, u, u, v37, u, u, u, u, u, u, u, u, u, u, u, u, u, u, u, u, u, u, u, u, u, u, u, u, u, u, u, u, u, u, u, u, u, u, u, u, u, u, u, u, u, u, u, u, u, u, u, u, u, u, u, u, u, u, u, u, u, u, u, u, u, u, u, u, u, u, u, u, u, u, u, u, u, u, u, u, u, u, u, u, u, u, u, u, u, u, u, u, u, u, u, u, u, u, u, u, u, u, u, u, u, u, u, u, u, u, u, u, u, u, u, u, u, u, u, u, u, u, u, u, u, u, u, u, u, u, u, u, u, v37, .int .i64 (b33.length : Int), .int .i64 x76, u, u, u, u, u, u, u, u, u, u, u, u, u, u, u, u, u, u, u, u, u, u, u, u, u, u, u, u, u, u, u, u, u, u, u, u, .bool x129, u, u, u, u, u, u, u, u, u, u, u, u, u, u, u, u, u, u, u, u, u, u, u, u, u, u, u, u, u, u, u, u, u, u, u, u, u, u, u, u, u, u, u, u, u, u, u, u, u, u, u, u] ∧ Own H (⟨v7, 3, b6.map e_Work⟩ :: ⟨v15, 3, b11.map e_Work⟩ :: ⟨v37, 3, b33.map e_Work⟩ :: F)) (fun K132 hK132 => ?_) (fun s H hq => ?_)
                              · refine w_seq fun K133 hK133 => ?_
                                refine w_reg gC ?_
                                try simp only [W, Nat.reduceAdd]
                                refine w_grdT h (fun hc h => ?_) (fun hc h => ?_)
                                · try simp only [W, hc]
                                  refine seq_n hK133 ?_
                                  refine w_kill ?_
                                  exact cut_n hK132 ⟨_, (Option.some.inj h).symm, rfl, (hS.sel 4 [0, 1, 2] (by decide))⟩
                                · try simp only [W, reduceIte, Bool.false_eq_true, hc]
                                  refine seq_n hK133 ?_
                                  refine w_kill ?_
                                  exact cut_n hK132 ⟨_, (Option.some.inj h).symm, rfl, (hS.sel 4 [0, 1, 2] (by decide))⟩
                              · obtain ⟨x129, ey, rfl, hS⟩ := hq; obtain rfl := ey.symm
                                replace h := g131
                                try dsimp only at h
                                refine seq_n hK128 ?_
                                refine w_if ?_
                                simp only [W]
                                refine w_cnd h (fun hc h => ?_) (fun hc h => ?_)
                                · refine w_seq fun K134 hK134 => ?_
                                  refine w_reg gC ?_
                                  try simp only [W, Nat.reduceAdd]
                                  refine seq_n hK134 ?_
                                  refine w_ret ?_
                                  refine seq_r hK121 ?_
                                  try obtain rfl := Option.some.inj h
                                  obtain rfl := Option.some.inj g119
                                  have h : (some (LR.done (LR.done (LR.done (LR.done false)))) : Option (LR Unit (LR (Int) (LR Unit (LR Unit (Bool)))))) = some (LR.done (LR.done (LR.done (LR.done false)))) := rfl
                                  refine cut_r hK120 ?_
                                  refine blk_r hK88 ?_
                                  try obtain rfl := Option.some.inj h
                                  obtain rfl := Option.some.inj g90
                                  have h : (some (LR.done (LR.done (LR.done false))) : Option (LR (Int) (LR Unit (LR Unit (Bool))))) = some (LR.done (LR.done (LR.done false))) := rfl
                                  refine cut_r hK91 ?_
                                  refine seq_r hK87 ?_
                                  try obtain rfl := Option.some.inj h
                                  obtain rfl := hd82 _ rfl
                                  have h : (some (LR.done (LR.done false)) : Option (LR Unit (LR Unit (Bool)))) = some (LR.done (LR.done false)) := rfl
                                  refine lp_r hK81 ?_
                                  refine blk_r hK80 ?_
                                  try obtain rfl := Option.some.inj h
                                  obtain rfl := Option.some.inj g84
                                  have h : (some (LR.done false) : Option (LR Unit (Bool))) = some (LR.done false) := rfl
                                  refine cut_r hK79 ?_
                                  refine seq_r hK60 ?_
                                  try obtain rfl := Option.some.inj h
                                  obtain rfl := Option.some.inj g58
                                  have h : (some false : Option (Bool)) = some false := rfl
                                  refine cut_r hK59 ?_
                                  refine seq_r hK55 ?_
                                  refine fin_r1 hK0 rfl ?_
                                  try obtain rfl := Option.some.inj h
                                  exact hP _ (hS.sel 3 [] (by decide))
                                · refine w_skip ?_
                                  refine seq_n hK121 ?_
                                  refine w_kill ?_
                                  exact cut_n hK120 ⟨(Option.some.inj h).symm, rfl, hS⟩
                            · refine w_skip ?_
                              refine seq_n hK121 ?_
                              refine w_kill ?_
                              exact cut_n hK120 ⟨(Option.some.inj h).symm, rfl, (hS.sel 4 [0, 1, 2] (by decide))⟩
                          · obtain ⟨rfl, rfl, hS⟩ := hq
                            replace h := g119
                            try dsimp only at h
                            refine blk_n hK88 ?_
                            exact cut_n hK91 ⟨(Option.some.inj h).symm, rfl, hS⟩
                    · obtain ⟨rfl, rfl, hS⟩ := hq
                      replace h := g90
                      try dsimp only at h
                      refine seq_n hK87 ?_
                      refine w_reg gC ?_
                      try simp only [W, EE, Nat.reduceAdd]
                      exact lp_n hK81 h ⟨rfl, hS⟩
                  · refine w_exit ?_
                    refine seq_x hK86 ?_
                    try obtain rfl := Option.some.inj h
                    obtain rfl := hd82 _ rfl
                    have h : (some (LR.next ()) : Option (LR Unit (LR Unit (Bool)))) = some (LR.next ()) := rfl
                    refine lp_x hK81 ?_
                    refine blk_e hK80 ?_
                    exact cut_n hK79 ⟨(Option.some.inj h).symm, rfl, (hS.sel 3 [] (by decide))⟩
                · obtain ⟨rfl, rfl, hS⟩ := hq
                  replace h := g84
                  try dsimp only at h
                  refine seq_n hK60 ?_
                  refine w_kill ?_
                  exact cut_n hK59 ⟨(Option.some.inj h).symm, rfl, hS⟩
          · refine w_skip ?_
            refine seq_n hK60 ?_
            refine w_kill ?_
            exact cut_n hK59 ⟨(Option.some.inj h).symm, rfl, (hS.sel 3 [] (by decide))⟩
        · obtain ⟨rfl, rfl, hS⟩ := hq
          replace h := g58
          try dsimp only at h
          refine seq_n hK55 ?_
          refine w_seq fun K147 hK147 => ?_
          refine w_reg gC ?_
          try simp only [W, Nat.reduceAdd]
          refine w_call h fun b148 hb148 h => ?_
          obtain ⟨b149, b150⟩ := b148
          try dsimp only at h
          refine spec_DrawLessWork_w hb148 hS fun H hS => ?_
          try simp only [W]
          refine w_alloc hS rfl rfl fun ip151 wp151 H hS => ?_
          try simp only [W]
          refine w_alloc hS rfl rfl fun ip153 wp153 H hS => ?_
          try simp only [W]
          refine w_stv (a := .agg [.int .i64 b149.End, .int .i64 b149.Rank, .int .i64 b149.Id]) (y' := .agg [.int .i64 b149.End, .int .i64 b149.Rank, .int .i64 b149.Id]) 1 hS rfl rfl rfl rfl rfl rfl rfl rfl fun H hS => ?_
          try simp only [W]
          refine w_stv (a := .agg [.int .i64 b150.End, .int .i64 b150.Rank, .int .i64 b150.Id]) (y' := .agg [.int .i64 b150.End, .int .i64 b150.Rank, .int .i64 b150.Id]) 0 hS rfl rfl rfl rfl rfl rfl rfl rfl fun H hS => ?_
          try simp only [W]
          refine seq_n hK147 ?_
          refine w_seq fun K155 hK155 => ?_
          refine w_reg gC ?_
          try simp only [W, EE, reduceIte, Nat.reduceAdd, Nat.reduceLeDiff, hS.var 1 rfl, hS.var 0 rfl]
          refine w_call h fun b156 hb156 h => ?_
          obtain ⟨b157, b158⟩ := b156
          try dsimp only at h
          refine impl_LessWork_w hb156 hS fun H hS => ?_
          try simp only [W]
          refine seq_n hK155 ?_
          refine w_seq fun K159 hK159 => ?_
          refine w_reg gC ?_
          try simp only [W, EE, reduceIte, Nat.reduceAdd, Nat.reduceLeDiff, hS.var 1 rfl, hS.var 0 rfl]
          refine w_call h fun b160 hb160 h => ?_
          obtain ⟨b161, b162⟩ := b160
          try dsimp only at h
          refine spec_LessWork_w hb160 hS fun H hS => ?_
          try simp only [W]
          refine seq_n hK159 ?_
          refine w_seq fun K163 hK163 => ?_
          refine w_seq fun K164 hK164 => ?_
          obtain ⟨y166, h, g167⟩ := Option.bind_eq_some_iff.1 h
          refine w_join gC (fun s H => ∃ x165 : Bool, y166 = (x165) ∧ s = [u, u, u, u, u, u, u, u, u, u, u, u, u, u, u, u, u, u, u, u, u, u, u, u, .ptr ip151 wp151 0 0, .ptr ip153 wp153 0 0, .bool b157, .bool b158, u, u, u, u, u, u, u, u, u, u, u, u, u, u, u, u, u, u, u, u, u, u, u, u, u, u, u, u, u, u, u, u, u, u, u, u, u, u, u, u, u, u, u, u, u, u, u, u, u, u, u, u, u, u, u, u, u, u, u, u, u, u, u, u, u, u, u, u, u, u, u, u, u, u, u, u, u, u, u, u, u, u, u, u, u, u, u, u, u, u, u, u, u, u, u, u, u, u, u, u, u, u, u, u, u, u, u, u, u, u, u, u, u, u, u, u, u, u, u, u, u, u, u, u, u, u, u, u, u, u, u, u, u, u, u, u, u, u, u, u, u, u, u, u, u, u, u, u, u, u, u, u, u, u, u, u, u, u, u, u, u, u, u, u, u, u, u, u, u, u, u, u, u, u, u, u, u, u, u, u, u, .bool x165, u, u, u, u, u, u, u, u, u, u, u, u, u, u, u, u, u, u, u, u, u, u, u, u, u, u] ∧ Own H (⟨.ptr ip151 wp151 0 0, 3, [.agg [.int .i64 b149.End, .int .i64 b149.Rank, .int .i64 b149.Id]]⟩ :: ⟨.ptr ip153 wp153 0 0, 3, [.agg [.int .i64 b150.End, .int .i64 b150.Rank, .int .i64 b150.Id]]⟩ :: F)) (fun K168 hK168 => ?_) (fun s H hq => ?_)
          · refine w_seq fun K169 hK169 => ?_
            refine w_reg gC ?_
            try simp only [W, EE, Nat.reduceAdd]
            rw [b_bneq _ _ _ _ (h := rfl) rfl, resV_s]
            try simp only [W]
            refine w_grdT h (fun hc h => ?_) (fun hc h => ?_)
            · try simp only [W, hc]
              refine seq_n hK169 ?_
              refine w_kill ?_
              exact cut_n hK168 ⟨_, (Option.some.inj h).symm, rfl, (hS.sel 2 [1, 0] (by decide))⟩
            · try simp only [W, EE, hc]
              rw [b_bneq _ _ _ _ (h := rfl) rfl, resV_s]
              try simp only [W, reduceIte, Bool.false_eq_true]
              refine seq_n hK169 ?_
              refine w_kill ?_
              exact cut_n hK168 ⟨_, (Option.some.inj h).symm, rfl, (hS.sel 2 [1, 0] (by decide))⟩
          · obtain ⟨x165, ey, rfl, hS⟩ := hq; obtain rfl := ey.symm
            replace h := g167
            try dsimp only at h
            refine seq_n hK164 ?_
            refine w_if ?_
            simp only [W]
            refine w_cnd h (fun hc h => ?_) (fun hc h => ?_)
            · refine w_seq fun K170 hK170 => ?_
              refine w_reg gC ?_
              try simp only [W, Nat.reduceAdd]
              refine seq_n hK170 ?_
              refine w_ret ?_
              refine seq_r hK163 ?_
              refine fin_r1 hK0 rfl ?_
              try obtain rfl := Option.some.inj h
              exact hP _ (hS.sel 2 [] (by decide))
            · refine w_skip ?_
              refine seq_n hK163 ?_
              refine w_seq fun K171 hK171 => ?_
              refine w_seq fun K172 hK172 => ?_
              refine w_reg gC ?_
              try simp only [W, Nat.reduceAdd]
              refine seq_n hK172 ?_
              refine w_if ?_
              simp only [W]
              refine w_cnd h (fun hc h => ?_) (fun hc h => ?_)
              · refine w_seq fun K173 hK173 => ?_
                refine w_reg gC ?_
                try simp only [W, EE, reduceIte, Nat.reduceAdd, Nat.reduceLeDiff, hS.var 0 rfl, hS.var 1 rfl]
                refine w_call h fun b174 hb174 h => ?_
                obtain ⟨b175, b176⟩ := b174
                try dsimp only at h
                refine impl_LessWork_w hb174 hS fun H hS => ?_
                try simp only [W]
                refine seq_n hK173 ?_
                refine w_seq fun K177 hK177 => ?_
                refine w_reg gC ?_
                try simp only [W, Nat.reduceAdd]
                refine w_grdT h (fun hc h => ?_) (fun hc h => ?_)
                · try simp only [W, hc]
                  refine w_grdT h (fun hc h => ?_) (fun hc h => ?_)
                  · try simp only [W, reduceIte, hc]
                    refine w_grdT h (fun hc h => ?_) (fun hc h => ?_)
                    · try simp only [W, reduceIte, hc]
                      refine seq_n hK177 ?_
                      refine w_ret ?_
                      refine seq_r hK171 ?_
                      refine fin_r1 hK0 rfl ?_
                      try obtain rfl := Option.some.inj h
                      exact hP _ (hS.sel 2 [] (by decide))
                    · try simp only [W, hc]
                      refine seq_n hK177 ?_
                      refine w_ret ?_
                      refine seq_r hK171 ?_
                      refine fin_r1 hK0 rfl ?_
                      try obtain rfl := Option.some.inj h
                      exact hP _ (hS.sel 2 [] (by decide))
                  · try simp only [W, reduceIte, Bool.false_eq_true, hc]
                    refine w_grdT h (fun hc h => ?_) (fun hc h => ?_)
                    · try simp only [W, reduceIte, hc]
                      refine seq_n hK177 ?_
                      refine w_ret ?_
                      refine seq_r hK171 ?_
                      refine fin_r1 hK0 rfl ?_
                      try obtain rfl := Option.some.inj h
                      exact hP _ (hS.sel 2 [] (by decide))
                    · try simp only [W, EE, reduceIte, Nat.reduceAdd, Nat.reduceLeDiff, Bool.false_eq_true, hS.var 0 rfl, hS.var 1 rfl, hc]
                      refine seq_n hK177 ?_
                      refine w_ret ?_
                      refine seq_r hK171 ?_
                      refine fin_r1 hK0 rfl ?_
                      try obtain rfl := Option.some.inj h
                      exact hP _ (hS.sel 2 [] (by decide))
                · try simp only [W, hc]
                  refine seq_n hK177 ?_
                  refine w_ret ?_
                  refine seq_r hK171 ?_
                  refine fin_r1 hK0 rfl ?_
                  try obtain rfl := Option.some.inj h
                  exact hP _ (hS.sel 2 [] (by decide))
              · refine w_skip ?_
                refine seq_n hK171 ?_
                refine w_seq fun K178 hK178 => ?_
                refine w_reg gC ?_
                try simp only [W, Nat.reduceAdd]
                refine seq_n hK178 ?_
                refine w_ret ?_
                refine fin_r1 hK0 rfl ?_
                try obtain rfl := Option.some.inj h
                exact hP _ (hS.sel 2 [] (by decide))
end Go.VxW
