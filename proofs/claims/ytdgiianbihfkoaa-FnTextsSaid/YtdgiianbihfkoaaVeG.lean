import Derived.Test.YtdgiianbihfkoaaVyGF
import Derived.Test.YtdgiianbihfkoaaProg
import Derived.Test.YtdgiianbihfkoaaVaE
import Derived.KernelRfl
open Go Go.VS
set_option maxRecDepth 8000
set_option maxHeartbeats 4000000
namespace Go.VxW
def e_L1Cur (x : L1Cur) : AV := .agg [.fz (x.Code.map (AV.int .u8)), .int .i64 x.At, .int .u64 x.Seed]
def E : TEnv := fun t => match t with
  | 3 => some { sz := 1, agg := false, zero := [AV.int IntKind.i64 0], bytes := 8, und := UD.it IntKind.i64, eqok := true }
  | 4 => some { sz := 1, agg := false, zero := [AV.bool false], bytes := 1, und := UD.bl, eqok := true }
  | 5 => some { sz := 1, agg := false, zero := [AV.int IntKind.u8 0], bytes := 1, und := UD.it IntKind.u8, eqok := true }
  | 9 => some { sz := 1, agg := false, zero := [AV.str []], bytes := 16, und := UD.str, eqok := true }
  | 22 => some { sz := 1, agg := false, zero := [AV.nil], bytes := 24, und := UD.sl 5, eqok := true }
  | 24 => some { sz := 1, agg := false, zero := [AV.nil], bytes := 24, und := UD.sl 3, eqok := true }
  | 150 => some { sz := 1, agg := false, zero := [AV.nilp], bytes := 8, und := UD.pt, eqok := true }
  | 151 => some { sz := 1, agg := false, zero := [AV.int IntKind.u64 0], bytes := 8, und := UD.it IntKind.u64, eqok := true }
  | 153 => some { sz := 3, agg := true, zero := [AV.nil, AV.int IntKind.i64 0, AV.int IntKind.u64 0], bytes := 40, und := UD.st [(0, 22), (1, 3), (2, 151)], eqok := true }
  | 203 => some { sz := 1, agg := false, zero := [AV.nil], bytes := 24, und := UD.sl 9, eqok := true }
  | 222 => some { sz := 1, agg := false, zero := [AV.int IntKind.u64 0], bytes := 8, und := UD.it IntKind.u64, eqok := true }
  | _ => none
def pol : FuncId → FPol := fun f => match f with
  | 12 => { rsh := [[.sc]], frz := [(6, [], some [0, 1, 5, 6, 7, 60]), (8, [], some [0, 1, 5, 6, 66]), (10, [], some [0, 1, 79]), (15, [], some [0, 1, 12, 13, 14, 100]), (19, [], some [0, 1, 12, 113]), (24, [], some [1, 12, 19, 20, 21, 133]), (28, [], some [1, 155])], cnds := [(66, [0, 1]), (101, [0, 1, 12]), (134, [1])] }
  | 22 => { rsh := [[.sc]], loops := [(0, { keep := [0, 1, 12, 13] })], blocks := [(0, [])] }
  | 104 => { rsh := [[.sl [.sc]]] }
  | 105 => { rsh := [[.sc], [.sc]], loops := [(0, { keep := [4, 10, 11, 12] })], blocks := [(0, [4])] }
  | 106 => { rsh := [[.sc], [.sc]], loops := [(0, { keep := [4, 15, 16, 17] })], blocks := [(0, [4])], frz := [(1, [], some [0, 14])] }
  | 107 => { rsh := [[.sl [.sc]], [.sc]], loops := [(0, { keep := [0, 4, 5] })], blocks := [(0, [4])], frz := [(7, [], some [0, 4, 6, 7, 30])] }
  | 108 => { rsh := [[.sc]] }
  | 109 => { rsh := [[.sl [.sc]], [.sc]], frz := [(4, [], some [4, 20])] }
  | 110 => { rsh := [[.sc]], fz := [(3, [(2, [([10], [.sl [.sc]])])]), (4, [(2, [([15], [.sl [.sc]])])])] }
  | 111 => { rsh := [[.sc], [.sc]] }
  | 112 => { rsh := [[.sc], [.sc]] }
  | 113 => { rsh := [[.sc], [.sc], [.sc]], frz := [(2, [], some [0, 7, 8, 30])] }
  | 114 => { rsh := [[.sc], [.sc]], fz := [(7, [(5, [([35], [.sl [.sc]])])])], cnds := [(27, [4, 5, 9])] }
  | 115 => { rsh := [[.sc], [.sc], [.sc]], frz := [(1, [], some [0, 1, 16]), (4, [], some [0, 7, 8, 36])] }
  | 141 => { rsh := [[.sc]], cnds := [(11, [1, 5])] }
  | 142 => { rsh := [[.sc]] }
  | 143 => { rsh := [[.sc]] }
  | 147 => { rsh := [[.sc]] }
  | 150 => { rsh := [[.sc]], loops := [(0, { keep := [1, 2, 9, 10, 11] })], blocks := [(0, [])] }
  | 153 => { rsh := [[.sc]] }
  | 224 => { rsh := [[.sl [.sc]]], loops := [(0, { keep := [0, 3, 4] })], blocks := [(0, [0, 3])], cnds := [(17, [3])] }
  | 225 => { rsh := [[.sc]] }
  | 226 => { rsh := [[.sc]] }
  | 227 => { rsh := [[.sc]] }
  | 228 => { rsh := [[.sc], [.sc], [.sc]], loops := [(0, { keep := [0, 1, 7, 8, 9] })], blocks := [(0, [1, 7, 8])], frz := [(11, [], some [1, 7, 8, 54])] }
  | 229 => { rsh := [[.sc]], loops := [(0, { keep := [0, 3, 7, 8, 9] })], blocks := [(1, [0, 3, 7, 8, 9]), (0, [0, 3])], cnds := [(14, [0, 3, 7, 8, 9]), (21, [3])] }
  | 230 => { rsh := [[.sl [.sc]], [.sc]], loops := [(0, { keep := [0, 4, 5] })], blocks := [(0, [4])] }
  | 231 => { rsh := [[.sc]] }
  | 232 => { rsh := [[.sc]], loops := [(0, { keep := [0, 1, 2, 7] })], blocks := [(1, [0, 1, 2, 7]), (2, [0, 1, 2, 7]), (0, [1])], frz := [(2, [], some [0, 1, 2, 7, 18])], cnds := [(43, [0, 1, 2, 7]), (54, [0, 1, 2, 7])] }
  | 233 => { rsh := [[.sc], [.sc]], loops := [(0, { keep := [0, 1, 6, 7, 8] })], blocks := [(0, [1, 6, 7])], frz := [(11, [], some [1, 6, 7, 52])] }
  | 252 => { rsh := [[.sc]], cnds := [(13, [0, 3])] }
  | 264 => { rsh := [[.sc]], fz := [(2, [(2, [([6], [.sl [.sc]])])]), (3, [(4, [([11], [.sl [.sc]])])])] }
  | 265 => { rsh := [[.sc]], loops := [(0, { keep := [0, 1, 5, 6] }), (2, { keep := [1, 5, 7] })], blocks := [(0, [1, 5]), (2, [5])] }
  | 266 => { rsh := [[.sc]] }
  | 267 => { rsh := [[.sc]], loops := [(0, { keep := [0, 1, 5, 6] })], blocks := [(0, [1, 5])], regs := [(7, [8], [])] }
  | 268 => { rsh := [[.sc]] }
  | 269 => { rsh := [[.sc]] }
  | 275 => { rsh := [[.sc]] }
  | _ => {}
noncomputable def code : FuncId → Option Func := fun f => match f with
  | 12 => some Go.Proofs.Try.f12
  | 22 => some Go.Proofs.Try.f22
  | 104 => some Go.Proofs.Try.f104
  | 105 => some Go.Proofs.Try.f105
  | 106 => some Go.Proofs.Try.f106
  | 107 => some Go.Proofs.Try.f107
  | 108 => some Go.Proofs.Try.f108
  | 109 => some Go.Proofs.Try.f109
  | 110 => some Go.Proofs.Try.f110
  | 111 => some Go.Proofs.Try.f111
  | 112 => some Go.Proofs.Try.f112
  | 113 => some Go.Proofs.Try.f113
  | 114 => some Go.Proofs.Try.f114
  | 115 => some Go.Proofs.Try.f115
  | 141 => some Go.Proofs.Try.f141
  | 142 => some Go.Proofs.Try.f142
  | 143 => some Go.Proofs.Try.f143
  | 147 => some Go.Proofs.Try.f147
  | 150 => some Go.Proofs.Try.f150
  | 153 => some Go.Proofs.Try.f153
  | 224 => some Go.Proofs.Try.f224
  | 225 => some Go.Proofs.Try.f225
  | 226 => some Go.Proofs.Try.f226
  | 227 => some Go.Proofs.Try.f227
  | 228 => some Go.Proofs.Try.f228
  | 229 => some Go.Proofs.Try.f229
  | 230 => some Go.Proofs.Try.f230
  | 231 => some Go.Proofs.Try.f231
  | 232 => some Go.Proofs.Try.f232
  | 233 => some Go.Proofs.Try.f233
  | 252 => some Go.Proofs.Try.f252
  | 264 => some Go.Proofs.Try.f264
  | 265 => some Go.Proofs.Try.f265
  | 266 => some Go.Proofs.Try.f266
  | 267 => some Go.Proofs.Try.f267
  | 268 => some Go.Proofs.Try.f268
  | 269 => some Go.Proofs.Try.f269
  | 275 => some Go.Proofs.Try.f275
  | _ => none
noncomputable def C : Ctx := ⟨E, pol, code, fun _ _ _ _ => False⟩
theorem gC : Good C := ⟨fun _ _ _ _ _ _ h => h, fun _ _ _ _ h => h.elim⟩
theorem cE : C.E = E := rfl
theorem E3 : E 3 = some { sz := 1, agg := false, zero := [AV.int IntKind.i64 0], bytes := 8, und := UD.it IntKind.i64, eqok := true } := rfl
theorem E4 : E 4 = some { sz := 1, agg := false, zero := [AV.bool false], bytes := 1, und := UD.bl, eqok := true } := rfl
theorem E5 : E 5 = some { sz := 1, agg := false, zero := [AV.int IntKind.u8 0], bytes := 1, und := UD.it IntKind.u8, eqok := true } := rfl
theorem E9 : E 9 = some { sz := 1, agg := false, zero := [AV.str []], bytes := 16, und := UD.str, eqok := true } := rfl
theorem E22 : E 22 = some { sz := 1, agg := false, zero := [AV.nil], bytes := 24, und := UD.sl 5, eqok := true } := rfl
theorem E24 : E 24 = some { sz := 1, agg := false, zero := [AV.nil], bytes := 24, und := UD.sl 3, eqok := true } := rfl
theorem E150 : E 150 = some { sz := 1, agg := false, zero := [AV.nilp], bytes := 8, und := UD.pt, eqok := true } := rfl
theorem E151 : E 151 = some { sz := 1, agg := false, zero := [AV.int IntKind.u64 0], bytes := 8, und := UD.it IntKind.u64, eqok := true } := rfl
theorem E153 : E 153 = some { sz := 3, agg := true, zero := [AV.nil, AV.int IntKind.i64 0, AV.int IntKind.u64 0], bytes := 40, und := UD.st [(0, 22), (1, 3), (2, 151)], eqok := true } := rfl
theorem E203 : E 203 = some { sz := 1, agg := false, zero := [AV.nil], bytes := 24, und := UD.sl 9, eqok := true } := rfl
theorem E222 : E 222 = some { sz := 1, agg := false, zero := [AV.int IntKind.u64 0], bytes := 8, und := UD.it IntKind.u64, eqok := true } := rfl
theorem EE : type_of% (And.intro @cE <| And.intro @E3 <| And.intro @E4 <| And.intro @E5 <| And.intro @E9 <| And.intro @E22 <| And.intro @E24 <| And.intro @E150 <| And.intro @E151 <| And.intro @E153 <| And.intro @E203 @E222) := And.intro @cE <| And.intro @E3 <| And.intro @E4 <| And.intro @E5 <| And.intro @E9 <| And.intro @E22 <| And.intro @E24 <| And.intro @E150 <| And.intro @E151 <| And.intro @E153 <| And.intro @E203 @E222
theorem e_L1Cur_d (x : L1Cur) : e_L1Cur x = .agg [.fz (x.Code.map (AV.int .u8)), .int .i64 x.At, .int .u64 x.Seed] := rfl
theorem EN : type_of% (And.intro @e_L1Cur_d @killB_n) := And.intro @e_L1Cur_d @killB_n
theorem spec_l1Cur_next_w {a0 : L1Cur} {i0 : Nat} {w0 : Nat} {r : (Int × L1Cur)} (h : spec_l1Cur_next a0 = some r) {F : List It} {H : Heap} (hS : Own H (⟨.ptr i0 w0 0 0, 3, [.agg [.fz (a0.Code.map (AV.int .u8)), .int .i64 a0.At, .int .u64 a0.Seed]]⟩ :: F)) {P : AV → Heap → Prop} (hP : ∀ H', Own H' (⟨.ptr i0 w0 0 0, 3, [.agg [.fz (r.2.Code.map (AV.int .u8)), .int .i64 r.2.At, .int .u64 r.2.Seed]]⟩ :: F) → P (.int .i64 r.1) H') : ACall C 252 [.ptr i0 w0 0 0] H P := by
  refine acall_of gC (res := [.tmp 2]) (n := 62) rfl rfl rfl rfl fun K0 hK0 => ?_
  simp only [W, Nat.reduceSub, Nat.reduceAdd, List.replicate]
  unfold spec_l1Cur_next at h
  refine w_seq fun K1 hK1 => ?_
  refine w_reg gC ?_
  try simp only [W, Nat.reduceAdd]
  refine seq_n hK1 ?_
  refine w_seq fun K2 hK2 => ?_
  refine w_reg gC ?_
  try simp only [W, Nat.reduceAdd]
  refine seq_n hK2 ?_
  refine w_seq fun K3 hK3 => ?_
  refine w_seq fun K4 hK4 => ?_
  refine w_draw0 gC (by kernel_rfl) ?_
  try simp only [W, EE, Nat.reduceAdd, Nat.reduceBEq, hS.var 0 rfl]
  refine seq_n hK4 ?_
  obtain ⟨y6, h, g7⟩ := Option.bind_eq_some_iff.1 h
  refine w_join gC (fun s H => ∃ x5 : Int, y6 = (x5) ∧ s = [.ptr i0 w0 0 0, u, u, .int .i64 x5, u, u, u, u, u, u, u, u, u, u, u, u, u, u, u, u, u, u, u, u, u, u, u, u, u, u, u, u, u, u, u, u, u, u, u, u, u, u, u, u, u, u, u, u, u, u, u, u, u, u, u, u, u, u, u, u, u, u] ∧ Own H (⟨.ptr i0 w0 0 0, 3, [.agg [.fz (a0.Code.map (AV.int .u8)), .int .i64 a0.At, .int .u64 a0.Seed]]⟩ :: F)) (fun K8 hK8 => ?_) (fun s H hq => ?_)
  · refine w_seq fun K9 hK9 => ?_
    refine w_if ?_
    simp only [W]
    refine w_cnd h (fun hc h => ?_) (fun hc h => ?_)
    · refine w_draw0 gC (by kernel_rfl) ?_
      try simp only [W, EE, Nat.reduceAdd, Nat.reduceBEq, hS.var 0 rfl]
      refine w_fz rfl rfl rfl (fun _ => rfl) h fun b10 hb10 h => ?_
      try simp only [W, EE]
      refine seq_n hK9 ?_
      refine w_kill ?_
      exact cut_n hK8 ⟨_, (Option.some.inj h).symm, rfl, hS⟩
    · refine w_skip ?_
      refine seq_n hK9 ?_
      refine w_kill ?_
      exact cut_n hK8 ⟨_, (Option.some.inj h).symm, rfl, hS⟩
  · obtain ⟨x5, ey, rfl, hS⟩ := hq; obtain rfl := ey.symm
    replace h := g7
    try dsimp only at h
    refine seq_n hK3 ?_
    refine w_seq fun K11 hK11 => ?_
    refine w_reg gC ?_
    try simp only [W, EE, Nat.reduceAdd, Nat.reduceBEq, hS.var 0 rfl]
    refine w_stv (a := .int .i64 (IntKind.i64.wrap (a0.At + 1))) (y' := .agg [.fz (a0.Code.map (AV.int .u8)), .int .i64 (IntKind.i64.wrap (a0.At + 1)), .int .u64 a0.Seed]) 0 hS rfl rfl rfl rfl rfl rfl rfl rfl fun H hS => ?_
    try simp only [W]
    refine seq_n hK11 ?_
    refine w_seq fun K12 hK12 => ?_
    refine w_reg gC ?_
    try simp only [W, EE, Nat.reduceAdd, Nat.reduceBEq, hS.var 0 rfl]
    refine w_stv (a := .int .u64 (IntKind.u64.wrap ((IntKind.u64.wrap ((IntKind.u64.wrap (a0.Seed * 6364136223846793005)) + (IntKind.u64.wrap x5))) + 1442695040888963407))) (y' := .agg [.fz (a0.Code.map (AV.int .u8)), .int .i64 (IntKind.i64.wrap (a0.At + 1)), .int .u64 (IntKind.u64.wrap ((IntKind.u64.wrap ((IntKind.u64.wrap (a0.Seed * 6364136223846793005)) + (IntKind.u64.wrap x5))) + 1442695040888963407))]) 0 hS rfl rfl rfl rfl rfl rfl rfl rfl fun H hS => ?_
    try simp only [W]
    refine seq_n hK12 ?_
    refine w_seq fun K13 hK13 => ?_
    refine w_seq fun K14 hK14 => ?_
    refine w_draw0 gC (by kernel_rfl) ?_
    try simp only [W, EE, Nat.reduceAdd, Nat.reduceBEq, hS.var 0 rfl]
    refine seq_n hK14 ?_
    refine w_if ?_
    simp only [W]
    refine w_cnd h (fun hc h => ?_) (fun hc h => ?_)
    · refine w_seq fun K15 hK15 => ?_
      refine w_reg gC ?_
      try simp only [W, Nat.reduceAdd]
      refine seq_n hK15 ?_
      refine w_ret ?_
      refine seq_r hK13 ?_
      refine fin_r1 hK0 rfl ?_
      try obtain rfl := Option.some.inj h
      exact hP _ hS
    · refine w_skip ?_
      refine seq_n hK13 ?_
      refine w_seq fun K16 hK16 => ?_
      refine w_reg gC ?_
      try simp only [W, EE, Nat.reduceAdd, Nat.reduceBEq, hS.var 0 rfl]
      rw [sr_lit _ _ _ rfl, Option.map_some, resV_s]
      try simp only [W, EE]
      refine seq_n hK16 ?_
      refine w_ret ?_
      refine fin_r1 hK0 rfl ?_
      try obtain rfl := Option.some.inj h
      exact hP _ hS
theorem spec_l1Cur_pick_w {a0 : L1Cur} {a1 : Int} {i0 : Nat} {w0 : Nat} {r : (Int × L1Cur)} (h : spec_l1Cur_pick a0 a1 = some r) {F : List It} {H : Heap} (hS : Own H (⟨.ptr i0 w0 0 0, 3, [.agg [.fz (a0.Code.map (AV.int .u8)), .int .i64 a0.At, .int .u64 a0.Seed]]⟩ :: F)) {P : AV → Heap → Prop} (hP : ∀ H', Own H' (⟨.ptr i0 w0 0 0, 3, [.agg [.fz (r.2.Code.map (AV.int .u8)), .int .i64 r.2.At, .int .u64 r.2.Seed]]⟩ :: F) → P (.int .i64 r.1) H') : ACall C 141 [.ptr i0 w0 0 0, .int .i64 a1] H P := by
  refine acall_of gC (res := [.tmp 4]) (n := 20) rfl rfl rfl rfl fun K0 hK0 => ?_
  simp only [W, Nat.reduceSub, Nat.reduceAdd, List.replicate]
  unfold spec_l1Cur_pick at h
  refine w_seq fun K1 hK1 => ?_
  refine w_reg gC ?_
  try simp only [W, Nat.reduceAdd]
  refine seq_n hK1 ?_
  refine w_seq fun K2 hK2 => ?_
  refine w_seq fun K3 hK3 => ?_
  refine w_reg gC ?_
  try simp only [W, EE, Nat.reduceAdd]
  refine seq_n hK3 ?_
  refine w_if ?_
  simp only [W]
  refine w_cnd h (fun hc h => ?_) (fun hc h => ?_)
  · refine w_seq fun K4 hK4 => ?_
    refine w_reg gC ?_
    try simp only [W, Nat.reduceAdd]
    refine seq_n hK4 ?_
    refine w_ret ?_
    refine seq_r hK2 ?_
    refine fin_r1 hK0 rfl ?_
    try obtain rfl := Option.some.inj h
    exact hP _ hS
  · refine w_skip ?_
    refine seq_n hK2 ?_
    refine w_seq fun K5 hK5 => ?_
    refine w_reg gC ?_
    try simp only [W, Nat.reduceAdd]
    refine w_call h fun b6 hb6 h => ?_
    obtain ⟨b7, b8⟩ := b6
    try dsimp only at h
    refine spec_l1Cur_next_w hb6 hS fun H hS => ?_
    try simp only [W]
    refine seq_n hK5 ?_
    refine w_seq fun K9 hK9 => ?_
    refine w_seq fun K10 hK10 => ?_
    refine w_reg gC ?_
    try simp only [W, EE, Nat.reduceAdd]
    refine seq_n hK10 ?_
    obtain ⟨y15, h, g16⟩ := Option.bind_eq_some_iff.1 h
    refine w_join gC (fun s H => ∃ x11 : Int, ∃ x12 : List Int, ∃ x13 : Int, ∃ x14 : Int, y15 = (x11, x12, x13, x14) ∧ s = [u, .int .i64 a1, u, u, u, .int .i64 x11, u, u, u, u, u, u, u, u, u, u, u, u, u, u] ∧ Own H (⟨.ptr i0 w0 0 0, 3, [.agg [.fz (x12.map (AV.int .u8)), .int .i64 x13, .int .u64 x14]]⟩ :: F)) (fun K17 hK17 => ?_) (fun s H hq => ?_)
    · refine w_seq fun K18 hK18 => ?_
      refine w_if ?_
      simp only [W]
      refine w_cnd h (fun hc h => ?_) (fun hc h => ?_)
      · refine w_reg gC ?_
        try simp only [W, EE, Nat.reduceAdd]
        refine w_call h fun b19 hb19 h => ?_
        obtain ⟨b20, b21⟩ := b19
        try dsimp only at h
        refine spec_l1Cur_next_w hb19 hS fun H hS => ?_
        try simp only [W, EE]
        refine seq_n hK18 ?_
        refine w_kill ?_
        exact cut_n hK17 ⟨_, _, _, _, (Option.some.inj h).symm, rfl, hS⟩
      · refine w_skip ?_
        refine seq_n hK18 ?_
        refine w_kill ?_
        exact cut_n hK17 ⟨_, _, _, _, (Option.some.inj h).symm, rfl, hS⟩
    · obtain ⟨x11, x12, x13, x14, rfl, rfl, hS⟩ := hq
      replace h := g16
      try dsimp only at h
      refine seq_n hK9 ?_
      refine w_seq fun K22 hK22 => ?_
      refine w_reg gC ?_
      try simp only [W, EE, Nat.reduceAdd]
      refine w_num _ h fun x23 hx23 h => ?_
      try simp only [W]
      refine seq_n hK22 ?_
      refine w_ret ?_
      refine fin_r1 hK0 rfl ?_
      try obtain rfl := Option.some.inj h
      exact hP _ hS
theorem spec_l1Cur_one_w {a0 : L1Cur} {a1 : Int} {i0 : Nat} {w0 : Nat} {r : (Bool × L1Cur)} (h : spec_l1Cur_one a0 a1 = some r) {F : List It} {H : Heap} (hS : Own H (⟨.ptr i0 w0 0 0, 3, [.agg [.fz (a0.Code.map (AV.int .u8)), .int .i64 a0.At, .int .u64 a0.Seed]]⟩ :: F)) {P : AV → Heap → Prop} (hP : ∀ H', Own H' (⟨.ptr i0 w0 0 0, 3, [.agg [.fz (r.2.Code.map (AV.int .u8)), .int .i64 r.2.At, .int .u64 r.2.Seed]]⟩ :: F) → P (.bool r.1) H') : ACall C 142 [.ptr i0 w0 0 0, .int .i64 a1] H P := by
  refine acall_of gC (res := [.tmp 4]) (n := 9) rfl rfl rfl rfl fun K0 hK0 => ?_
  simp only [W, Nat.reduceSub, Nat.reduceAdd, List.replicate]
  unfold spec_l1Cur_one at h
  refine w_seq fun K1 hK1 => ?_
  refine w_reg gC ?_
  try simp only [W, Nat.reduceAdd]
  refine seq_n hK1 ?_
  refine w_seq fun K2 hK2 => ?_
  refine w_reg gC ?_
  try simp only [W, Nat.reduceAdd]
  refine w_call h fun b3 hb3 h => ?_
  obtain ⟨b4, b5⟩ := b3
  try dsimp only at h
  refine spec_l1Cur_pick_w hb3 hS fun H hS => ?_
  try simp only [W, EE]
  refine seq_n hK2 ?_
  refine w_ret ?_
  refine fin_r1 hK0 rfl ?_
  try obtain rfl := Option.some.inj h
  exact hP _ hS
theorem spec_l1Cur_among_w {a0 : L1Cur} {a1 : List Int} {i0 : Nat} {w0 : Nat} {r : (Int × L1Cur)} (h : spec_l1Cur_among a0 a1 = some r) {F : List It} {H : Heap} (hS : Own H (⟨.ptr i0 w0 0 0, 3, [.agg [.fz (a0.Code.map (AV.int .u8)), .int .i64 a0.At, .int .u64 a0.Seed]]⟩ :: F)) {P : AV → Heap → Prop} (hP : ∀ H', Own H' (⟨.ptr i0 w0 0 0, 3, [.agg [.fz (r.2.Code.map (AV.int .u8)), .int .i64 r.2.At, .int .u64 r.2.Seed]]⟩ :: F) → P (.int .i64 r.1) H') : ACall C 143 [.ptr i0 w0 0 0, .fz (a1.map (AV.int .i64))] H P := by
  refine acall_of gC (res := [.tmp 4]) (n := 12) rfl rfl rfl rfl fun K0 hK0 => ?_
  simp only [W, Nat.reduceSub, Nat.reduceAdd, List.replicate]
  unfold spec_l1Cur_among at h
  refine w_seq fun K1 hK1 => ?_
  refine w_reg gC ?_
  try simp only [W, Nat.reduceAdd]
  refine seq_n hK1 ?_
  refine w_seq fun K2 hK2 => ?_
  refine w_reg gC ?_
  try simp only [W, EE, Nat.reduceAdd]
  refine w_call h fun b3 hb3 h => ?_
  obtain ⟨b4, b5⟩ := b3
  try dsimp only at h
  refine spec_l1Cur_pick_w hb3 hS fun H hS => ?_
  try simp only [W, EE]
  refine w_fz rfl rfl rfl (fun _ => rfl) h fun b6 hb6 h => ?_
  try simp only [W, EE]
  refine seq_n hK2 ?_
  refine w_ret ?_
  refine fin_r1 hK0 rfl ?_
  try obtain rfl := Option.some.inj h
  exact hP _ hS
theorem spec_l1Cur_number_w {a0 : L1Cur} {i0 : Nat} {w0 : Nat} {r : (Int × L1Cur)} (h : spec_l1Cur_number a0 = some r) {F : List It} {H : Heap} (hS : Own H (⟨.ptr i0 w0 0 0, 3, [.agg [.fz (a0.Code.map (AV.int .u8)), .int .i64 a0.At, .int .u64 a0.Seed]]⟩ :: F)) {P : AV → Heap → Prop} (hP : ∀ H', Own H' (⟨.ptr i0 w0 0 0, 3, [.agg [.fz (r.2.Code.map (AV.int .u8)), .int .i64 r.2.At, .int .u64 r.2.Seed]]⟩ :: F) → P (.int .i64 r.1) H') : ACall C 264 [.ptr i0 w0 0 0] H P := by
  refine acall_of gC (res := [.tmp 2]) (n := 14) rfl rfl rfl rfl fun K0 hK0 => ?_
  simp only [W, Nat.reduceSub, Nat.reduceAdd, List.replicate]
  unfold spec_l1Cur_number at h
  refine w_seq fun K1 hK1 => ?_
  refine w_reg gC ?_
  try simp only [W, Nat.reduceAdd]
  refine seq_n hK1 ?_
  refine w_seq fun K2 hK2 => ?_
  refine w_seq fun K3 hK3 => ?_
  refine w_reg gC ?_
  try simp only [W, Nat.reduceAdd]
  refine w_call h fun b4 hb4 h => ?_
  obtain ⟨b5, b6⟩ := b4
  try dsimp only at h
  refine spec_l1Cur_one_w hb4 hS fun H hS => ?_
  try simp only [W]
  refine seq_n hK3 ?_
  refine w_if ?_
  simp only [W]
  refine w_cnd h (fun hc h => ?_) (fun hc h => ?_)
  · refine w_seq fun K7 hK7 => ?_
    refine w_regF (fz := [(2, [([6], [.sl [.sc]])])]) gC ?_
    try simp only [W, Nat.reduceAdd, Nat.reduceBEq]
    refine w_lit (el := ([0, 63, 64, 16383, 16384, 1073741823, 1073741824, 1152921504606846975, 1152921504606846976, -1] : List Int).map (AV.int .i64)) hS rfl rfl rfl rfl rfl rfl rfl fun v8 H qv8 hS => ?_
    try simp only [W, Nat.reduceAdd]
    refine FZ_own 0 hS rfl qv8 rfl (fun _ _ => by simp [takeE, takeT, plainA]) (fun _ => rfl) fun H hsame hS => ?_
    try simp only [W]
    refine w_call h fun b10 hb10 h => ?_
    obtain ⟨b11, b12⟩ := b10
    try dsimp only at h
    refine spec_l1Cur_among_w hb10 hS fun H hS => ?_
    try simp only [W, Nat.reduceAdd, Nat.reduceBEq]
    refine seq_n hK7 ?_
    refine w_ret ?_
    refine seq_r hK2 ?_
    refine fin_r1 hK0 rfl ?_
    try obtain rfl := Option.some.inj h
    exact hP _ hS
  · refine w_skip ?_
    refine seq_n hK2 ?_
    refine w_seq fun K13 hK13 => ?_
    refine w_regF (fz := [(4, [([11], [.sl [.sc]])])]) gC ?_
    try simp only [W, Nat.reduceAdd, Nat.reduceBEq]
    refine w_call h fun b14 hb14 h => ?_
    obtain ⟨b15, b16⟩ := b14
    try dsimp only at h
    refine spec_l1Cur_pick_w hb14 hS fun H hS => ?_
    try simp only [W, Nat.reduceAdd, Nat.reduceBEq]
    refine w_lit (el := ([1, 3, 1000, 99991] : List Int).map (AV.int .i64)) hS rfl rfl rfl rfl rfl rfl rfl fun v17 H qv17 hS => ?_
    try simp only [W, Nat.reduceAdd]
    refine FZ_own 0 hS rfl qv17 rfl (fun _ _ => by simp [takeE, takeT, plainA]) (fun _ => rfl) fun H hsame hS => ?_
    try simp only [W]
    refine w_call h fun b19 hb19 h => ?_
    obtain ⟨b20, b21⟩ := b19
    try dsimp only at h
    refine spec_l1Cur_among_w hb19 hS fun H hS => ?_
    try simp only [W, EE, Nat.reduceAdd, Nat.reduceBEq]
    refine seq_n hK13 ?_
    refine w_ret ?_
    refine fin_r1 hK0 rfl ?_
    try obtain rfl := Option.some.inj h
    exact hP _ hS
theorem spec_l1Cur_numbers_w {a0 : L1Cur} {i0 : Nat} {w0 : Nat} {r : (List Int × L1Cur)} (h : spec_l1Cur_numbers a0 = some r) {F : List It} {H : Heap} (hS : Own H (⟨.ptr i0 w0 0 0, 3, [.agg [.fz (a0.Code.map (AV.int .u8)), .int .i64 a0.At, .int .u64 a0.Seed]]⟩ :: F)) {P : AV → Heap → Prop} (hP : ∀ v64 : AV, isSl v64 → ∀ H', Own H' (⟨v64, 1, r.1.map (AV.int .i64)⟩ :: ⟨.ptr i0 w0 0 0, 3, [.agg [.fz (r.2.Code.map (AV.int .u8)), .int .i64 r.2.At, .int .u64 r.2.Seed]]⟩ :: F) → P (v64) H') : ACall C 224 [.ptr i0 w0 0 0] H P := by
  refine acall_of gC (res := [.tmp 2]) (n := 23) rfl rfl rfl rfl fun K0 hK0 => ?_
  simp only [W, Nat.reduceSub, Nat.reduceAdd, List.replicate]
  unfold spec_l1Cur_numbers at h
  refine w_seq fun K1 hK1 => ?_
  refine w_reg gC ?_
  try simp only [W, Nat.reduceAdd]
  refine seq_n hK1 ?_
  refine w_seq fun K2 hK2 => ?_
  refine w_reg gC ?_
  try simp only [W, Nat.reduceAdd]
  refine seq_n hK2 ?_
  refine w_seq fun K3 hK3 => ?_
  refine w_seq fun K4 hK4 => ?_
  refine w_reg gC ?_
  try simp only [W, Nat.reduceAdd]
  refine w_call h fun b5 hb5 h => ?_
  obtain ⟨b6, b7⟩ := b5
  try dsimp only at h
  refine spec_l1Cur_pick_w hb5 hS fun H hS => ?_
  try simp only [W]
  refine seq_n hK4 ?_
  obtain ⟨y20, hw21, g27⟩ := Option.bind_eq_some_iff.1 h
  refine w_join gC (fun s H => ∃ x15 : List Int, ∃ x17 : List Int, ∃ x18 : Int, ∃ x19 : Int, y20 = (x15, x17, x18, x19) ∧ ∃ v16 : AV, isSl v16 ∧ s = [.ptr i0 w0 0 0, u, u, v16, u, u, u, u, u, u, u, u, u, u, u, u, u, u, u, u, u, u, u] ∧ Own H (⟨v16, 1, x15.map (AV.int .i64)⟩ :: ⟨.ptr i0 w0 0 0, 3, [.agg [.fz (x17.map (AV.int .u8)), .int .i64 x18, .int .u64 x19]]⟩ :: F)) (fun K22 hK22 => ?_) (fun s H hq => ?_)
  · refine w_blk fun K23 hK23 => ?_
    refine w_loop gC hw21 (fun x s H => match x with | (x8, x11, x12, x13, x14) => ∃ v9 : AV, isSl v9 ∧ s = [.ptr i0 w0 0 0, u, u, v9, .int .i64 x11, u, u, u, u, u, u, u, u, u, u, u, u, u, u, u, u, u, u] ∧ Own H (⟨v9, 1, x8.map (AV.int .i64)⟩ :: ⟨.ptr i0 w0 0 0, 3, [.agg [.fz (x12.map (AV.int .u8)), .int .i64 x13, .int .u64 x14]]⟩ :: F)) ⟨_, isSl_nil, rfl, (hS.nil_ 1)⟩ (fun x y26 s H h hd25 hi K24 hK24 => ?_)
    obtain ⟨x8, x11, x12, x13, x14⟩ := x
    try dsimp only at hi
    obtain ⟨v9, qv9, rfl, hS⟩ := hi
    simp only [spec_l1Cur_numbers_l0] at h
    refine w_seq fun K28 hK28 => ?_
    refine w_seq fun K29 hK29 => ?_
    refine w_reg gC ?_
    try simp only [W, EE, Nat.reduceAdd]
    refine seq_n hK29 ?_
    refine w_if ?_
    simp only [W]
    refine w_cnd h (fun hc h => ?_) (fun hc h => ?_)
    · refine w_skip ?_
      refine seq_n hK28 ?_
      refine w_seq fun K30 hK30 => ?_
      refine w_blk fun K31 hK31 => ?_
      refine w_reg gC ?_
      try simp only [W, Nat.reduceAdd]
      refine w_call h fun b32 hb32 h => ?_
      obtain ⟨b33, b34⟩ := b32
      try dsimp only at h
      refine spec_l1Cur_number_w hb32 (hS.sel 2 [1, 0] (by decide)) fun H hS => ?_
      try simp only [W]
      refine w_lit (el := ([b33] : List Int).map (AV.int .i64)) hS rfl rfl rfl rfl rfl rfl rfl fun v35 H qv35 hS => ?_
      try simp only [W, EE]
      refine w_appV (l := x8) (c := (AV.int .i64)) 2 hS rfl qv9 rfl rfl rfl (hS.elems 0 rfl qv35) (fun _ => rfl) rfl h fun v38 H x37 qv38 hm h hS => ?_
      try simp only [W]
      refine blk_n0 hK31 ?_
      refine seq_n hK30 ?_
      refine w_reg gC ?_
      try simp only [W, EE, Nat.reduceAdd]
      exact lp_n hK24 h ⟨_, qv38, rfl, (hS.sel 3 [2, 1] (by decide))⟩
    · refine w_exit ?_
      refine seq_x hK28 ?_
      try obtain rfl := Option.some.inj h
      obtain rfl := hd25 _ rfl
      have h : (some (x8, x12, x13, x14) : Option ((List Int) × (List Int) × Int × Int)) = some (x8, x12, x13, x14) := rfl
      refine lp_x hK24 ?_
      refine blk_e hK23 ?_
      exact cut_n hK22 ⟨_, _, _, _, (Option.some.inj h).symm, _, qv9, rfl, hS⟩
  · obtain ⟨x15, x17, x18, x19, rfl, v16, qv16, rfl, hS⟩ := hq
    replace h := g27
    try dsimp only at h
    refine seq_n hK3 ?_
    refine w_seq fun K42 hK42 => ?_
    refine w_seq fun K43 hK43 => ?_
    refine w_reg gC ?_
    try simp only [W, Nat.reduceAdd]
    refine w_call h fun b44 hb44 h => ?_
    obtain ⟨b45, b46⟩ := b44
    try dsimp only at h
    refine spec_l1Cur_one_w hb44 (hS.sel 2 [1, 0] (by decide)) fun H hS => ?_
    try simp only [W]
    refine seq_n hK43 ?_
    obtain ⟨y53, h, g54⟩ := Option.bind_eq_some_iff.1 h
    refine w_join gC (fun s H => ∃ x47 : List Int, ∃ x50 : List Int, ∃ x51 : Int, ∃ x52 : Int, y53 = (x47, x50, x51, x52) ∧ ∃ v48 : AV, isSl v48 ∧ s = [u, u, u, v48, u, u, u, u, u, u, u, u, u, u, u, u, u, u, u, u, u, u, u] ∧ Own H (⟨v48, 1, x47.map (AV.int .i64)⟩ :: ⟨.ptr i0 w0 0 0, 3, [.agg [.fz (x50.map (AV.int .u8)), .int .i64 x51, .int .u64 x52]]⟩ :: F)) (fun K55 hK55 => ?_) (fun s H hq => ?_)
    · refine w_seq fun K56 hK56 => ?_
      refine w_if ?_
      simp only [W]
      refine w_cnd h (fun hc h => ?_) (fun hc h => ?_)
      · refine w_reg gC ?_
        try simp only [W, Nat.reduceAdd]
        refine w_call h fun b57 hb57 h => ?_
        obtain ⟨b58, b59⟩ := b57
        try dsimp only at h
        refine spec_l1Cur_pick_w hb57 hS fun H hS => ?_
        try simp only [W, EE]
        refine w_make (c := (AV.int .i64)) hS rfl rfl rfl rfl rfl rfl h fun v60 H x62 qv60 hm h hS => ?_
        try simp only [W]
        refine seq_n hK56 ?_
        refine w_kill ?_
        exact cut_n hK55 ⟨_, _, _, _, (Option.some.inj h).symm, _, qv60, rfl, (hS.sel 3 [0, 1] (by decide))⟩
      · refine w_skip ?_
        refine seq_n hK56 ?_
        refine w_kill ?_
        exact cut_n hK55 ⟨_, _, _, _, (Option.some.inj h).symm, _, qv16, rfl, (hS.sel 2 [1, 0] (by decide))⟩
    · obtain ⟨x47, x50, x51, x52, rfl, v48, qv48, rfl, hS⟩ := hq
      replace h := g54
      try dsimp only at h
      refine seq_n hK42 ?_
      refine w_seq fun K63 hK63 => ?_
      refine w_reg gC ?_
      try simp only [W, Nat.reduceAdd]
      refine seq_n hK63 ?_
      refine w_ret ?_
      refine fin_r1 hK0 rfl ?_
      try obtain rfl := Option.some.inj h
      exact hP _ qv48 _ hS
theorem spec_DrawPutList_w {a0 : List Int} {r : (List Int)} (h : spec_DrawPutList a0 = some r) {F : List It} {H : Heap} (hS : Own H (F)) {P : AV → Heap → Prop} (hP : ∀ v11 : AV, isSl v11 → ∀ H', Own H' (⟨v11, 1, r.map (AV.int .i64)⟩ :: F) → P (v11) H') : ACall C 104 [.fz (a0.map (AV.int .u8))] H P := by
  refine acall_of gC (res := [.tmp 2]) (n := 9) rfl rfl rfl rfl fun K0 hK0 => ?_
  simp only [W, Nat.reduceSub, Nat.reduceAdd, List.replicate]
  unfold spec_DrawPutList at h
  refine w_seq fun K1 hK1 => ?_
  refine w_reg gC ?_
  try simp only [W, Nat.reduceAdd]
  refine seq_n hK1 ?_
  refine w_seq fun K2 hK2 => ?_
  refine w_reg gC ?_
  try simp only [W, EE, Nat.reduceAdd]
  refine w_bld rfl rfl rfl rfl rfl ?_
  try simp only [W]
  refine w_box hS rfl rfl rfl rfl fun ip3 wp3 H hS => ?_
  try simp only [W]
  refine seq_n hK2 ?_
  refine w_seq fun K5 hK5 => ?_
  refine w_reg gC ?_
  try simp only [W, Nat.reduceAdd]
  refine w_call h fun b6 hb6 h => ?_
  obtain ⟨b7, b8⟩ := b6
  try dsimp only at h
  refine spec_l1Cur_numbers_w hb6 hS fun v9 qv9 H hS => ?_
  try simp only [W]
  refine seq_n hK5 ?_
  refine w_ret ?_
  refine fin_r1 hK0 rfl ?_
  try obtain rfl := Option.some.inj h
  exact hP _ qv9 _ (hS.sel 2 [0] (by decide))
theorem impl_in_w {a0 : Int} {a1 : Int} {a2 : Int} {r : (Bool)} (h : impl_in a0 a1 a2 = some r) {F : List It} {H : Heap} (hS : Own H (F)) {P : AV → Heap → Prop} (hP : ∀ H', Own H' (F) → P (.bool r) H') : ACall C 147 [.int .i64 a0, .int .i64 a1, .int .i64 a2] H P := by
  refine acall_of gC (res := [.tmp 6]) (n := 15) rfl rfl rfl rfl fun K0 hK0 => ?_
  simp only [W, Nat.reduceSub, Nat.reduceAdd, List.replicate]
  unfold impl_in at h
  refine w_seq fun K1 hK1 => ?_
  refine w_reg gC ?_
  try simp only [W, Nat.reduceAdd]
  refine seq_n hK1 ?_
  refine w_seq fun K2 hK2 => ?_
  refine w_reg gC ?_
  try simp only [W, EE, Nat.reduceAdd]
  refine w_grdT h (fun hc h => ?_) (fun hc h => ?_)
  · try simp only [W, EE, reduceIte, hc]
    refine seq_n hK2 ?_
    refine w_ret ?_
    refine fin_r1 hK0 rfl ?_
    try obtain rfl := Option.some.inj h
    exact hP _ hS
  · try simp only [W, hc]
    refine seq_n hK2 ?_
    refine w_ret ?_
    refine fin_r1 hK0 rfl ?_
    try obtain rfl := Option.some.inj h
    exact hP _ hS
theorem impl_isNumber_w {a0 : Int} {r : (Bool)} (h : impl_isNumber a0 = some r) {F : List It} {H : Heap} (hS : Own H (F)) {P : AV → Heap → Prop} (hP : ∀ H', Own H' (F) → P (.bool r) H') : ACall C 225 [.int .i64 a0] H P := by
  refine acall_of gC (res := [.tmp 2]) (n := 5) rfl rfl rfl rfl fun K0 hK0 => ?_
  simp only [W, Nat.reduceSub, Nat.reduceAdd, List.replicate]
  unfold impl_isNumber at h
  refine w_seq fun K1 hK1 => ?_
  refine w_reg gC ?_
  try simp only [W, Nat.reduceAdd]
  refine seq_n hK1 ?_
  refine w_seq fun K2 hK2 => ?_
  refine w_reg gC ?_
  try simp only [W, Nat.reduceAdd]
  refine w_call h fun b3 hb3 h => ?_
  refine impl_in_w hb3 hS fun H hS => ?_
  try simp only [W]
  refine seq_n hK2 ?_
  refine w_ret ?_
  refine fin_r1 hK0 rfl ?_
  try obtain rfl := Option.some.inj h
  exact hP _ hS
theorem impl_sizeOf_w {a0 : Int} {r : (Int)} (h : impl_sizeOf a0 = some r) {F : List It} {H : Heap} (hS : Own H (F)) {P : AV → Heap → Prop} (hP : ∀ H', Own H' (F) → P (.int .i64 r) H') : ACall C 266 [.int .i64 a0] H P := by
  refine acall_of gC (res := [.tmp 2]) (n := 12) rfl rfl rfl rfl fun K0 hK0 => ?_
  simp only [W, Nat.reduceSub, Nat.reduceAdd, List.replicate]
  unfold impl_sizeOf at h
  refine w_seq fun K1 hK1 => ?_
  refine w_reg gC ?_
  try simp only [W, Nat.reduceAdd]
  refine seq_n hK1 ?_
  refine w_seq fun K2 hK2 => ?_
  refine w_blk fun K3 hK3 => ?_
  refine w_seq fun K4 hK4 => ?_
  refine w_reg gC ?_
  try simp only [W, EE, Nat.reduceAdd]
  refine seq_n hK4 ?_
  refine w_if ?_
  simp only [W]
  refine w_cnd h (fun hc h => ?_) (fun hc h => ?_)
  · refine w_seq fun K5 hK5 => ?_
    refine w_reg gC ?_
    try simp only [W, Nat.reduceAdd]
    refine seq_n hK5 ?_
    refine w_ret ?_
    refine blk_r hK3 ?_
    refine seq_r hK2 ?_
    refine fin_r1 hK0 rfl ?_
    try obtain rfl := Option.some.inj h
    exact hP _ hS
  · refine w_seq fun K6 hK6 => ?_
    refine w_reg gC ?_
    try simp only [W, EE, Nat.reduceAdd]
    refine seq_n hK6 ?_
    refine w_if ?_
    simp only [W]
    refine w_cnd h (fun hc h => ?_) (fun hc h => ?_)
    · refine w_seq fun K7 hK7 => ?_
      refine w_reg gC ?_
      try simp only [W, Nat.reduceAdd]
      refine seq_n hK7 ?_
      refine w_ret ?_
      refine blk_r hK3 ?_
      refine seq_r hK2 ?_
      refine fin_r1 hK0 rfl ?_
      try obtain rfl := Option.some.inj h
      exact hP _ hS
    · refine w_seq fun K8 hK8 => ?_
      refine w_reg gC ?_
      try simp only [W, EE, Nat.reduceAdd]
      refine seq_n hK8 ?_
      refine w_if ?_
      simp only [W]
      refine w_cnd h (fun hc h => ?_) (fun hc h => ?_)
      · refine w_seq fun K9 hK9 => ?_
        refine w_reg gC ?_
        try simp only [W, Nat.reduceAdd]
        refine seq_n hK9 ?_
        refine w_ret ?_
        refine blk_r hK3 ?_
        refine seq_r hK2 ?_
        refine fin_r1 hK0 rfl ?_
        try obtain rfl := Option.some.inj h
        exact hP _ hS
      · refine w_skip ?_
        refine blk_n0 hK3 ?_
        refine seq_n hK2 ?_
        refine w_seq fun K10 hK10 => ?_
        refine w_reg gC ?_
        try simp only [W, Nat.reduceAdd]
        refine seq_n hK10 ?_
        refine w_ret ?_
        refine fin_r1 hK0 rfl ?_
        try obtain rfl := Option.some.inj h
        exact hP _ hS
theorem impl_wide_w {a0 : Int} {a1 : Int} {r : (List UInt8)} (h : impl_wide a0 a1 = some r) {F : List It} {H : Heap} (hS : Own H (F)) {P : AV → Heap → Prop} (hP : ∀ H', Own H' (F) → P (.str r) H') : ACall C 265 [.int .i64 a0, .int .i64 a1] H P := by
  refine acall_of gC (res := [.tmp 4]) (n := 35) rfl rfl rfl rfl fun K0 hK0 => ?_
  simp only [W, Nat.reduceSub, Nat.reduceAdd, List.replicate]
  unfold impl_wide at h
  refine w_seq fun K1 hK1 => ?_
  refine w_reg gC ?_
  try simp only [W, Nat.reduceAdd]
  refine seq_n hK1 ?_
  refine w_seq fun K2 hK2 => ?_
  refine w_reg gC ?_
  try simp only [W, Nat.reduceAdd]
  refine w_make (c := (AV.int .u8)) hS rfl rfl rfl rfl rfl rfl h fun v3 H x5 qv3 hm h hS => ?_
  try simp only [W]
  refine seq_n hK2 ?_
  refine w_seq fun K6 hK6 => ?_
  refine w_seq fun K7 hK7 => ?_
  refine w_reg gC ?_
  try simp only [W, EE, Nat.reduceAdd]
  refine seq_n hK7 ?_
  obtain ⟨y12, hw13, g19⟩ := Option.bind_eq_some_iff.1 h
  refine w_join gC (fun s H => ∃ x11 : List Int, y12 = (x11) ∧ s = [u, .int .i64 a1, u, u, u, v3, u, u, u, u, u, u, u, u, u, u, u, u, u, u, u, u, u, u, u, u, u, u, u, u, u, u, u, u, u] ∧ Own H (⟨v3, 1, x11.map (AV.int .u8)⟩ :: F)) (fun K14 hK14 => ?_) (fun s H hq => ?_)
  · refine w_blk fun K15 hK15 => ?_
    refine w_loop gC hw13 (fun x s H => match x with | (x8, x9, x10) => s = [.int .i64 x8, .int .i64 a1, u, u, u, v3, .int .i64 x10, u, u, u, u, u, u, u, u, u, u, u, u, u, u, u, u, u, u, u, u, u, u, u, u, u, u, u, u] ∧ Own H (⟨v3, 1, x9.map (AV.int .u8)⟩ :: F)) ⟨rfl, hS⟩ (fun x y18 s H h hd17 hi K16 hK16 => ?_)
    obtain ⟨x8, x9, x10⟩ := x
    try dsimp only at hi
    obtain ⟨rfl, hS⟩ := hi
    simp only [impl_wide_l0] at h
    refine w_seq fun K20 hK20 => ?_
    refine w_seq fun K21 hK21 => ?_
    refine w_reg gC ?_
    try simp only [W, EE, Nat.reduceAdd]
    refine seq_n hK21 ?_
    refine w_if ?_
    simp only [W]
    refine w_cnd h (fun hc h => ?_) (fun hc h => ?_)
    · refine w_skip ?_
      refine seq_n hK20 ?_
      refine w_seq fun K22 hK22 => ?_
      refine w_blk fun K23 hK23 => ?_
      refine w_seq fun K24 hK24 => ?_
      refine w_reg gC ?_
      try simp only [W, EE, Nat.reduceAdd]
      refine w_ow 0 hS rfl rfl rfl rfl rfl h (fun b25 in26 wn26 on26 hb25 h en26 => ?_) qv3.ne
      obtain ⟨kn26, hbn26, hen26⟩ := hS.elem 0 rfl en26 hb25
      try simp only [W]
      refine w_ste (a := .int .u8 (IntKind.u8.wrap x8)) (y' := (IntKind.u8.wrap x8)) 0 hS rfl en26 hb25 rfl rfl rfl rfl rfl rfl rfl fun H hS => ?_
      try simp only [W]
      refine seq_n hK24 ?_
      refine w_reg gC ?_
      try simp only [W, EE, Nat.reduceAdd]
      rw [sr_lit _ _ _ rfl, Option.map_some, resV_s]
      try simp only [W]
      refine blk_n0 hK23 ?_
      refine seq_n hK22 ?_
      refine w_reg gC ?_
      try simp only [W, EE, Nat.reduceAdd]
      exact lp_n hK16 h ⟨rfl, hS⟩
    · refine w_exit ?_
      refine seq_x hK20 ?_
      try obtain rfl := Option.some.inj h
      obtain rfl := hd17 _ rfl
      have h : (some (x9) : Option ((List Int))) = some (x9) := rfl
      refine lp_x hK16 ?_
      refine blk_e hK15 ?_
      exact cut_n hK14 ⟨_, (Option.some.inj h).symm, rfl, hS⟩
  · obtain ⟨x11, ey, rfl, hS⟩ := hq; obtain rfl := ey.symm
    replace h := g19
    try dsimp only at h
    refine seq_n hK6 ?_
    refine w_seq fun K29 hK29 => ?_
    refine w_seq fun K30 hK30 => ?_
    refine w_reg gC ?_
    try simp only [W, Nat.reduceAdd]
    refine seq_n hK30 ?_
    obtain ⟨y34, hw35, g41⟩ := Option.bind_eq_some_iff.1 h
    refine w_join gC (fun s H => ∃ x33 : List Int, y34 = (x33) ∧ s = [u, u, u, u, u, v3, u, u, u, u, u, u, u, u, u, u, u, u, u, u, u, u, u, u, u, u, u, u, u, u, u, u, u, u, u] ∧ Own H (⟨v3, 1, x33.map (AV.int .u8)⟩ :: F)) (fun K36 hK36 => ?_) (fun s H hq => ?_)
    · refine w_blk fun K37 hK37 => ?_
      refine w_loop gC hw35 (fun x s H => match x with | (x31, x32) => s = [u, .int .i64 a1, u, u, u, v3, u, .int .i64 x32, u, u, u, u, u, u, u, u, u, u, u, u, u, u, u, u, u, u, u, u, u, u, u, u, u, u, u] ∧ Own H (⟨v3, 1, x31.map (AV.int .u8)⟩ :: F)) ⟨rfl, hS⟩ (fun x y40 s H h hd39 hi K38 hK38 => ?_)
      obtain ⟨x31, x32⟩ := x
      try dsimp only at hi
      obtain ⟨rfl, hS⟩ := hi
      simp only [impl_wide_l1] at h
      refine w_seq fun K42 hK42 => ?_
      refine w_seq fun K43 hK43 => ?_
      refine w_reg gC ?_
      try simp only [W, EE, Nat.reduceAdd]
      refine seq_n hK43 ?_
      refine w_if ?_
      simp only [W]
      refine w_cnd h (fun hc h => ?_) (fun hc h => ?_)
      · refine w_skip ?_
        refine seq_n hK42 ?_
        refine w_seq fun K44 hK44 => ?_
        refine w_blk fun K45 hK45 => ?_
        refine w_reg gC ?_
        try simp only [W, EE, Nat.reduceAdd]
        refine w_ow 0 hS rfl rfl rfl rfl rfl h (fun b46 in47 wn47 on47 hb46 h en47 => ?_) qv3.ne
        obtain ⟨kn47, hbn47, hen47⟩ := hS.elem 0 rfl en47 hb46
        try simp only [W, EE, hbn47, hen47]
        refine w_ow 0 hS rfl rfl rfl rfl rfl h (fun b48 in49 wn49 on49 hb48 h en49 => ?_) qv3.ne
        obtain ⟨kn49, hbn49, hen49⟩ := hS.elem 0 rfl en49 hb48
        try simp only [W]
        refine w_ste (a := .int .u8 (IntKind.u8.wrap (b46 + 64))) (y' := (IntKind.u8.wrap (b46 + 64))) 0 hS rfl en49 hb48 rfl rfl rfl rfl rfl rfl rfl fun H hS => ?_
        try simp only [W]
        refine blk_n0 hK45 ?_
        refine seq_n hK44 ?_
        refine w_reg gC ?_
        try simp only [W, EE, Nat.reduceAdd]
        exact lp_n hK38 h ⟨rfl, hS⟩
      · refine w_exit ?_
        refine seq_x hK42 ?_
        try obtain rfl := Option.some.inj h
        obtain rfl := hd39 _ rfl
        have h : (some (x31) : Option ((List Int))) = some (x31) := rfl
        refine lp_x hK38 ?_
        refine blk_e hK37 ?_
        exact cut_n hK36 ⟨_, (Option.some.inj h).symm, rfl, hS⟩
    · obtain ⟨x33, ey, rfl, hS⟩ := hq; obtain rfl := ey.symm
      replace h := g41
      try dsimp only at h
      refine seq_n hK29 ?_
      refine w_seq fun K52 hK52 => ?_
      refine w_reg gC ?_
      try simp only [W, EE, Nat.reduceAdd]
      refine w_b2s rfl rfl rfl rfl rfl rfl rfl (hS.elems 0 rfl qv3) (hS.notStr 0 rfl) ?_
      try simp only [W]
      refine seq_n hK52 ?_
      refine w_ret ?_
      refine fin_r1 hK0 rfl ?_
      try obtain rfl := Option.some.inj h
      exact hP _ (hS.sel 1 [] (by decide))
theorem impl_number_w {a0 : Int} {r : (List UInt8)} (h : impl_number a0 = some r) {F : List It} {H : Heap} (hS : Own H (F)) {P : AV → Heap → Prop} (hP : ∀ H', Own H' (F) → P (.str r) H') : ACall C 226 [.int .i64 a0] H P := by
  refine acall_of gC (res := [.tmp 2]) (n := 7) rfl rfl rfl rfl fun K0 hK0 => ?_
  simp only [W, Nat.reduceSub, Nat.reduceAdd, List.replicate]
  unfold impl_number at h
  refine w_seq fun K1 hK1 => ?_
  refine w_reg gC ?_
  try simp only [W, Nat.reduceAdd]
  refine seq_n hK1 ?_
  refine w_seq fun K2 hK2 => ?_
  refine w_reg gC ?_
  try simp only [W, Nat.reduceAdd]
  refine w_call h fun b3 hb3 h => ?_
  refine impl_sizeOf_w hb3 hS fun H hS => ?_
  try simp only [W]
  refine w_call h fun b4 hb4 h => ?_
  refine impl_wide_w hb4 hS fun H hS => ?_
  try simp only [W]
  refine seq_n hK2 ?_
  refine w_ret ?_
  refine fin_r1 hK0 rfl ?_
  try obtain rfl := Option.some.inj h
  exact hP _ hS
theorem impl_PutList_w {a0 : List Int} {r : (List UInt8 × Bool)} (h : impl_PutList a0 = some r) {F : List It} {H : Heap} (hS : Own H (F)) {P : AV → Heap → Prop} (hP : ∀ H', Own H' (F) → P (.tup [.str r.1, .bool r.2]) H') : ACall C 105 [.fz (a0.map (AV.int .i64))] H P := by
  refine acall_of gC (res := [.tmp 2, .tmp 3]) (n := 25) rfl rfl rfl rfl fun K0 hK0 => ?_
  simp only [W, Nat.reduceSub, Nat.reduceAdd, List.replicate]
  unfold impl_PutList at h
  refine w_seq fun K1 hK1 => ?_
  refine w_reg gC ?_
  try simp only [W, Nat.reduceAdd]
  refine seq_n hK1 ?_
  refine w_seq fun K2 hK2 => ?_
  refine w_seq fun K3 hK3 => ?_
  refine w_reg gC ?_
  try simp only [W, EE, Nat.reduceAdd]
  refine seq_n hK3 ?_
  refine w_if ?_
  simp only [W]
  refine w_cnd h (fun hc h => ?_) (fun hc h => ?_)
  · refine w_seq fun K4 hK4 => ?_
    refine w_reg gC ?_
    try simp only [W, Nat.reduceAdd]
    refine seq_n hK4 ?_
    refine w_ret ?_
    refine seq_r hK2 ?_
    refine fin_r2 hK0 rfl rfl ?_
    try obtain rfl := Option.some.inj h
    exact hP _ hS
  · refine w_skip ?_
    refine seq_n hK2 ?_
    refine w_seq fun K5 hK5 => ?_
    refine w_reg gC ?_
    try simp only [W, Nat.reduceAdd]
    refine seq_n hK5 ?_
    refine w_seq fun K6 hK6 => ?_
    refine w_seq fun K7 hK7 => ?_
    refine w_reg gC ?_
    try simp only [W, EE, Nat.reduceAdd]
    refine seq_n hK7 ?_
    obtain ⟨y11, hw12, g18⟩ := Option.bind_eq_some_iff.1 h
    refine w_join gC (fun s H => ∃ x10 : List UInt8, y11 = LR.next (x10) ∧ s = [u, u, u, u, .str x10, u, u, u, u, u, u, u, u, u, u, u, u, u, u, u, u, u, u, u, u] ∧ Own H (F)) (fun K13 hK13 => ?_) (fun s H hq => ?_)
    · refine w_blk fun K14 hK14 => ?_
      refine w_loop gC hw12 (fun x s H => match x with | (x8, x9) => s = [u, u, u, u, .str x8, u, u, u, u, u, .fz (a0.map (AV.int .i64)), .int .i64 (a0.length : Int), .int .i64 x9, u, u, u, u, u, u, u, u, u, u, u, u] ∧ Own H (F)) ⟨rfl, hS⟩ (fun x y17 s H h hd16 hi K15 hK15 => ?_)
      obtain ⟨x8, x9⟩ := x
      try dsimp only at hi
      obtain ⟨rfl, hS⟩ := hi
      simp only [impl_PutList_l0] at h
      refine w_seq fun K19 hK19 => ?_
      refine w_reg gC ?_
      try simp only [W, EE, Nat.reduceAdd]
      refine seq_n hK19 ?_
      refine w_seq fun K20 hK20 => ?_
      refine w_if ?_
      simp only [W]
      refine w_cnd h (fun hc h => ?_) (fun hc h => ?_)
      · refine w_skip ?_
        refine seq_n hK20 ?_
        refine w_seq fun K21 hK21 => ?_
        refine w_blk fun K22 hK22 => ?_
        refine w_seq fun K23 hK23 => ?_
        refine w_reg gC ?_
        try simp only [W, EE, Nat.reduceAdd]
        refine w_fz rfl rfl rfl (fun _ => rfl) h fun b24 hb24 h => ?_
        try simp only [W, EE]
        refine seq_n hK23 ?_
        refine w_seq fun K25 hK25 => ?_
        refine w_seq fun K26 hK26 => ?_
        refine w_reg gC ?_
        try simp only [W, Nat.reduceAdd]
        refine w_call h fun b27 hb27 h => ?_
        refine impl_isNumber_w hb27 hS fun H hS => ?_
        try simp only [W]
        refine seq_n hK26 ?_
        refine w_if ?_
        simp only [W]
        refine w_cnd h (fun hc h => ?_) (fun hc h => ?_)
        · refine w_seq fun K28 hK28 => ?_
          refine w_reg gC ?_
          try simp only [W, Nat.reduceAdd]
          refine seq_n hK28 ?_
          refine w_ret ?_
          refine seq_r hK25 ?_
          refine blk_r hK22 ?_
          refine seq_r hK21 ?_
          try obtain rfl := Option.some.inj h
          obtain rfl := hd16 _ rfl
          have h : (some (LR.done ([], false)) : Option (LR ((List UInt8)) (List UInt8 × Bool))) = some (LR.done ([], false)) := rfl
          refine lp_r hK15 ?_
          refine blk_r hK14 ?_
          try obtain rfl := Option.some.inj h
          obtain rfl := Option.some.inj g18
          have h : (some ([], false) : Option (List UInt8 × Bool)) = some ([], false) := rfl
          refine cut_r hK13 ?_
          refine seq_r hK6 ?_
          refine fin_r2 hK0 rfl rfl ?_
          try obtain rfl := Option.some.inj h
          exact hP _ hS
        · refine w_skip ?_
          refine seq_n hK25 ?_
          refine w_reg gC ?_
          try simp only [W, Nat.reduceAdd]
          refine w_call h fun b33 hb33 h => ?_
          refine impl_number_w hb33 hS fun H hS => ?_
          try simp only [W, EE]
          refine w_cat h fun x34 hx34 h => ?_
          try simp only [W]
          refine blk_n0 hK22 ?_
          refine seq_n hK21 ?_
          refine w_reg gC ?_
          try simp only [W, EE, Nat.reduceAdd]
          exact lp_n hK15 h ⟨rfl, hS⟩
      · refine w_exit ?_
        refine seq_x hK20 ?_
        try obtain rfl := Option.some.inj h
        obtain rfl := hd16 _ rfl
        have h : (some (LR.next (x8)) : Option (LR ((List UInt8)) (List UInt8 × Bool))) = some (LR.next (x8)) := rfl
        refine lp_x hK15 ?_
        refine blk_e hK14 ?_
        exact cut_n hK13 ⟨_, (Option.some.inj h).symm, rfl, hS⟩
    · obtain ⟨x10, ey, rfl, hS⟩ := hq; obtain rfl := ey.symm
      replace h := g18
      try dsimp only at h
      refine seq_n hK6 ?_
      refine w_seq fun K37 hK37 => ?_
      refine w_reg gC ?_
      try simp only [W, Nat.reduceAdd]
      refine seq_n hK37 ?_
      refine w_ret ?_
      refine fin_r2 hK0 rfl rfl ?_
      try obtain rfl := Option.some.inj h
      exact hP _ hS
theorem spec_l1In_w {a0 : Int} {a1 : Int} {a2 : Int} {r : (Bool)} (h : spec_l1In a0 a1 a2 = some r) {F : List It} {H : Heap} (hS : Own H (F)) {P : AV → Heap → Prop} (hP : ∀ H', Own H' (F) → P (.bool r) H') : ACall C 153 [.int .i64 a0, .int .i64 a1, .int .i64 a2] H P := by
  refine acall_of gC (res := [.tmp 6]) (n := 15) rfl rfl rfl rfl fun K0 hK0 => ?_
  simp only [W, Nat.reduceSub, Nat.reduceAdd, List.replicate]
  unfold spec_l1In at h
  refine w_seq fun K1 hK1 => ?_
  refine w_reg gC ?_
  try simp only [W, Nat.reduceAdd]
  refine seq_n hK1 ?_
  refine w_seq fun K2 hK2 => ?_
  refine w_reg gC ?_
  try simp only [W, EE, Nat.reduceAdd]
  refine w_grdT h (fun hc h => ?_) (fun hc h => ?_)
  · try simp only [W, EE, reduceIte, hc]
    refine seq_n hK2 ?_
    refine w_ret ?_
    refine fin_r1 hK0 rfl ?_
    try obtain rfl := Option.some.inj h
    exact hP _ hS
  · try simp only [W, hc]
    refine seq_n hK2 ?_
    refine w_ret ?_
    refine fin_r1 hK0 rfl ?_
    try obtain rfl := Option.some.inj h
    exact hP _ hS
theorem spec_l1All_w {a0 : List Int} {a1 : Int} {a2 : Int} {r : (Bool)} (h : spec_l1All a0 a1 a2 = some r) {F : List It} {H : Heap} (hS : Own H (F)) {P : AV → Heap → Prop} (hP : ∀ H', Own H' (F) → P (.bool r) H') : ACall C 150 [.fz (a0.map (AV.int .i64)), .int .i64 a1, .int .i64 a2] H P := by
  refine acall_of gC (res := [.tmp 6]) (n := 21) rfl rfl rfl rfl fun K0 hK0 => ?_
  simp only [W, Nat.reduceSub, Nat.reduceAdd, List.replicate]
  unfold spec_l1All at h
  refine w_seq fun K1 hK1 => ?_
  refine w_reg gC ?_
  try simp only [W, Nat.reduceAdd]
  refine seq_n hK1 ?_
  refine w_seq fun K2 hK2 => ?_
  refine w_seq fun K3 hK3 => ?_
  refine w_reg gC ?_
  try simp only [W, EE, Nat.reduceAdd]
  refine seq_n hK3 ?_
  obtain ⟨y5, hw6, g12⟩ := Option.bind_eq_some_iff.1 h
  refine w_join gC (fun s H => y5 = LR.next () ∧ s = [u, u, u, u, u, u, u, u, u, u, u, u, u, u, u, u, u, u, u, u, u] ∧ Own H (F)) (fun K7 hK7 => ?_) (fun s H hq => ?_)
  · refine w_blk fun K8 hK8 => ?_
    refine w_loop gC hw6 (fun x s H => s = [u, .int .i64 a1, .int .i64 a2, u, u, u, u, u, u, .fz (a0.map (AV.int .i64)), .int .i64 (a0.length : Int), .int .i64 x, u, u, u, u, u, u, u, u, u] ∧ Own H (F)) ⟨rfl, hS⟩ (fun x4 y11 s H h hd10 hi K9 hK9 => ?_)
    skip
    try dsimp only at hi
    obtain ⟨rfl, hS⟩ := hi
    simp only [spec_l1All_l0] at h
    refine w_seq fun K13 hK13 => ?_
    refine w_reg gC ?_
    try simp only [W, EE, Nat.reduceAdd]
    refine seq_n hK13 ?_
    refine w_seq fun K14 hK14 => ?_
    refine w_if ?_
    simp only [W]
    refine w_cnd h (fun hc h => ?_) (fun hc h => ?_)
    · refine w_skip ?_
      refine seq_n hK14 ?_
      refine w_seq fun K15 hK15 => ?_
      refine w_blk fun K16 hK16 => ?_
      refine w_seq fun K17 hK17 => ?_
      refine w_reg gC ?_
      try simp only [W, EE, Nat.reduceAdd]
      refine w_fz rfl rfl rfl (fun _ => rfl) h fun b18 hb18 h => ?_
      try simp only [W, EE]
      refine seq_n hK17 ?_
      refine w_seq fun K19 hK19 => ?_
      refine w_reg gC ?_
      try simp only [W, Nat.reduceAdd]
      refine w_call h fun b20 hb20 h => ?_
      refine spec_l1In_w hb20 hS fun H hS => ?_
      try simp only [W]
      refine seq_n hK19 ?_
      refine w_if ?_
      simp only [W]
      refine w_cnd h (fun hc h => ?_) (fun hc h => ?_)
      · refine w_seq fun K21 hK21 => ?_
        refine w_reg gC ?_
        try simp only [W, Nat.reduceAdd]
        refine seq_n hK21 ?_
        refine w_ret ?_
        refine blk_r hK16 ?_
        refine seq_r hK15 ?_
        try obtain rfl := Option.some.inj h
        obtain rfl := hd10 _ rfl
        have h : (some (LR.done false) : Option (LR Unit (Bool))) = some (LR.done false) := rfl
        refine lp_r hK9 ?_
        refine blk_r hK8 ?_
        try obtain rfl := Option.some.inj h
        obtain rfl := Option.some.inj g12
        have h : (some false : Option (Bool)) = some false := rfl
        refine cut_r hK7 ?_
        refine seq_r hK2 ?_
        refine fin_r1 hK0 rfl ?_
        try obtain rfl := Option.some.inj h
        exact hP _ hS
      · refine w_skip ?_
        refine blk_n0 hK16 ?_
        refine seq_n hK15 ?_
        refine w_reg gC ?_
        try simp only [W, EE, Nat.reduceAdd]
        exact lp_n hK9 h ⟨rfl, hS⟩
    · refine w_exit ?_
      refine seq_x hK14 ?_
      try obtain rfl := Option.some.inj h
      obtain rfl := hd10 _ rfl
      have h : (some (LR.next ()) : Option (LR Unit (Bool))) = some (LR.next ()) := rfl
      refine lp_x hK9 ?_
      refine blk_e hK8 ?_
      exact cut_n hK7 ⟨(Option.some.inj h).symm, rfl, hS⟩
  · obtain ⟨rfl, rfl, hS⟩ := hq
    replace h := g12
    try dsimp only at h
    refine seq_n hK2 ?_
    refine w_seq fun K28 hK28 => ?_
    refine w_reg gC ?_
    try simp only [W, Nat.reduceAdd]
    refine seq_n hK28 ?_
    refine w_ret ?_
    refine fin_r1 hK0 rfl ?_
    try obtain rfl := Option.some.inj h
    exact hP _ hS
theorem spec_l1Size_w {a0 : Int} {r : (Int)} (h : spec_l1Size a0 = some r) {F : List It} {H : Heap} (hS : Own H (F)) {P : AV → Heap → Prop} (hP : ∀ H', Own H' (F) → P (.int .i64 r) H') : ACall C 268 [.int .i64 a0] H P := by
  refine acall_of gC (res := [.tmp 2]) (n := 12) rfl rfl rfl rfl fun K0 hK0 => ?_
  simp only [W, Nat.reduceSub, Nat.reduceAdd, List.replicate]
  unfold spec_l1Size at h
  refine w_seq fun K1 hK1 => ?_
  refine w_reg gC ?_
  try simp only [W, Nat.reduceAdd]
  refine seq_n hK1 ?_
  refine w_seq fun K2 hK2 => ?_
  refine w_blk fun K3 hK3 => ?_
  refine w_seq fun K4 hK4 => ?_
  refine w_reg gC ?_
  try simp only [W, EE, Nat.reduceAdd]
  refine seq_n hK4 ?_
  refine w_if ?_
  simp only [W]
  refine w_cnd h (fun hc h => ?_) (fun hc h => ?_)
  · refine w_seq fun K5 hK5 => ?_
    refine w_reg gC ?_
    try simp only [W, Nat.reduceAdd]
    refine seq_n hK5 ?_
    refine w_ret ?_
    refine blk_r hK3 ?_
    refine seq_r hK2 ?_
    refine fin_r1 hK0 rfl ?_
    try obtain rfl := Option.some.inj h
    exact hP _ hS
  · refine w_seq fun K6 hK6 => ?_
    refine w_reg gC ?_
    try simp only [W, EE, Nat.reduceAdd]
    refine seq_n hK6 ?_
    refine w_if ?_
    simp only [W]
    refine w_cnd h (fun hc h => ?_) (fun hc h => ?_)
    · refine w_seq fun K7 hK7 => ?_
      refine w_reg gC ?_
      try simp only [W, Nat.reduceAdd]
      refine seq_n hK7 ?_
      refine w_ret ?_
      refine blk_r hK3 ?_
      refine seq_r hK2 ?_
      refine fin_r1 hK0 rfl ?_
      try obtain rfl := Option.some.inj h
      exact hP _ hS
    · refine w_seq fun K8 hK8 => ?_
      refine w_reg gC ?_
      try simp only [W, EE, Nat.reduceAdd]
      refine seq_n hK8 ?_
      refine w_if ?_
      simp only [W]
      refine w_cnd h (fun hc h => ?_) (fun hc h => ?_)
      · refine w_seq fun K9 hK9 => ?_
        refine w_reg gC ?_
        try simp only [W, Nat.reduceAdd]
        refine seq_n hK9 ?_
        refine w_ret ?_
        refine blk_r hK3 ?_
        refine seq_r hK2 ?_
        refine fin_r1 hK0 rfl ?_
        try obtain rfl := Option.some.inj h
        exact hP _ hS
      · refine w_skip ?_
        refine blk_n0 hK3 ?_
        refine seq_n hK2 ?_
        refine w_seq fun K10 hK10 => ?_
        refine w_reg gC ?_
        try simp only [W, Nat.reduceAdd]
        refine seq_n hK10 ?_
        refine w_ret ?_
        refine fin_r1 hK0 rfl ?_
        try obtain rfl := Option.some.inj h
        exact hP _ hS
theorem spec_l1Mark_w {a0 : Int} {r : (Int)} (h : spec_l1Mark a0 = some r) {F : List It} {H : Heap} (hS : Own H (F)) {P : AV → Heap → Prop} (hP : ∀ H', Own H' (F) → P (.int .i64 r) H') : ACall C 275 [.int .i64 a0] H P := by
  refine acall_of gC (res := [.tmp 2]) (n := 10) rfl rfl rfl rfl fun K0 hK0 => ?_
  simp only [W, Nat.reduceSub, Nat.reduceAdd, List.replicate]
  unfold spec_l1Mark at h
  refine w_seq fun K1 hK1 => ?_
  refine w_reg gC ?_
  try simp only [W, Nat.reduceAdd]
  refine seq_n hK1 ?_
  refine w_seq fun K2 hK2 => ?_
  refine w_seq fun K3 hK3 => ?_
  refine w_reg gC ?_
  try simp only [W, Nat.reduceAdd]
  refine seq_n hK3 ?_
  refine w_blk fun K4 hK4 => ?_
  refine w_seq fun K5 hK5 => ?_
  refine w_reg gC ?_
  try simp only [W, EE, Nat.reduceAdd]
  refine seq_n hK5 ?_
  refine w_if ?_
  simp only [W]
  refine w_cnd h (fun hc h => ?_) (fun hc h => ?_)
  · refine w_seq fun K6 hK6 => ?_
    refine w_reg gC ?_
    try simp only [W, Nat.reduceAdd]
    refine seq_n hK6 ?_
    refine w_ret ?_
    refine blk_r hK4 ?_
    refine seq_r hK2 ?_
    refine fin_r1 hK0 rfl ?_
    try obtain rfl := Option.some.inj h
    exact hP _ hS
  · refine w_seq fun K7 hK7 => ?_
    refine w_reg gC ?_
    try simp only [W, EE, Nat.reduceAdd]
    refine seq_n hK7 ?_
    refine w_if ?_
    simp only [W]
    refine w_cnd h (fun hc h => ?_) (fun hc h => ?_)
    · refine w_seq fun K8 hK8 => ?_
      refine w_reg gC ?_
      try simp only [W, Nat.reduceAdd]
      refine seq_n hK8 ?_
      refine w_ret ?_
      refine blk_r hK4 ?_
      refine seq_r hK2 ?_
      refine fin_r1 hK0 rfl ?_
      try obtain rfl := Option.some.inj h
      exact hP _ hS
    · refine w_seq fun K9 hK9 => ?_
      refine w_reg gC ?_
      try simp only [W, EE, Nat.reduceAdd]
      refine seq_n hK9 ?_
      refine w_if ?_
      simp only [W]
      refine w_cnd h (fun hc h => ?_) (fun hc h => ?_)
      · refine w_seq fun K10 hK10 => ?_
        refine w_reg gC ?_
        try simp only [W, Nat.reduceAdd]
        refine seq_n hK10 ?_
        refine w_ret ?_
        refine blk_r hK4 ?_
        refine seq_r hK2 ?_
        refine fin_r1 hK0 rfl ?_
        try obtain rfl := Option.some.inj h
        exact hP _ hS
      · refine w_skip ?_
        refine blk_n0 hK4 ?_
        refine seq_n hK2 ?_
        refine w_seq fun K11 hK11 => ?_
        refine w_reg gC ?_
        try simp only [W, Nat.reduceAdd]
        refine seq_n hK11 ?_
        refine w_ret ?_
        refine fin_r1 hK0 rfl ?_
        try obtain rfl := Option.some.inj h
        exact hP _ hS
theorem spec_l1Wide_w {a0 : Int} {a1 : Int} {r : (List UInt8)} (h : spec_l1Wide a0 a1 = some r) {F : List It} {H : Heap} (hS : Own H (F)) {P : AV → Heap → Prop} (hP : ∀ H', Own H' (F) → P (.str r) H') : ACall C 267 [.int .i64 a0, .int .i64 a1] H P := by
  refine acall_of gC (res := [.tmp 4]) (n := 32) rfl rfl rfl rfl fun K0 hK0 => ?_
  simp only [W, Nat.reduceSub, Nat.reduceAdd, List.replicate]
  unfold spec_l1Wide at h
  refine w_seq fun K1 hK1 => ?_
  refine w_reg gC ?_
  try simp only [W, Nat.reduceAdd]
  refine seq_n hK1 ?_
  refine w_seq fun K2 hK2 => ?_
  refine w_reg gC ?_
  try simp only [W, Nat.reduceAdd]
  refine w_make (c := (AV.int .u8)) hS rfl rfl rfl rfl rfl rfl h fun v3 H x5 qv3 hm h hS => ?_
  try simp only [W]
  refine seq_n hK2 ?_
  refine w_seq fun K6 hK6 => ?_
  refine w_seq fun K7 hK7 => ?_
  refine w_reg gC ?_
  try simp only [W, EE, Nat.reduceAdd]
  refine seq_n hK7 ?_
  obtain ⟨y12, hw13, g19⟩ := Option.bind_eq_some_iff.1 h
  refine w_join gC (fun s H => ∃ x11 : List Int, y12 = (x11) ∧ s = [u, .int .i64 a1, u, u, u, v3, u, u, u, u, u, u, u, u, u, u, u, u, u, u, u, u, u, u, u, u, u, u, u, u, u, u] ∧ Own H (⟨v3, 1, x11.map (AV.int .u8)⟩ :: F)) (fun K14 hK14 => ?_) (fun s H hq => ?_)
  · refine w_blk fun K15 hK15 => ?_
    refine w_loop gC hw13 (fun x s H => match x with | (x8, x9, x10) => s = [.int .i64 x8, .int .i64 a1, u, u, u, v3, .int .i64 x10, u, u, u, u, u, u, u, u, u, u, u, u, u, u, u, u, u, u, u, u, u, u, u, u, u] ∧ Own H (⟨v3, 1, x9.map (AV.int .u8)⟩ :: F)) ⟨rfl, hS⟩ (fun x y18 s H h hd17 hi K16 hK16 => ?_)
    obtain ⟨x8, x9, x10⟩ := x
    try dsimp only at hi
    obtain ⟨rfl, hS⟩ := hi
    simp only [spec_l1Wide_l0] at h
    refine w_seq fun K20 hK20 => ?_
    refine w_seq fun K21 hK21 => ?_
    refine w_reg gC ?_
    try simp only [W, EE, Nat.reduceAdd]
    refine seq_n hK21 ?_
    refine w_if ?_
    simp only [W]
    refine w_cnd h (fun hc h => ?_) (fun hc h => ?_)
    · refine w_skip ?_
      refine seq_n hK20 ?_
      refine w_seq fun K22 hK22 => ?_
      refine w_blk fun K23 hK23 => ?_
      refine w_seq fun K24 hK24 => ?_
      refine w_reg gC ?_
      try simp only [W, EE, Nat.reduceAdd]
      refine w_ow 0 hS rfl rfl rfl rfl rfl h (fun b25 in26 wn26 on26 hb25 h en26 => ?_) qv3.ne
      obtain ⟨kn26, hbn26, hen26⟩ := hS.elem 0 rfl en26 hb25
      try simp only [W]
      refine w_ste (a := .int .u8 (IntKind.u8.wrap x8)) (y' := (IntKind.u8.wrap x8)) 0 hS rfl en26 hb25 rfl rfl rfl rfl rfl rfl rfl fun H hS => ?_
      try simp only [W]
      refine seq_n hK24 ?_
      refine w_reg gC ?_
      try simp only [W, EE, Nat.reduceAdd]
      rw [sr_lit _ _ _ rfl, Option.map_some, resV_s]
      try simp only [W]
      refine blk_n0 hK23 ?_
      refine seq_n hK22 ?_
      refine w_reg gC ?_
      try simp only [W, EE, Nat.reduceAdd]
      exact lp_n hK16 h ⟨rfl, hS⟩
    · refine w_exit ?_
      refine seq_x hK20 ?_
      try obtain rfl := Option.some.inj h
      obtain rfl := hd17 _ rfl
      have h : (some (x9) : Option ((List Int))) = some (x9) := rfl
      refine lp_x hK16 ?_
      refine blk_e hK15 ?_
      exact cut_n hK14 ⟨_, (Option.some.inj h).symm, rfl, hS⟩
  · obtain ⟨x11, ey, rfl, hS⟩ := hq; obtain rfl := ey.symm
    replace h := g19
    try dsimp only at h
    refine seq_n hK6 ?_
    refine w_seq fun K29 hK29 => ?_
    refine w_drawL gC [(8, [])] (by kernel_rfl) rfl (by kernel_rfl) ?_
    try simp only [W, EE, reduceIte, Nat.reduceAdd, tabAt, qAt, Nat.reduceEqDiff]
    refine w_ow 0 hS rfl rfl rfl rfl rfl h (fun b30 in31 wn31 on31 hb30 h en31 => ?_) qv3.ne
    obtain ⟨kn31, hbn31, hen31⟩ := hS.elem 0 rfl en31 hb30
    try simp only [W, EE, hbn31, hen31]
    refine w_callS (rsh := [[.sc]]) (ys := [.int .i64 a1]) h rfl (by rfl) fun b32 hb32 h => ⟨.int .i64 b32, spec_l1Mark_w hb32 (Own.nil _) fun H hS => TV_ok rfl (TV_p rfl (TV_n rfl)), ⟨rfl, rfl, fun _ => rfl⟩, ?_⟩
    try simp only [W, EE]
    refine w_ow 0 hS rfl rfl rfl rfl rfl h (fun b33 in34 wn34 on34 hb33 h en34 => ?_) qv3.ne
    obtain ⟨kn34, hbn34, hen34⟩ := hS.elem 0 rfl en34 hb33
    try simp only [W]
    refine w_ste (a := .int .u8 (IntKind.u8.wrap (b30 + (IntKind.u8.wrap b32)))) (y' := (IntKind.u8.wrap (b30 + (IntKind.u8.wrap b32)))) 0 hS rfl en34 hb33 rfl rfl rfl rfl rfl rfl rfl fun H hS => ?_
    try simp only [W]
    refine seq_n hK29 ?_
    refine w_seq fun K35 hK35 => ?_
    refine w_reg gC ?_
    try simp only [W, EE, Nat.reduceAdd]
    refine w_b2s rfl rfl rfl rfl rfl rfl rfl (hS.elems 0 rfl qv3) (hS.notStr 0 rfl) ?_
    try simp only [W]
    refine seq_n hK35 ?_
    refine w_ret ?_
    refine fin_r1 hK0 rfl ?_
    try obtain rfl := Option.some.inj h
    exact hP _ (hS.sel 1 [] (by decide))
theorem spec_l1Put_w {a0 : Int} {r : (List UInt8)} (h : spec_l1Put a0 = some r) {F : List It} {H : Heap} (hS : Own H (F)) {P : AV → Heap → Prop} (hP : ∀ H', Own H' (F) → P (.str r) H') : ACall C 227 [.int .i64 a0] H P := by
  refine acall_of gC (res := [.tmp 2]) (n := 7) rfl rfl rfl rfl fun K0 hK0 => ?_
  simp only [W, Nat.reduceSub, Nat.reduceAdd, List.replicate]
  unfold spec_l1Put at h
  refine w_seq fun K1 hK1 => ?_
  refine w_reg gC ?_
  try simp only [W, Nat.reduceAdd]
  refine seq_n hK1 ?_
  refine w_seq fun K2 hK2 => ?_
  refine w_reg gC ?_
  try simp only [W, Nat.reduceAdd]
  refine w_call h fun b3 hb3 h => ?_
  refine spec_l1Size_w hb3 hS fun H hS => ?_
  try simp only [W]
  refine w_call h fun b4 hb4 h => ?_
  refine spec_l1Wide_w hb4 hS fun H hS => ?_
  try simp only [W]
  refine seq_n hK2 ?_
  refine w_ret ?_
  refine fin_r1 hK0 rfl ?_
  try obtain rfl := Option.some.inj h
  exact hP _ hS
theorem spec_PutList_w {a0 : List Int} {r : (List UInt8 × Bool)} (h : spec_PutList a0 = some r) {F : List It} {H : Heap} (hS : Own H (F)) {P : AV → Heap → Prop} (hP : ∀ H', Own H' (F) → P (.tup [.str r.1, .bool r.2]) H') : ACall C 106 [.fz (a0.map (AV.int .i64))] H P := by
  refine acall_of gC (res := [.tmp 2, .tmp 3]) (n := 27) rfl rfl rfl rfl fun K0 hK0 => ?_
  simp only [W, Nat.reduceSub, Nat.reduceAdd, List.replicate]
  unfold spec_PutList at h
  refine w_seq fun K1 hK1 => ?_
  refine w_reg gC ?_
  try simp only [W, Nat.reduceAdd]
  refine seq_n hK1 ?_
  refine w_seq fun K2 hK2 => ?_
  refine w_seq fun K3 hK3 => ?_
  obtain ⟨y5, h, g6⟩ := Option.bind_eq_some_iff.1 h
  refine w_join gC (fun s H => ∃ x4 : Bool, y5 = (x4) ∧ s = [.fz (a0.map (AV.int .i64)), u, u, u, u, u, u, u, u, u, u, u, u, u, .bool x4, u, u, u, u, u, u, u, u, u, u, u, u] ∧ Own H (F)) (fun K7 hK7 => ?_) (fun s H hq => ?_)
  · refine w_seq fun K8 hK8 => ?_
    refine w_reg gC ?_
    try simp only [W, EE, Nat.reduceAdd]
    refine w_grdT h (fun hc h => ?_) (fun hc h => ?_)
    · try simp only [W, hc]
      refine seq_n hK8 ?_
      refine w_kill ?_
      exact cut_n hK7 ⟨_, (Option.some.inj h).symm, rfl, hS⟩
    · try simp only [W, hc]
      refine w_call h fun b9 hb9 h => ?_
      refine spec_l1All_w hb9 hS fun H hS => ?_
      try simp only [W, reduceIte, Bool.false_eq_true]
      refine seq_n hK8 ?_
      refine w_kill ?_
      exact cut_n hK7 ⟨_, (Option.some.inj h).symm, rfl, hS⟩
  · obtain ⟨x4, ey, rfl, hS⟩ := hq; obtain rfl := ey.symm
    replace h := g6
    try dsimp only at h
    refine seq_n hK3 ?_
    refine w_if ?_
    simp only [W]
    refine w_cnd h (fun hc h => ?_) (fun hc h => ?_)
    · refine w_seq fun K10 hK10 => ?_
      refine w_reg gC ?_
      try simp only [W, Nat.reduceAdd]
      refine seq_n hK10 ?_
      refine w_ret ?_
      refine seq_r hK2 ?_
      refine fin_r2 hK0 rfl rfl ?_
      try obtain rfl := Option.some.inj h
      exact hP _ hS
    · refine w_skip ?_
      refine seq_n hK2 ?_
      refine w_seq fun K11 hK11 => ?_
      refine w_reg gC ?_
      try simp only [W, Nat.reduceAdd]
      refine seq_n hK11 ?_
      refine w_seq fun K12 hK12 => ?_
      refine w_seq fun K13 hK13 => ?_
      refine w_reg gC ?_
      try simp only [W, EE, Nat.reduceAdd]
      refine seq_n hK13 ?_
      obtain ⟨y17, hw18, g24⟩ := Option.bind_eq_some_iff.1 h
      refine w_join gC (fun s H => ∃ x16 : List UInt8, y17 = (x16) ∧ s = [u, u, u, u, .str x16, u, u, u, u, u, u, u, u, u, u, u, u, u, u, u, u, u, u, u, u, u, u] ∧ Own H (F)) (fun K19 hK19 => ?_) (fun s H hq => ?_)
      · refine w_blk fun K20 hK20 => ?_
        refine w_loop gC hw18 (fun x s H => match x with | (x14, x15) => s = [u, u, u, u, .str x14, u, u, u, u, u, u, u, u, u, u, .fz (a0.map (AV.int .i64)), .int .i64 (a0.length : Int), .int .i64 x15, u, u, u, u, u, u, u, u, u] ∧ Own H (F)) ⟨rfl, hS⟩ (fun x y23 s H h hd22 hi K21 hK21 => ?_)
        obtain ⟨x14, x15⟩ := x
        try dsimp only at hi
        obtain ⟨rfl, hS⟩ := hi
        simp only [spec_PutList_l0] at h
        refine w_seq fun K25 hK25 => ?_
        refine w_reg gC ?_
        try simp only [W, EE, Nat.reduceAdd]
        refine seq_n hK25 ?_
        refine w_seq fun K26 hK26 => ?_
        refine w_if ?_
        simp only [W]
        refine w_cnd h (fun hc h => ?_) (fun hc h => ?_)
        · refine w_skip ?_
          refine seq_n hK26 ?_
          refine w_seq fun K27 hK27 => ?_
          refine w_blk fun K28 hK28 => ?_
          refine w_seq fun K29 hK29 => ?_
          refine w_reg gC ?_
          try simp only [W, EE, Nat.reduceAdd]
          refine w_fz rfl rfl rfl (fun _ => rfl) h fun b30 hb30 h => ?_
          try simp only [W, EE]
          refine seq_n hK29 ?_
          refine w_reg gC ?_
          try simp only [W, Nat.reduceAdd]
          refine w_call h fun b31 hb31 h => ?_
          refine spec_l1Put_w hb31 hS fun H hS => ?_
          try simp only [W, EE]
          refine w_cat h fun x32 hx32 h => ?_
          try simp only [W]
          refine blk_n0 hK28 ?_
          refine seq_n hK27 ?_
          refine w_reg gC ?_
          try simp only [W, EE, Nat.reduceAdd]
          exact lp_n hK21 h ⟨rfl, hS⟩
        · refine w_exit ?_
          refine seq_x hK26 ?_
          try obtain rfl := Option.some.inj h
          obtain rfl := hd22 _ rfl
          have h : (some (x14) : Option ((List UInt8))) = some (x14) := rfl
          refine lp_x hK21 ?_
          refine blk_e hK20 ?_
          exact cut_n hK19 ⟨_, (Option.some.inj h).symm, rfl, hS⟩
      · obtain ⟨x16, ey, rfl, hS⟩ := hq; obtain rfl := ey.symm
        replace h := g24
        try dsimp only at h
        refine seq_n hK12 ?_
        refine w_seq fun K35 hK35 => ?_
        refine w_reg gC ?_
        try simp only [W, Nat.reduceAdd]
        refine seq_n hK35 ?_
        refine w_ret ?_
        refine fin_r2 hK0 rfl rfl ?_
        try obtain rfl := Option.some.inj h
        exact hP _ hS
theorem impl_GetNumber_w {a0 : List UInt8} {a1 : Int} {r : (Int × Int × Bool)} (h : impl_GetNumber a0 a1 = some r) {F : List It} {H : Heap} (hS : Own H (F)) {P : AV → Heap → Prop} (hP : ∀ H', Own H' (F) → P (.tup [.int .i64 r.1, .int .i64 r.2.1, .bool r.2.2]) H') : ACall C 228 [.str a0, .int .i64 a1] H P := by
  refine acall_of gC (res := [.tmp 4, .tmp 5, .tmp 6]) (n := 59) rfl rfl rfl rfl fun K0 hK0 => ?_
  simp only [W, Nat.reduceSub, Nat.reduceAdd, List.replicate]
  unfold impl_GetNumber at h
  refine w_seq fun K1 hK1 => ?_
  refine w_reg gC ?_
  try simp only [W, Nat.reduceAdd]
  refine seq_n hK1 ?_
  refine w_seq fun K2 hK2 => ?_
  refine w_seq fun K3 hK3 => ?_
  refine w_reg gC ?_
  try simp only [W, EE, Nat.reduceAdd]
  refine w_call h fun b4 hb4 h => ?_
  refine impl_in_w hb4 hS fun H hS => ?_
  try simp only [W]
  refine seq_n hK3 ?_
  refine w_if ?_
  simp only [W]
  refine w_cnd h (fun hc h => ?_) (fun hc h => ?_)
  · refine w_seq fun K5 hK5 => ?_
    refine w_reg gC ?_
    try simp only [W, Nat.reduceAdd]
    refine seq_n hK5 ?_
    refine w_ret ?_
    refine seq_r hK2 ?_
    refine fin_r3 hK0 rfl rfl rfl ?_
    try obtain rfl := Option.some.inj h
    exact hP _ hS
  · refine w_skip ?_
    refine seq_n hK2 ?_
    refine w_seq fun K6 hK6 => ?_
    refine w_reg gC ?_
    try simp only [W, EE, Nat.reduceAdd]
    refine w_sidx h fun b7 hb7 h => ?_
    try simp only [W, EE]
    rw [sr_lit _ _ _ rfl, Option.map_some, resV_s]
    try simp only [W, EE]
    refine w_num _ h fun x8 hx8 h => ?_
    try simp only [W]
    refine seq_n hK6 ?_
    refine w_seq fun K9 hK9 => ?_
    refine w_seq fun K10 hK10 => ?_
    refine w_reg gC ?_
    try simp only [W, EE, Nat.reduceAdd]
    refine seq_n hK10 ?_
    refine w_if ?_
    simp only [W]
    refine w_cnd h (fun hc h => ?_) (fun hc h => ?_)
    · refine w_seq fun K11 hK11 => ?_
      refine w_reg gC ?_
      try simp only [W, Nat.reduceAdd]
      refine seq_n hK11 ?_
      refine w_ret ?_
      refine seq_r hK9 ?_
      refine fin_r3 hK0 rfl rfl rfl ?_
      try obtain rfl := Option.some.inj h
      exact hP _ hS
    · refine w_skip ?_
      refine seq_n hK9 ?_
      refine w_seq fun K12 hK12 => ?_
      refine w_reg gC ?_
      try simp only [W, EE, Nat.reduceAdd]
      refine w_sidx h fun b13 hb13 h => ?_
      try simp only [W, EE]
      refine seq_n hK12 ?_
      refine w_seq fun K14 hK14 => ?_
      refine w_seq fun K15 hK15 => ?_
      refine w_reg gC ?_
      try simp only [W, Nat.reduceAdd]
      refine seq_n hK15 ?_
      obtain ⟨y19, hw20, g26⟩ := Option.bind_eq_some_iff.1 h
      refine w_join gC (fun s H => ∃ x18 : Int, y19 = (x18) ∧ s = [u, .int .i64 a1, u, u, u, u, u, .int .i64 x8, .int .i64 x18, u, u, u, u, u, u, u, u, u, u, u, u, u, u, u, u, u, u, u, u, u, u, u, u, u, u, u, u, u, u, u, u, u, u, u, u, u, u, u, u, u, u, u, u, u, u, u, u, u, u] ∧ Own H (F)) (fun K21 hK21 => ?_) (fun s H hq => ?_)
      · refine w_blk fun K22 hK22 => ?_
        refine w_loop gC hw20 (fun x s H => match x with | (x16, x17) => s = [.str a0, .int .i64 a1, u, u, u, u, u, .int .i64 x8, .int .i64 x16, .int .i64 x17, u, u, u, u, u, u, u, u, u, u, u, u, u, u, u, u, u, u, u, u, u, u, u, u, u, u, u, u, u, u, u, u, u, u, u, u, u, u, u, u, u, u, u, u, u, u, u, u, u] ∧ Own H (F)) ⟨rfl, hS⟩ (fun x y25 s H h hd24 hi K23 hK23 => ?_)
        obtain ⟨x16, x17⟩ := x
        try dsimp only at hi
        obtain ⟨rfl, hS⟩ := hi
        simp only [impl_GetNumber_l0] at h
        refine w_seq fun K27 hK27 => ?_
        refine w_seq fun K28 hK28 => ?_
        refine w_reg gC ?_
        try simp only [W, EE, Nat.reduceAdd]
        refine seq_n hK28 ?_
        refine w_if ?_
        simp only [W]
        refine w_cnd h (fun hc h => ?_) (fun hc h => ?_)
        · refine w_skip ?_
          refine seq_n hK27 ?_
          refine w_seq fun K29 hK29 => ?_
          refine w_blk fun K30 hK30 => ?_
          refine w_reg gC ?_
          try simp only [W, EE, Nat.reduceAdd]
          rw [sl_lit _ _ _ rfl, Option.map_some, resV_s]
          try simp only [W, EE]
          refine w_sidx h fun b31 hb31 h => ?_
          try simp only [W, EE]
          refine blk_n0 hK30 ?_
          refine seq_n hK29 ?_
          refine w_reg gC ?_
          try simp only [W, EE, Nat.reduceAdd]
          exact lp_n hK23 h ⟨rfl, hS⟩
        · refine w_exit ?_
          refine seq_x hK27 ?_
          try obtain rfl := Option.some.inj h
          obtain rfl := hd24 _ rfl
          have h : (some (x16) : Option (Int)) = some (x16) := rfl
          refine lp_x hK23 ?_
          refine blk_e hK22 ?_
          exact cut_n hK21 ⟨_, (Option.some.inj h).symm, rfl, hS⟩
      · obtain ⟨x18, ey, rfl, hS⟩ := hq; obtain rfl := ey.symm
        replace h := g26
        try dsimp only at h
        refine seq_n hK14 ?_
        refine w_seq fun K34 hK34 => ?_
        refine w_seq fun K35 hK35 => ?_
        obtain ⟨y37, h, g38⟩ := Option.bind_eq_some_iff.1 h
        refine w_join gC (fun s H => ∃ x36 : Bool, y37 = (x36) ∧ s = [u, .int .i64 a1, u, u, u, u, u, .int .i64 x8, .int .i64 x18, u, u, u, u, u, u, u, u, u, u, u, u, u, u, u, u, u, u, u, u, u, u, u, u, u, u, u, u, u, u, u, u, u, u, u, u, u, u, u, u, u, u, u, u, u, .bool x36, u, u, u, u] ∧ Own H (F)) (fun K39 hK39 => ?_) (fun s H hq => ?_)
        · refine w_seq fun K40 hK40 => ?_
          refine w_reg gC ?_
          try simp only [W, Nat.reduceAdd]
          refine w_call h fun b41 hb41 h => ?_
          refine impl_isNumber_w hb41 hS fun H hS => ?_
          try simp only [W]
          refine w_grdT h (fun hc h => ?_) (fun hc h => ?_)
          · try simp only [W, hc]
            refine seq_n hK40 ?_
            refine w_kill ?_
            exact cut_n hK39 ⟨_, (Option.some.inj h).symm, rfl, hS⟩
          · try simp only [W, hc]
            refine w_call h fun b42 hb42 h => ?_
            refine impl_sizeOf_w hb42 hS fun H hS => ?_
            try simp only [W, EE, reduceIte, Bool.false_eq_true]
            refine seq_n hK40 ?_
            refine w_kill ?_
            exact cut_n hK39 ⟨_, (Option.some.inj h).symm, rfl, hS⟩
        · obtain ⟨x36, ey, rfl, hS⟩ := hq; obtain rfl := ey.symm
          replace h := g38
          try dsimp only at h
          refine seq_n hK35 ?_
          refine w_if ?_
          simp only [W]
          refine w_cnd h (fun hc h => ?_) (fun hc h => ?_)
          · refine w_seq fun K43 hK43 => ?_
            refine w_reg gC ?_
            try simp only [W, Nat.reduceAdd]
            refine seq_n hK43 ?_
            refine w_ret ?_
            refine seq_r hK34 ?_
            refine fin_r3 hK0 rfl rfl rfl ?_
            try obtain rfl := Option.some.inj h
            exact hP _ hS
          · refine w_skip ?_
            refine seq_n hK34 ?_
            refine w_seq fun K44 hK44 => ?_
            refine w_reg gC ?_
            try simp only [W, EE, Nat.reduceAdd]
            refine seq_n hK44 ?_
            refine w_ret ?_
            refine fin_r3 hK0 rfl rfl rfl ?_
            try obtain rfl := Option.some.inj h
            exact hP _ hS
theorem impl_GetList_w {a0 : List UInt8} {r : (List Int × Bool)} (h : impl_GetList a0 = some r) {F : List It} {H : Heap} (hS : Own H (F)) {P : AV → Heap → Prop} (hP : ∀ v51 : AV, isSl v51 → ∀ H', Own H' (⟨v51, 1, r.1.map (AV.int .i64)⟩ :: F) → P (.tup [v51, .bool r.2]) H') : ACall C 107 [.str a0] H P := by
  refine acall_of gC (res := [.tmp 2, .tmp 3]) (n := 37) rfl rfl rfl rfl fun K0 hK0 => ?_
  simp only [W, Nat.reduceSub, Nat.reduceAdd, List.replicate]
  unfold impl_GetList at h
  refine w_seq fun K1 hK1 => ?_
  refine w_reg gC ?_
  try simp only [W, Nat.reduceAdd]
  refine seq_n hK1 ?_
  refine w_seq fun K2 hK2 => ?_
  refine w_reg gC ?_
  try simp only [W, Nat.reduceAdd]
  refine w_lit0 rfl rfl ?_
  try simp only [W]
  refine seq_n hK2 ?_
  refine w_seq fun K3 hK3 => ?_
  refine w_seq fun K4 hK4 => ?_
  refine w_reg gC ?_
  try simp only [W, EE, Nat.reduceAdd]
  refine seq_n hK4 ?_
  refine w_if ?_
  simp only [W]
  refine w_cnd h (fun hc h => ?_) (fun hc h => ?_)
  · refine w_seq fun K5 hK5 => ?_
    refine w_reg gC ?_
    try simp only [W, Nat.reduceAdd]
    refine seq_n hK5 ?_
    refine w_ret ?_
    refine seq_r hK3 ?_
    refine fin_r2 hK0 rfl rfl ?_
    try obtain rfl := Option.some.inj h
    exact hP _ isSl_nil _ (hS.nil_ 1)
  · refine w_skip ?_
    refine seq_n hK3 ?_
    refine w_seq fun K6 hK6 => ?_
    refine w_seq fun K7 hK7 => ?_
    refine w_reg gC ?_
    try simp only [W, Nat.reduceAdd]
    refine seq_n hK7 ?_
    obtain ⟨y14, hw15, g21⟩ := Option.bind_eq_some_iff.1 h
    refine w_join gC (fun s H => ∃ x12 : List Int, y14 = LR.next (x12) ∧ ∃ v13 : AV, isSl v13 ∧ s = [u, u, u, u, v13, u, u, u, u, u, u, u, u, u, u, u, u, u, u, u, u, u, u, u, u, u, u, u, u, u, u, u, u, u, u, u, u] ∧ Own H (⟨v13, 1, x12.map (AV.int .i64)⟩ :: F)) (fun K16 hK16 => ?_) (fun s H hq => ?_)
    · refine w_blk fun K17 hK17 => ?_
      refine w_loop gC hw15 (fun x s H => match x with | (x8, x11) => ∃ v9 : AV, isSl v9 ∧ s = [.str a0, u, u, u, v9, .int .i64 x11, u, u, u, u, u, u, u, u, u, u, u, u, u, u, u, u, u, u, u, u, u, u, u, u, u, u, u, u, u, u, u] ∧ Own H (⟨v9, 1, x8.map (AV.int .i64)⟩ :: F)) ⟨_, isSl_e0, rfl, (hS.e0_ 1)⟩ (fun x y20 s H h hd19 hi K18 hK18 => ?_)
      obtain ⟨x8, x11⟩ := x
      try dsimp only at hi
      obtain ⟨v9, qv9, rfl, hS⟩ := hi
      simp only [impl_GetList_l0] at h
      refine w_seq fun K22 hK22 => ?_
      refine w_seq fun K23 hK23 => ?_
      refine w_reg gC ?_
      try simp only [W, EE, Nat.reduceAdd]
      refine seq_n hK23 ?_
      refine w_if ?_
      simp only [W]
      refine w_cnd h (fun hc h => ?_) (fun hc h => ?_)
      · refine w_skip ?_
        refine seq_n hK22 ?_
        refine w_blk fun K24 hK24 => ?_
        refine w_seq fun K25 hK25 => ?_
        refine w_reg gC ?_
        try simp only [W, Nat.reduceAdd]
        refine w_call h fun b26 hb26 h => ?_
        obtain ⟨b27, b28, b29⟩ := b26
        try dsimp only at h
        refine impl_GetNumber_w hb26 hS fun H hS => ?_
        try simp only [W]
        refine seq_n hK25 ?_
        refine w_seq fun K30 hK30 => ?_
        refine w_seq fun K31 hK31 => ?_
        obtain ⟨y33, h, g34⟩ := Option.bind_eq_some_iff.1 h
        refine w_join gC (fun s H => ∃ x32 : Bool, y33 = (x32) ∧ s = [.str a0, u, u, u, v9, u, .int .i64 b27, .int .i64 b28, u, u, u, u, u, u, u, u, u, u, u, u, u, u, u, u, u, u, u, u, u, u, .bool x32, u, u, u, u, u, u] ∧ Own H (⟨v9, 1, x8.map (AV.int .i64)⟩ :: F)) (fun K35 hK35 => ?_) (fun s H hq => ?_)
        · refine w_seq fun K36 hK36 => ?_
          refine w_reg gC ?_
          try simp only [W, Nat.reduceAdd]
          refine w_grdT h (fun hc h => ?_) (fun hc h => ?_)
          · try simp only [W, hc]
            refine seq_n hK36 ?_
            refine w_kill ?_
            exact cut_n hK35 ⟨_, (Option.some.inj h).symm, rfl, hS⟩
          · try simp only [W, EE, hc]
            refine w_len 0 hS rfl qv9 rfl ?_
            try simp only [W, EE, reduceIte, Bool.false_eq_true]
            refine seq_n hK36 ?_
            refine w_kill ?_
            exact cut_n hK35 ⟨_, (Option.some.inj h).symm, rfl, hS⟩
        · obtain ⟨x32, ey, rfl, hS⟩ := hq; obtain rfl := ey.symm
          replace h := g34
          try dsimp only at h
          refine seq_n hK31 ?_
          refine w_if ?_
          simp only [W]
          refine w_cnd h (fun hc h => ?_) (fun hc h => ?_)
          · refine w_seq fun K37 hK37 => ?_
            refine w_reg gC ?_
            try simp only [W, Nat.reduceAdd]
            refine seq_n hK37 ?_
            refine w_ret ?_
            refine seq_r hK30 ?_
            refine blk_r hK24 ?_
            try obtain rfl := Option.some.inj h
            obtain rfl := hd19 _ rfl
            have h : (some (LR.done ([], false)) : Option (LR ((List Int)) (List Int × Bool))) = some (LR.done ([], false)) := rfl
            refine lp_r hK18 ?_
            refine blk_r hK17 ?_
            try obtain rfl := Option.some.inj h
            obtain rfl := Option.some.inj g21
            have h : (some ([], false) : Option (List Int × Bool)) = some ([], false) := rfl
            refine cut_r hK16 ?_
            refine seq_r hK6 ?_
            refine fin_r2 hK0 rfl rfl ?_
            try obtain rfl := Option.some.inj h
            exact hP _ isSl_nil _ ((hS.nil_ 1).sel 2 [0] (by decide))
          · refine w_skip ?_
            refine seq_n hK30 ?_
            refine w_seq fun K42 hK42 => ?_
            refine w_reg gC ?_
            try simp only [W, Nat.reduceAdd]
            refine w_lit (el := ([b27] : List Int).map (AV.int .i64)) hS rfl rfl rfl rfl rfl rfl rfl fun v43 H qv43 hS => ?_
            try simp only [W, EE]
            refine w_appV (l := x8) (c := (AV.int .i64)) 1 hS rfl qv9 rfl rfl rfl (hS.elems 0 rfl qv43) (fun _ => rfl) rfl h fun v46 H x45 qv46 hm h hS => ?_
            try simp only [W]
            refine seq_n hK42 ?_
            refine w_reg gC ?_
            try simp only [W, Nat.reduceAdd]
            refine blk_n0 hK24 ?_
            exact lp_n hK18 h ⟨_, qv46, rfl, (hS.sel 2 [1] (by decide))⟩
      · refine w_exit ?_
        refine seq_x hK22 ?_
        try obtain rfl := Option.some.inj h
        obtain rfl := hd19 _ rfl
        have h : (some (LR.next (x8)) : Option (LR ((List Int)) (List Int × Bool))) = some (LR.next (x8)) := rfl
        refine lp_x hK18 ?_
        refine blk_e hK17 ?_
        exact cut_n hK16 ⟨_, (Option.some.inj h).symm, _, qv9, rfl, hS⟩
    · obtain ⟨x12, ey, v13, qv13, rfl, hS⟩ := hq; obtain rfl := ey.symm
      replace h := g21
      try dsimp only at h
      refine seq_n hK6 ?_
      refine w_seq fun K50 hK50 => ?_
      refine w_reg gC ?_
      try simp only [W, Nat.reduceAdd]
      refine seq_n hK50 ?_
      refine w_ret ?_
      refine fin_r2 hK0 rfl rfl ?_
      try obtain rfl := Option.some.inj h
      exact hP _ qv13 _ hS
theorem laws_sameInts_w {a0 : List Int} {a1 : List Int} {r : (Bool)} (h : laws_sameInts a0 a1 = some r) {F : List It} {H : Heap} (hS : Own H (F)) {P : AV → Heap → Prop} (hP : ∀ H', Own H' (F) → P (.bool r) H') : ACall C 22 [.fz (a0.map (AV.int .i64)), .fz (a1.map (AV.int .i64))] H P := by
  refine acall_of gC (res := [.tmp 4]) (n := 26) rfl rfl rfl rfl fun K0 hK0 => ?_
  simp only [W, Nat.reduceSub, Nat.reduceAdd, List.replicate]
  unfold laws_sameInts at h
  refine w_seq fun K1 hK1 => ?_
  refine w_reg gC ?_
  try simp only [W, Nat.reduceAdd]
  refine seq_n hK1 ?_
  refine w_seq fun K2 hK2 => ?_
  refine w_seq fun K3 hK3 => ?_
  refine w_reg gC ?_
  try simp only [W, EE, Nat.reduceAdd]
  refine seq_n hK3 ?_
  refine w_if ?_
  simp only [W]
  refine w_cnd h (fun hc h => ?_) (fun hc h => ?_)
  · refine w_seq fun K4 hK4 => ?_
    refine w_reg gC ?_
    try simp only [W, Nat.reduceAdd]
    refine seq_n hK4 ?_
    refine w_ret ?_
    refine seq_r hK2 ?_
    refine fin_r1 hK0 rfl ?_
    try obtain rfl := Option.some.inj h
    exact hP _ hS
  · refine w_skip ?_
    refine seq_n hK2 ?_
    refine w_seq fun K5 hK5 => ?_
    refine w_seq fun K6 hK6 => ?_
    refine w_reg gC ?_
    try simp only [W, EE, Nat.reduceAdd]
    refine seq_n hK6 ?_
    obtain ⟨y8, hw9, g15⟩ := Option.bind_eq_some_iff.1 h
    refine w_join gC (fun s H => y8 = LR.next () ∧ s = [u, u, u, u, u, u, u, u, u, u, u, u, u, u, u, u, u, u, u, u, u, u, u, u, u, u] ∧ Own H (F)) (fun K10 hK10 => ?_) (fun s H hq => ?_)
    · refine w_blk fun K11 hK11 => ?_
      refine w_loop gC hw9 (fun x s H => s = [.fz (a0.map (AV.int .i64)), .fz (a1.map (AV.int .i64)), u, u, u, u, u, u, u, u, u, u, .int .i64 (a0.length : Int), .int .i64 x, u, u, u, u, u, u, u, u, u, u, u, u] ∧ Own H (F)) ⟨rfl, hS⟩ (fun x7 y14 s H h hd13 hi K12 hK12 => ?_)
      skip
      try dsimp only at hi
      obtain ⟨rfl, hS⟩ := hi
      simp only [laws_sameInts_l0] at h
      refine w_seq fun K16 hK16 => ?_
      refine w_reg gC ?_
      try simp only [W, EE, Nat.reduceAdd]
      refine seq_n hK16 ?_
      refine w_seq fun K17 hK17 => ?_
      refine w_if ?_
      simp only [W]
      refine w_cnd h (fun hc h => ?_) (fun hc h => ?_)
      · refine w_skip ?_
        refine seq_n hK17 ?_
        refine w_seq fun K18 hK18 => ?_
        refine w_blk fun K19 hK19 => ?_
        refine w_seq fun K20 hK20 => ?_
        refine w_reg gC ?_
        try simp only [W, Nat.reduceAdd]
        refine seq_n hK20 ?_
        refine w_seq fun K21 hK21 => ?_
        refine w_draw0 gC (by kernel_rfl) ?_
        try simp only [W, EE, Nat.reduceAdd]
        refine w_fz rfl rfl rfl (fun _ => rfl) h fun b22 hb22 h => ?_
        try simp only [W, EE]
        refine w_fz rfl rfl rfl (fun _ => rfl) h fun b23 hb23 h => ?_
        try simp only [W, EE]
        refine seq_n hK21 ?_
        refine w_if ?_
        simp only [W]
        refine w_cnd h (fun hc h => ?_) (fun hc h => ?_)
        · refine w_seq fun K24 hK24 => ?_
          refine w_reg gC ?_
          try simp only [W, Nat.reduceAdd]
          refine seq_n hK24 ?_
          refine w_ret ?_
          refine blk_r hK19 ?_
          refine seq_r hK18 ?_
          try obtain rfl := Option.some.inj h
          obtain rfl := hd13 _ rfl
          have h : (some (LR.done false) : Option (LR Unit (Bool))) = some (LR.done false) := rfl
          refine lp_r hK12 ?_
          refine blk_r hK11 ?_
          try obtain rfl := Option.some.inj h
          obtain rfl := Option.some.inj g15
          have h : (some false : Option (Bool)) = some false := rfl
          refine cut_r hK10 ?_
          refine seq_r hK5 ?_
          refine fin_r1 hK0 rfl ?_
          try obtain rfl := Option.some.inj h
          exact hP _ hS
        · refine w_skip ?_
          refine blk_n0 hK19 ?_
          refine seq_n hK18 ?_
          refine w_reg gC ?_
          try simp only [W, EE, Nat.reduceAdd]
          exact lp_n hK12 h ⟨rfl, hS⟩
      · refine w_exit ?_
        refine seq_x hK17 ?_
        try obtain rfl := Option.some.inj h
        obtain rfl := hd13 _ rfl
        have h : (some (LR.next ()) : Option (LR Unit (Bool))) = some (LR.next ()) := rfl
        refine lp_x hK12 ?_
        refine blk_e hK11 ?_
        exact cut_n hK10 ⟨(Option.some.inj h).symm, rfl, hS⟩
    · obtain ⟨rfl, rfl, hS⟩ := hq
      replace h := g15
      try dsimp only at h
      refine seq_n hK5 ?_
      refine w_seq fun K31 hK31 => ?_
      refine w_reg gC ?_
      try simp only [W, Nat.reduceAdd]
      refine seq_n hK31 ?_
      refine w_ret ?_
      refine fin_r1 hK0 rfl ?_
      try obtain rfl := Option.some.inj h
      exact hP _ hS
theorem spec_l1Number_w {a0 : Int} {r : (Bool)} (h : spec_l1Number a0 = some r) {F : List It} {H : Heap} (hS : Own H (F)) {P : AV → Heap → Prop} (hP : ∀ H', Own H' (F) → P (.bool r) H') : ACall C 269 [.int .i64 a0] H P := by
  refine acall_of gC (res := [.tmp 2]) (n := 5) rfl rfl rfl rfl fun K0 hK0 => ?_
  simp only [W, Nat.reduceSub, Nat.reduceAdd, List.replicate]
  unfold spec_l1Number at h
  refine w_seq fun K1 hK1 => ?_
  refine w_reg gC ?_
  try simp only [W, Nat.reduceAdd]
  refine seq_n hK1 ?_
  refine w_seq fun K2 hK2 => ?_
  refine w_reg gC ?_
  try simp only [W, Nat.reduceAdd]
  refine w_call h fun b3 hb3 h => ?_
  refine spec_l1In_w hb3 hS fun H hS => ?_
  try simp only [W]
  refine seq_n hK2 ?_
  refine w_ret ?_
  refine fin_r1 hK0 rfl ?_
  try obtain rfl := Option.some.inj h
  exact hP _ hS
theorem spec_l1Cur_spoilt_w {a0 : L1Cur} {a1 : List UInt8} {a2 : List UInt8} {i0 : Nat} {w0 : Nat} {r : (List UInt8 × L1Cur)} (h : spec_l1Cur_spoilt a0 a1 a2 = some r) {F : List It} {H : Heap} (hS : Own H (⟨.ptr i0 w0 0 0, 3, [.agg [.fz (a0.Code.map (AV.int .u8)), .int .i64 a0.At, .int .u64 a0.Seed]]⟩ :: F)) {P : AV → Heap → Prop} (hP : ∀ H', Own H' (⟨.ptr i0 w0 0 0, 3, [.agg [.fz (r.2.Code.map (AV.int .u8)), .int .i64 r.2.At, .int .u64 r.2.Seed]]⟩ :: F) → P (.str r.1) H') : ACall C 232 [.ptr i0 w0 0 0, .str a1, .str a2] H P := by
  refine acall_of gC (res := [.tmp 6]) (n := 67) rfl rfl rfl rfl fun K0 hK0 => ?_
  simp only [W, Nat.reduceSub, Nat.reduceAdd, List.replicate]
  unfold spec_l1Cur_spoilt at h
  refine w_seq fun K1 hK1 => ?_
  refine w_reg gC ?_
  try simp only [W, Nat.reduceAdd]
  refine seq_n hK1 ?_
  refine w_seq fun K2 hK2 => ?_
  refine w_seq fun K3 hK3 => ?_
  refine w_reg gC ?_
  try simp only [W, Nat.reduceAdd]
  refine w_call h fun b4 hb4 h => ?_
  obtain ⟨b5, b6⟩ := b4
  try dsimp only at h
  refine spec_l1Cur_pick_w hb4 hS fun H hS => ?_
  try simp only [W]
  refine seq_n hK3 ?_
  obtain ⟨y16, hw17, g23⟩ := Option.bind_eq_some_iff.1 h
  refine w_join gC (fun s H => ∃ x12 : List UInt8, ∃ x13 : List Int, ∃ x14 : Int, ∃ x15 : Int, y16 = (x12, x13, x14, x15) ∧ s = [u, .str x12, u, u, u, u, u, u, u, u, u, u, u, u, u, u, u, u, u, u, u, u, u, u, u, u, u, u, u, u, u, u, u, u, u, u, u, u, u, u, u, u, u, u, u, u, u, u, u, u, u, u, u, u, u, u, u, u, u, u, u, u, u, u, u, u, u] ∧ Own H (⟨.ptr i0 w0 0 0, 3, [.agg [.fz (x13.map (AV.int .u8)), .int .i64 x14, .int .u64 x15]]⟩ :: F)) (fun K18 hK18 => ?_) (fun s H hq => ?_)
  · refine w_blk fun K19 hK19 => ?_
    refine w_loop gC hw17 (fun x s H => match x with | (x7, x8, x9, x10, x11) => s = [.ptr i0 w0 0 0, .str x7, .str a2, u, u, u, u, .int .i64 x8, u, u, u, u, u, u, u, u, u, u, u, u, u, u, u, u, u, u, u, u, u, u, u, u, u, u, u, u, u, u, u, u, u, u, u, u, u, u, u, u, u, u, u, u, u, u, u, u, u, u, u, u, u, u, u, u, u, u, u] ∧ Own H (⟨.ptr i0 w0 0 0, 3, [.agg [.fz (x9.map (AV.int .u8)), .int .i64 x10, .int .u64 x11]]⟩ :: F)) ⟨rfl, hS⟩ (fun x y22 s H h hd21 hi K20 hK20 => ?_)
    obtain ⟨x7, x8, x9, x10, x11⟩ := x
    try dsimp only at hi
    obtain ⟨rfl, hS⟩ := hi
    simp only [spec_l1Cur_spoilt_l0] at h
    refine w_seq fun K24 hK24 => ?_
    refine w_seq fun K25 hK25 => ?_
    obtain ⟨y27, h, g28⟩ := Option.bind_eq_some_iff.1 h
    refine w_join gC (fun s H => ∃ x26 : Bool, y27 = (x26) ∧ s = [.ptr i0 w0 0 0, .str x7, .str a2, u, u, u, u, .int .i64 x8, u, u, u, u, u, u, u, u, u, u, .bool x26, u, u, u, u, u, u, u, u, u, u, u, u, u, u, u, u, u, u, u, u, u, u, u, u, u, u, u, u, u, u, u, u, u, u, u, u, u, u, u, u, u, u, u, u, u, u, u, u] ∧ Own H (⟨.ptr i0 w0 0 0, 3, [.agg [.fz (x9.map (AV.int .u8)), .int .i64 x10, .int .u64 x11]]⟩ :: F)) (fun K29 hK29 => ?_) (fun s H hq => ?_)
    · refine w_seq fun K30 hK30 => ?_
      refine w_reg gC ?_
      try simp only [W, EE, Nat.reduceAdd]
      refine w_grdT h (fun hc h => ?_) (fun hc h => ?_)
      · try simp only [W, EE, reduceIte, hc]
        refine seq_n hK30 ?_
        refine w_kill ?_
        exact cut_n hK29 ⟨_, (Option.some.inj h).symm, rfl, hS⟩
      · try simp only [W, hc]
        refine seq_n hK30 ?_
        refine w_kill ?_
        exact cut_n hK29 ⟨_, (Option.some.inj h).symm, rfl, hS⟩
    · obtain ⟨x26, ey, rfl, hS⟩ := hq; obtain rfl := ey.symm
      replace h := g28
      try dsimp only at h
      refine seq_n hK25 ?_
      refine w_if ?_
      simp only [W]
      refine w_cnd h (fun hc h => ?_) (fun hc h => ?_)
      · refine w_skip ?_
        refine seq_n hK24 ?_
        refine w_seq fun K31 hK31 => ?_
        obtain ⟨y37, h, g38⟩ := Option.bind_eq_some_iff.1 h
        refine w_join gC (fun s H => ∃ x33 : List UInt8, ∃ x34 : List Int, ∃ x35 : Int, ∃ x36 : Int, y37 = (x33, x34, x35, x36) ∧ s = [.ptr i0 w0 0 0, .str x33, .str a2, u, u, u, u, .int .i64 x8, u, u, u, u, u, u, u, u, u, u, u, u, u, u, u, u, u, u, u, u, u, u, u, u, u, u, u, u, u, u, u, u, u, u, u, u, u, u, u, u, u, u, u, u, u, u, u, u, u, u, u, u, u, u, u, u, u, u, u] ∧ Own H (⟨.ptr i0 w0 0 0, 3, [.agg [.fz (x34.map (AV.int .u8)), .int .i64 x35, .int .u64 x36]]⟩ :: F)) (fun K39 hK39 => ?_) (fun s H hq => ?_)
        · refine w_blk fun K32 hK32 => ?_
          refine w_seq fun K40 hK40 => ?_
          refine w_reg gC ?_
          try simp only [W, EE, Nat.reduceAdd]
          refine w_call h fun b41 hb41 h => ?_
          obtain ⟨b42, b43⟩ := b41
          try dsimp only at h
          refine spec_l1Cur_pick_w hb41 hS fun H hS => ?_
          try simp only [W]
          refine seq_n hK40 ?_
          refine w_seq fun K44 hK44 => ?_
          refine w_reg gC ?_
          try simp only [W, EE, Nat.reduceAdd]
          refine w_call h fun b45 hb45 h => ?_
          obtain ⟨b46, b47⟩ := b45
          try dsimp only at h
          refine spec_l1Cur_pick_w hb45 hS fun H hS => ?_
          try simp only [W, EE]
          refine w_sidx h fun b48 hb48 h => ?_
          try simp only [W]
          refine w_lit (el := ([(b48.toNat : Int)] : List Int).map (AV.int .u8)) hS rfl rfl rfl rfl rfl rfl rfl fun v49 H qv49 hS => ?_
          try simp only [W, EE]
          refine w_b2s rfl rfl rfl rfl rfl rfl rfl (hS.elems 0 rfl qv49) (hS.notStr 0 rfl) ?_
          try simp only [W]
          refine seq_n hK44 ?_
          refine w_seq fun K51 hK51 => ?_
          refine w_reg gC ?_
          try simp only [W, Nat.reduceAdd]
          refine w_call h fun b52 hb52 h => ?_
          obtain ⟨b53, b54⟩ := b52
          try dsimp only at h
          refine spec_l1Cur_pick_w hb52 (hS.sel 2 [1, 0] (by decide)) fun H hS => ?_
          try simp only [W]
          refine seq_n hK51 ?_
          obtain ⟨y57, h, g58⟩ := Option.bind_eq_some_iff.1 h
          refine w_join gC (fun s H => ∃ x56 : List UInt8, y57 = (x56) ∧ s = [.ptr i0 w0 0 0, .str x56, .str a2, u, u, u, u, .int .i64 x8, u, u, u, u, u, u, u, u, u, u, u, u, u, u, u, u, u, u, u, u, u, u, u, u, u, u, u, u, u, u, u, u, u, u, u, u, u, u, u, u, u, u, u, u, u, u, u, u, u, u, u, u, u, u, u, u, u, u, u] ∧ Own H (⟨.ptr i0 w0 0 0, 3, [.agg [.fz (b54.Code.map (AV.int .u8)), .int .i64 b54.At, .int .u64 b54.Seed]]⟩ :: F)) (fun K59 hK59 => ?_) (fun s H hq => ?_)
          · refine w_blk fun K55 hK55 => ?_
            refine w_seq fun K60 hK60 => ?_
            refine w_reg gC ?_
            try simp only [W, EE, Nat.reduceAdd]
            refine seq_n hK60 ?_
            obtain ⟨y62, h, g63⟩ := Option.bind_eq_some_iff.1 h
            refine w_join gC (fun s H => ∃ x61 : List UInt8, y62 = (x61) ∧ s = [.ptr i0 w0 0 0, .str x61, .str a2, u, u, u, u, .int .i64 x8, u, u, u, u, u, u, u, u, u, u, u, u, u, u, u, u, u, u, u, u, u, u, u, u, u, u, u, u, u, u, u, u, u, u, u, u, u, u, u, u, u, u, u, u, u, u, u, u, u, u, u, u, u, u, u, u, u, u, u] ∧ Own H (⟨.ptr i0 w0 0 0, 3, [.agg [.fz (b54.Code.map (AV.int .u8)), .int .i64 b54.At, .int .u64 b54.Seed]]⟩ :: F)) (fun K64 hK64 => ?_) (fun s H hq => ?_)
            · refine w_seq fun K65 hK65 => ?_
              refine w_if ?_
              simp only [W]
              refine w_cnd h (fun hc h => ?_) (fun hc h => ?_)
              · refine w_draw0 gC (by kernel_rfl) ?_
                try simp only [W, EE, Nat.reduceAdd]
                refine w_slS rfl rfl h fun x66 hx66 h => ?_
                try simp only [W, EE]
                refine w_cat h fun x67 hx67 h => ?_
                try simp only [W, EE]
                refine w_slS rfl rfl h fun x68 hx68 h => ?_
                try simp only [W, EE]
                refine w_cat h fun x69 hx69 h => ?_
                try simp only [W]
                refine seq_n hK65 ?_
                refine w_kill ?_
                exact cut_n hK64 ⟨_, (Option.some.inj h).symm, rfl, (hS.sel 2 [0] (by decide))⟩
              · refine w_seq fun K70 hK70 => ?_
                refine w_reg gC ?_
                try simp only [W, EE, Nat.reduceAdd]
                refine seq_n hK70 ?_
                obtain ⟨y72, h, g73⟩ := Option.bind_eq_some_iff.1 h
                refine w_join gC (fun s H => ∃ x71 : List UInt8, y72 = (x71) ∧ s = [.ptr i0 w0 0 0, .str x71, .str a2, u, u, u, u, .int .i64 x8, u, u, u, u, u, u, u, u, u, u, u, u, u, u, u, u, u, u, u, u, u, u, u, u, u, u, u, u, u, u, u, u, u, u, u, u, u, u, u, u, u, u, u, u, u, u, u, u, u, u, u, u, u, u, u, u, u, u, u] ∧ Own H (⟨.ptr i0 w0 0 0, 3, [.agg [.fz (b54.Code.map (AV.int .u8)), .int .i64 b54.At, .int .u64 b54.Seed]]⟩ :: F)) (fun K74 hK74 => ?_) (fun s H hq => ?_)
                · refine w_seq fun K75 hK75 => ?_
                  refine w_if ?_
                  simp only [W]
                  refine w_cnd h (fun hc h => ?_) (fun hc h => ?_)
                  · refine w_draw0 gC (by kernel_rfl) ?_
                    try simp only [W, EE, Nat.reduceAdd]
                    refine w_slS rfl rfl h fun x76 hx76 h => ?_
                    try simp only [W, EE]
                    refine w_cat h fun x77 hx77 h => ?_
                    try simp only [W, EE]
                    refine w_slS rfl rfl h fun x78 hx78 h => ?_
                    try simp only [W, EE]
                    refine w_cat h fun x79 hx79 h => ?_
                    try simp only [W]
                    refine seq_n hK75 ?_
                    refine w_kill ?_
                    exact cut_n hK74 ⟨_, (Option.some.inj h).symm, rfl, (hS.sel 2 [0] (by decide))⟩
                  · refine w_draw0 gC (by kernel_rfl) ?_
                    try simp only [W, EE, Nat.reduceAdd]
                    refine w_slS rfl rfl h fun x80 hx80 h => ?_
                    try simp only [W, EE]
                    refine w_slS rfl rfl h fun x81 hx81 h => ?_
                    try simp only [W, EE]
                    refine w_cat h fun x82 hx82 h => ?_
                    try simp only [W]
                    refine seq_n hK75 ?_
                    refine w_kill ?_
                    exact cut_n hK74 ⟨_, (Option.some.inj h).symm, rfl, (hS.sel 2 [0] (by decide))⟩
                · obtain ⟨x71, ey, rfl, hS⟩ := hq; obtain rfl := ey.symm
                  replace h := g73
                  try dsimp only at h
                  refine seq_n hK65 ?_
                  refine w_kill ?_
                  exact cut_n hK64 ⟨_, (Option.some.inj h).symm, rfl, hS⟩
            · obtain ⟨x61, ey, rfl, hS⟩ := hq; obtain rfl := ey.symm
              replace h := g63
              try dsimp only at h
              refine blk_n hK55 ?_
              exact cut_n hK59 ⟨_, (Option.some.inj h).symm, rfl, hS⟩
          · obtain ⟨x56, ey, rfl, hS⟩ := hq; obtain rfl := ey.symm
            replace h := g58
            try dsimp only at h
            refine blk_n hK32 ?_
            exact cut_n hK39 ⟨_, _, _, _, (Option.some.inj h).symm, rfl, hS⟩
        · obtain ⟨x33, x34, x35, x36, rfl, rfl, hS⟩ := hq
          replace h := g38
          try dsimp only at h
          refine seq_n hK31 ?_
          refine w_reg gC ?_
          try simp only [W, EE, Nat.reduceAdd]
          exact lp_n hK20 h ⟨rfl, hS⟩
      · refine w_exit ?_
        refine seq_x hK24 ?_
        try obtain rfl := Option.some.inj h
        obtain rfl := hd21 _ rfl
        have h : (some (x7, x9, x10, x11) : Option ((List UInt8) × (List Int) × Int × Int)) = some (x7, x9, x10, x11) := rfl
        refine lp_x hK20 ?_
        refine blk_e hK19 ?_
        exact cut_n hK18 ⟨_, _, _, _, (Option.some.inj h).symm, rfl, hS⟩
  · obtain ⟨x12, x13, x14, x15, rfl, rfl, hS⟩ := hq
    replace h := g23
    try dsimp only at h
    refine seq_n hK2 ?_
    refine w_seq fun K85 hK85 => ?_
    refine w_reg gC ?_
    try simp only [W, Nat.reduceAdd]
    refine seq_n hK85 ?_
    refine w_ret ?_
    refine fin_r1 hK0 rfl ?_
    try obtain rfl := Option.some.inj h
    exact hP _ hS
theorem spec_l1Cur_numberText_w {a0 : L1Cur} {i0 : Nat} {w0 : Nat} {r : (List UInt8 × L1Cur)} (h : spec_l1Cur_numberText a0 = some r) {F : List It} {H : Heap} (hS : Own H (⟨.ptr i0 w0 0 0, 3, [.agg [.fz (a0.Code.map (AV.int .u8)), .int .i64 a0.At, .int .u64 a0.Seed]]⟩ :: F)) {P : AV → Heap → Prop} (hP : ∀ H', Own H' (⟨.ptr i0 w0 0 0, 3, [.agg [.fz (r.2.Code.map (AV.int .u8)), .int .i64 r.2.At, .int .u64 r.2.Seed]]⟩ :: F) → P (.str r.1) H') : ACall C 229 [.ptr i0 w0 0 0] H P := by
  refine acall_of gC (res := [.tmp 2]) (n := 26) rfl rfl rfl rfl fun K0 hK0 => ?_
  simp only [W, Nat.reduceSub, Nat.reduceAdd, List.replicate]
  unfold spec_l1Cur_numberText at h
  refine w_seq fun K1 hK1 => ?_
  refine w_reg gC ?_
  try simp only [W, Nat.reduceAdd]
  refine seq_n hK1 ?_
  refine w_seq fun K2 hK2 => ?_
  refine w_reg gC ?_
  try simp only [W, Nat.reduceAdd]
  refine seq_n hK2 ?_
  refine w_seq fun K3 hK3 => ?_
  refine w_seq fun K4 hK4 => ?_
  refine w_reg gC ?_
  try simp only [W, Nat.reduceAdd]
  refine w_call h fun b5 hb5 h => ?_
  obtain ⟨b6, b7⟩ := b5
  try dsimp only at h
  refine spec_l1Cur_numbers_w hb5 hS fun v8 qv8 H hS => ?_
  try simp only [W, EE]
  refine w_len 0 hS rfl qv8 rfl ?_
  try simp only [W]
  refine seq_n hK4 ?_
  obtain ⟨y13, hw14, g20⟩ := Option.bind_eq_some_iff.1 h
  refine w_join gC (fun s H => ∃ x12 : List UInt8, y13 = (x12) ∧ s = [.ptr i0 w0 0 0, u, u, .str x12, u, u, u, u, u, u, u, u, u, u, u, u, u, u, u, u, u, u, u, u, u, u] ∧ Own H (⟨.ptr i0 w0 0 0, 3, [.agg [.fz (b7.Code.map (AV.int .u8)), .int .i64 b7.At, .int .u64 b7.Seed]]⟩ :: F)) (fun K15 hK15 => ?_) (fun s H hq => ?_)
  · refine w_blk fun K16 hK16 => ?_
    refine w_loop gC hw14 (fun x s H => match x with | (x10, x11) => s = [.ptr i0 w0 0 0, u, u, .str x10, u, u, u, v8, .int .i64 (b6.length : Int), .int .i64 x11, u, u, u, u, u, u, u, u, u, u, u, u, u, u, u, u] ∧ Own H (⟨v8, 1, b6.map (AV.int .i64)⟩ :: ⟨.ptr i0 w0 0 0, 3, [.agg [.fz (b7.Code.map (AV.int .u8)), .int .i64 b7.At, .int .u64 b7.Seed]]⟩ :: F)) ⟨rfl, hS⟩ (fun x y19 s H h hd18 hi K17 hK17 => ?_)
    obtain ⟨x10, x11⟩ := x
    try dsimp only at hi
    obtain ⟨rfl, hS⟩ := hi
    simp only [spec_l1Cur_numberText_l0] at h
    refine w_seq fun K21 hK21 => ?_
    refine w_reg gC ?_
    try simp only [W, EE, Nat.reduceAdd]
    refine seq_n hK21 ?_
    refine w_seq fun K22 hK22 => ?_
    refine w_if ?_
    simp only [W]
    refine w_cnd h (fun hc h => ?_) (fun hc h => ?_)
    · refine w_skip ?_
      refine seq_n hK22 ?_
      refine w_seq fun K23 hK23 => ?_
      obtain ⟨y26, h, g27⟩ := Option.bind_eq_some_iff.1 h
      refine w_join gC (fun s H => ∃ x25 : List UInt8, y26 = (x25) ∧ s = [.ptr i0 w0 0 0, u, u, .str x25, u, u, u, v8, .int .i64 (b6.length : Int), .int .i64 x11, u, u, u, u, u, u, u, u, u, u, u, u, u, u, u, u] ∧ Own H (⟨v8, 1, b6.map (AV.int .i64)⟩ :: ⟨.ptr i0 w0 0 0, 3, [.agg [.fz (b7.Code.map (AV.int .u8)), .int .i64 b7.At, .int .u64 b7.Seed]]⟩ :: F)) (fun K28 hK28 => ?_) (fun s H hq => ?_)
      · refine w_blk fun K24 hK24 => ?_
        refine w_seq fun K29 hK29 => ?_
        refine w_reg gC ?_
        try simp only [W, EE, Nat.reduceAdd]
        refine w_ow 0 hS rfl rfl rfl rfl rfl h (fun b30 in31 wn31 on31 hb30 h en31 => ?_) qv8.ne
        obtain ⟨kn31, hbn31, hen31⟩ := hS.elem 0 rfl en31 hb30
        try simp only [W, EE, hbn31, hen31]
        refine seq_n hK29 ?_
        refine w_seq fun K32 hK32 => ?_
        refine w_reg gC ?_
        try simp only [W, Nat.reduceAdd]
        refine w_call h fun b33 hb33 h => ?_
        refine spec_l1Number_w hb33 hS fun H hS => ?_
        try simp only [W]
        refine seq_n hK32 ?_
        obtain ⟨y35, h, g36⟩ := Option.bind_eq_some_iff.1 h
        refine w_join gC (fun s H => ∃ x34 : List UInt8, y35 = (x34) ∧ s = [.ptr i0 w0 0 0, u, u, .str x34, u, u, u, v8, .int .i64 (b6.length : Int), .int .i64 x11, u, u, u, u, u, u, u, u, u, u, u, u, u, u, u, u] ∧ Own H (⟨v8, 1, b6.map (AV.int .i64)⟩ :: ⟨.ptr i0 w0 0 0, 3, [.agg [.fz (b7.Code.map (AV.int .u8)), .int .i64 b7.At, .int .u64 b7.Seed]]⟩ :: F)) (fun K37 hK37 => ?_) (fun s H hq => ?_)
        · refine w_seq fun K38 hK38 => ?_
          refine w_if ?_
          simp only [W]
          refine w_cnd h (fun hc h => ?_) (fun hc h => ?_)
          · refine w_reg gC ?_
            try simp only [W, Nat.reduceAdd]
            refine w_call h fun b39 hb39 h => ?_
            refine spec_l1Put_w hb39 hS fun H hS => ?_
            try simp only [W, EE]
            refine w_cat h fun x40 hx40 h => ?_
            try simp only [W]
            refine seq_n hK38 ?_
            refine w_kill ?_
            exact cut_n hK37 ⟨_, (Option.some.inj h).symm, rfl, hS⟩
          · refine w_skip ?_
            refine seq_n hK38 ?_
            refine w_kill ?_
            exact cut_n hK37 ⟨_, (Option.some.inj h).symm, rfl, hS⟩
        · obtain ⟨x34, ey, rfl, hS⟩ := hq; obtain rfl := ey.symm
          replace h := g36
          try dsimp only at h
          refine blk_n hK24 ?_
          exact cut_n hK28 ⟨_, (Option.some.inj h).symm, rfl, hS⟩
      · obtain ⟨x25, ey, rfl, hS⟩ := hq; obtain rfl := ey.symm
        replace h := g27
        try dsimp only at h
        refine seq_n hK23 ?_
        refine w_reg gC ?_
        try simp only [W, EE, Nat.reduceAdd]
        exact lp_n hK17 h ⟨rfl, hS⟩
    · refine w_exit ?_
      refine seq_x hK22 ?_
      try obtain rfl := Option.some.inj h
      obtain rfl := hd18 _ rfl
      have h : (some (x10) : Option ((List UInt8))) = some (x10) := rfl
      refine lp_x hK17 ?_
      refine blk_e hK16 ?_
      exact cut_n hK15 ⟨_, (Option.some.inj h).symm, rfl, (hS.sel 2 [1] (by decide))⟩
  · obtain ⟨x12, ey, rfl, hS⟩ := hq; obtain rfl := ey.symm
    replace h := g20
    try dsimp only at h
    refine seq_n hK3 ?_
    refine w_seq fun K43 hK43 => ?_
    refine w_seq fun K44 hK44 => ?_
    refine w_reg gC ?_
    try simp only [W, Nat.reduceAdd]
    refine w_call h fun b45 hb45 h => ?_
    obtain ⟨b46, b47⟩ := b45
    try dsimp only at h
    refine spec_l1Cur_one_w hb45 hS fun H hS => ?_
    try simp only [W]
    refine seq_n hK44 ?_
    obtain ⟨y52, h, g53⟩ := Option.bind_eq_some_iff.1 h
    refine w_join gC (fun s H => ∃ x48 : List UInt8, ∃ x49 : List Int, ∃ x50 : Int, ∃ x51 : Int, y52 = (x48, x49, x50, x51) ∧ s = [u, u, u, .str x48, u, u, u, u, u, u, u, u, u, u, u, u, u, u, u, u, u, u, u, u, u, u] ∧ Own H (⟨.ptr i0 w0 0 0, 3, [.agg [.fz (x49.map (AV.int .u8)), .int .i64 x50, .int .u64 x51]]⟩ :: F)) (fun K54 hK54 => ?_) (fun s H hq => ?_)
    · refine w_seq fun K55 hK55 => ?_
      refine w_if ?_
      simp only [W]
      refine w_cnd h (fun hc h => ?_) (fun hc h => ?_)
      · refine w_reg gC ?_
        try simp only [W, Nat.reduceAdd]
        refine w_call h fun b56 hb56 h => ?_
        obtain ⟨b57, b58⟩ := b56
        try dsimp only at h
        refine spec_l1Cur_spoilt_w hb56 hS fun H hS => ?_
        try simp only [W]
        refine seq_n hK55 ?_
        refine w_kill ?_
        exact cut_n hK54 ⟨_, _, _, _, (Option.some.inj h).symm, rfl, hS⟩
      · refine w_skip ?_
        refine seq_n hK55 ?_
        refine w_kill ?_
        exact cut_n hK54 ⟨_, _, _, _, (Option.some.inj h).symm, rfl, hS⟩
    · obtain ⟨x48, x49, x50, x51, rfl, rfl, hS⟩ := hq
      replace h := g53
      try dsimp only at h
      refine seq_n hK43 ?_
      refine w_seq fun K59 hK59 => ?_
      refine w_reg gC ?_
      try simp only [W, Nat.reduceAdd]
      refine seq_n hK59 ?_
      refine w_ret ?_
      refine fin_r1 hK0 rfl ?_
      try obtain rfl := Option.some.inj h
      exact hP _ hS
theorem spec_DrawGetList_w {a0 : List Int} {r : (List UInt8)} (h : spec_DrawGetList a0 = some r) {F : List It} {H : Heap} (hS : Own H (F)) {P : AV → Heap → Prop} (hP : ∀ H', Own H' (F) → P (.str r) H') : ACall C 108 [.fz (a0.map (AV.int .u8))] H P := by
  refine acall_of gC (res := [.tmp 2]) (n := 9) rfl rfl rfl rfl fun K0 hK0 => ?_
  simp only [W, Nat.reduceSub, Nat.reduceAdd, List.replicate]
  unfold spec_DrawGetList at h
  refine w_seq fun K1 hK1 => ?_
  refine w_reg gC ?_
  try simp only [W, Nat.reduceAdd]
  refine seq_n hK1 ?_
  refine w_seq fun K2 hK2 => ?_
  refine w_reg gC ?_
  try simp only [W, EE, Nat.reduceAdd]
  refine w_bld rfl rfl rfl rfl rfl ?_
  try simp only [W]
  refine w_box hS rfl rfl rfl rfl fun ip3 wp3 H hS => ?_
  try simp only [W]
  refine seq_n hK2 ?_
  refine w_seq fun K5 hK5 => ?_
  refine w_reg gC ?_
  try simp only [W, Nat.reduceAdd]
  refine w_call h fun b6 hb6 h => ?_
  obtain ⟨b7, b8⟩ := b6
  try dsimp only at h
  refine spec_l1Cur_numberText_w hb6 hS fun H hS => ?_
  try simp only [W]
  refine seq_n hK5 ?_
  refine w_ret ?_
  refine fin_r1 hK0 rfl ?_
  try obtain rfl := Option.some.inj h
  exact hP _ (hS.sel 1 [] (by decide))
theorem spec_l1Get_w {a0 : List UInt8} {a1 : Int} {r : (Int × Int)} (h : spec_l1Get a0 a1 = some r) {F : List It} {H : Heap} (hS : Own H (F)) {P : AV → Heap → Prop} (hP : ∀ H', Own H' (F) → P (.tup [.int .i64 r.1, .int .i64 r.2]) H') : ACall C 233 [.str a0, .int .i64 a1] H P := by
  refine acall_of gC (res := [.tmp 4, .tmp 5]) (n := 57) rfl rfl rfl rfl fun K0 hK0 => ?_
  simp only [W, Nat.reduceSub, Nat.reduceAdd, List.replicate]
  unfold spec_l1Get at h
  refine w_seq fun K1 hK1 => ?_
  refine w_reg gC ?_
  try simp only [W, Nat.reduceAdd]
  refine seq_n hK1 ?_
  refine w_seq fun K2 hK2 => ?_
  refine w_seq fun K3 hK3 => ?_
  refine w_reg gC ?_
  try simp only [W, EE, Nat.reduceAdd]
  refine seq_n hK3 ?_
  refine w_if ?_
  simp only [W]
  refine w_cnd h (fun hc h => ?_) (fun hc h => ?_)
  · refine w_seq fun K4 hK4 => ?_
    refine w_reg gC ?_
    try simp only [W, Nat.reduceAdd]
    refine seq_n hK4 ?_
    refine w_ret ?_
    refine seq_r hK2 ?_
    refine fin_r2 hK0 rfl rfl ?_
    try obtain rfl := Option.some.inj h
    exact hP _ hS
  · refine w_skip ?_
    refine seq_n hK2 ?_
    refine w_seq fun K5 hK5 => ?_
    refine w_reg gC ?_
    try simp only [W, EE, Nat.reduceAdd]
    refine w_sidx h fun b6 hb6 h => ?_
    try simp only [W, EE]
    rw [sr_lit _ _ _ rfl, Option.map_some, resV_s]
    try simp only [W, EE]
    refine w_num _ h fun x7 hx7 h => ?_
    try simp only [W]
    refine seq_n hK5 ?_
    refine w_seq fun K8 hK8 => ?_
    refine w_seq fun K9 hK9 => ?_
    refine w_reg gC ?_
    try simp only [W, EE, Nat.reduceAdd]
    refine seq_n hK9 ?_
    refine w_if ?_
    simp only [W]
    refine w_cnd h (fun hc h => ?_) (fun hc h => ?_)
    · refine w_seq fun K10 hK10 => ?_
      refine w_reg gC ?_
      try simp only [W, Nat.reduceAdd]
      refine seq_n hK10 ?_
      refine w_ret ?_
      refine seq_r hK8 ?_
      refine fin_r2 hK0 rfl rfl ?_
      try obtain rfl := Option.some.inj h
      exact hP _ hS
    · refine w_skip ?_
      refine seq_n hK8 ?_
      refine w_seq fun K11 hK11 => ?_
      refine w_reg gC ?_
      try simp only [W, EE, Nat.reduceAdd]
      refine w_sidx h fun b12 hb12 h => ?_
      try simp only [W, EE]
      refine seq_n hK11 ?_
      refine w_seq fun K13 hK13 => ?_
      refine w_seq fun K14 hK14 => ?_
      refine w_reg gC ?_
      try simp only [W, Nat.reduceAdd]
      refine seq_n hK14 ?_
      obtain ⟨y18, hw19, g25⟩ := Option.bind_eq_some_iff.1 h
      refine w_join gC (fun s H => ∃ x17 : Int, y18 = (x17) ∧ s = [u, .int .i64 a1, u, u, u, u, .int .i64 x7, .int .i64 x17, u, u, u, u, u, u, u, u, u, u, u, u, u, u, u, u, u, u, u, u, u, u, u, u, u, u, u, u, u, u, u, u, u, u, u, u, u, u, u, u, u, u, u, u, u, u, u, u, u] ∧ Own H (F)) (fun K20 hK20 => ?_) (fun s H hq => ?_)
      · refine w_blk fun K21 hK21 => ?_
        refine w_loop gC hw19 (fun x s H => match x with | (x15, x16) => s = [.str a0, .int .i64 a1, u, u, u, u, .int .i64 x7, .int .i64 x15, .int .i64 x16, u, u, u, u, u, u, u, u, u, u, u, u, u, u, u, u, u, u, u, u, u, u, u, u, u, u, u, u, u, u, u, u, u, u, u, u, u, u, u, u, u, u, u, u, u, u, u, u] ∧ Own H (F)) ⟨rfl, hS⟩ (fun x y24 s H h hd23 hi K22 hK22 => ?_)
        obtain ⟨x15, x16⟩ := x
        try dsimp only at hi
        obtain ⟨rfl, hS⟩ := hi
        simp only [spec_l1Get_l0] at h
        refine w_seq fun K26 hK26 => ?_
        refine w_seq fun K27 hK27 => ?_
        refine w_reg gC ?_
        try simp only [W, EE, Nat.reduceAdd]
        refine seq_n hK27 ?_
        refine w_if ?_
        simp only [W]
        refine w_cnd h (fun hc h => ?_) (fun hc h => ?_)
        · refine w_skip ?_
          refine seq_n hK26 ?_
          refine w_seq fun K28 hK28 => ?_
          refine w_blk fun K29 hK29 => ?_
          refine w_reg gC ?_
          try simp only [W, EE, Nat.reduceAdd]
          rw [sl_lit _ _ _ rfl, Option.map_some, resV_s]
          try simp only [W, EE]
          refine w_sidx h fun b30 hb30 h => ?_
          try simp only [W, EE]
          refine blk_n0 hK29 ?_
          refine seq_n hK28 ?_
          refine w_reg gC ?_
          try simp only [W, EE, Nat.reduceAdd]
          exact lp_n hK22 h ⟨rfl, hS⟩
        · refine w_exit ?_
          refine seq_x hK26 ?_
          try obtain rfl := Option.some.inj h
          obtain rfl := hd23 _ rfl
          have h : (some (x15) : Option (Int)) = some (x15) := rfl
          refine lp_x hK22 ?_
          refine blk_e hK21 ?_
          exact cut_n hK20 ⟨_, (Option.some.inj h).symm, rfl, hS⟩
      · obtain ⟨x17, ey, rfl, hS⟩ := hq; obtain rfl := ey.symm
        replace h := g25
        try dsimp only at h
        refine seq_n hK13 ?_
        refine w_seq fun K33 hK33 => ?_
        refine w_seq fun K34 hK34 => ?_
        obtain ⟨y36, h, g37⟩ := Option.bind_eq_some_iff.1 h
        refine w_join gC (fun s H => ∃ x35 : Bool, y36 = (x35) ∧ s = [u, .int .i64 a1, u, u, u, u, .int .i64 x7, .int .i64 x17, u, u, u, u, u, u, u, u, u, u, u, u, u, u, u, u, u, u, u, u, u, u, u, u, u, u, u, u, u, u, u, u, u, u, u, u, u, u, u, u, u, u, u, u, .bool x35, u, u, u, u] ∧ Own H (F)) (fun K38 hK38 => ?_) (fun s H hq => ?_)
        · refine w_seq fun K39 hK39 => ?_
          refine w_reg gC ?_
          try simp only [W, Nat.reduceAdd]
          refine w_call h fun b40 hb40 h => ?_
          refine spec_l1Number_w hb40 hS fun H hS => ?_
          try simp only [W]
          refine w_grdT h (fun hc h => ?_) (fun hc h => ?_)
          · try simp only [W, hc]
            refine seq_n hK39 ?_
            refine w_kill ?_
            exact cut_n hK38 ⟨_, (Option.some.inj h).symm, rfl, hS⟩
          · try simp only [W, hc]
            refine w_call h fun b41 hb41 h => ?_
            refine spec_l1Size_w hb41 hS fun H hS => ?_
            try simp only [W, EE, reduceIte, Bool.false_eq_true]
            refine seq_n hK39 ?_
            refine w_kill ?_
            exact cut_n hK38 ⟨_, (Option.some.inj h).symm, rfl, hS⟩
        · obtain ⟨x35, ey, rfl, hS⟩ := hq; obtain rfl := ey.symm
          replace h := g37
          try dsimp only at h
          refine seq_n hK34 ?_
          refine w_if ?_
          simp only [W]
          refine w_cnd h (fun hc h => ?_) (fun hc h => ?_)
          · refine w_seq fun K42 hK42 => ?_
            refine w_reg gC ?_
            try simp only [W, Nat.reduceAdd]
            refine seq_n hK42 ?_
            refine w_ret ?_
            refine seq_r hK33 ?_
            refine fin_r2 hK0 rfl rfl ?_
            try obtain rfl := Option.some.inj h
            exact hP _ hS
          · refine w_skip ?_
            refine seq_n hK33 ?_
            refine w_seq fun K43 hK43 => ?_
            refine w_reg gC ?_
            try simp only [W, EE, Nat.reduceAdd]
            refine seq_n hK43 ?_
            refine w_ret ?_
            refine fin_r2 hK0 rfl rfl ?_
            try obtain rfl := Option.some.inj h
            exact hP _ hS
theorem spec_l1List_w {a0 : List UInt8} {r : (List Int × Bool)} (h : spec_l1List a0 = some r) {F : List It} {H : Heap} (hS : Own H (F)) {P : AV → Heap → Prop} (hP : ∀ v42 : AV, isSl v42 → ∀ H', Own H' (⟨v42, 1, r.1.map (AV.int .i64)⟩ :: F) → P (.tup [v42, .bool r.2]) H') : ACall C 230 [.str a0] H P := by
  refine acall_of gC (res := [.tmp 2, .tmp 3]) (n := 26) rfl rfl rfl rfl fun K0 hK0 => ?_
  simp only [W, Nat.reduceSub, Nat.reduceAdd, List.replicate]
  unfold spec_l1List at h
  refine w_seq fun K1 hK1 => ?_
  refine w_reg gC ?_
  try simp only [W, Nat.reduceAdd]
  refine seq_n hK1 ?_
  refine w_seq fun K2 hK2 => ?_
  refine w_reg gC ?_
  try simp only [W, Nat.reduceAdd]
  refine seq_n hK2 ?_
  refine w_seq fun K3 hK3 => ?_
  refine w_seq fun K4 hK4 => ?_
  refine w_reg gC ?_
  try simp only [W, Nat.reduceAdd]
  refine seq_n hK4 ?_
  obtain ⟨y11, hw12, g18⟩ := Option.bind_eq_some_iff.1 h
  refine w_join gC (fun s H => ∃ x9 : List Int, y11 = LR.next (x9) ∧ ∃ v10 : AV, isSl v10 ∧ s = [u, u, u, u, v10, u, u, u, u, u, u, u, u, u, u, u, u, u, u, u, u, u, u, u, u, u] ∧ Own H (⟨v10, 1, x9.map (AV.int .i64)⟩ :: F)) (fun K13 hK13 => ?_) (fun s H hq => ?_)
  · refine w_blk fun K14 hK14 => ?_
    refine w_loop gC hw12 (fun x s H => match x with | (x5, x8) => ∃ v6 : AV, isSl v6 ∧ s = [.str a0, u, u, u, v6, .int .i64 x8, u, u, u, u, u, u, u, u, u, u, u, u, u, u, u, u, u, u, u, u] ∧ Own H (⟨v6, 1, x5.map (AV.int .i64)⟩ :: F)) ⟨_, isSl_nil, rfl, (hS.nil_ 1)⟩ (fun x y17 s H h hd16 hi K15 hK15 => ?_)
    obtain ⟨x5, x8⟩ := x
    try dsimp only at hi
    obtain ⟨v6, qv6, rfl, hS⟩ := hi
    simp only [spec_l1List_l0] at h
    refine w_seq fun K19 hK19 => ?_
    refine w_seq fun K20 hK20 => ?_
    refine w_reg gC ?_
    try simp only [W, EE, Nat.reduceAdd]
    refine seq_n hK20 ?_
    refine w_if ?_
    simp only [W]
    refine w_cnd h (fun hc h => ?_) (fun hc h => ?_)
    · refine w_skip ?_
      refine seq_n hK19 ?_
      refine w_blk fun K21 hK21 => ?_
      refine w_seq fun K22 hK22 => ?_
      refine w_reg gC ?_
      try simp only [W, Nat.reduceAdd]
      refine w_call h fun b23 hb23 h => ?_
      obtain ⟨b24, b25⟩ := b23
      try dsimp only at h
      refine spec_l1Get_w hb23 hS fun H hS => ?_
      try simp only [W]
      refine seq_n hK22 ?_
      refine w_seq fun K26 hK26 => ?_
      refine w_seq fun K27 hK27 => ?_
      refine w_reg gC ?_
      try simp only [W, EE, Nat.reduceAdd]
      refine seq_n hK27 ?_
      refine w_if ?_
      simp only [W]
      refine w_cnd h (fun hc h => ?_) (fun hc h => ?_)
      · refine w_seq fun K28 hK28 => ?_
        refine w_reg gC ?_
        try simp only [W, Nat.reduceAdd]
        refine seq_n hK28 ?_
        refine w_ret ?_
        refine seq_r hK26 ?_
        refine blk_r hK21 ?_
        try obtain rfl := Option.some.inj h
        obtain rfl := hd16 _ rfl
        have h : (some (LR.done ([], false)) : Option (LR ((List Int)) (List Int × Bool))) = some (LR.done ([], false)) := rfl
        refine lp_r hK15 ?_
        refine blk_r hK14 ?_
        try obtain rfl := Option.some.inj h
        obtain rfl := Option.some.inj g18
        have h : (some ([], false) : Option (List Int × Bool)) = some ([], false) := rfl
        refine cut_r hK13 ?_
        refine seq_r hK3 ?_
        refine fin_r2 hK0 rfl rfl ?_
        try obtain rfl := Option.some.inj h
        exact hP _ isSl_nil _ ((hS.nil_ 1).sel 2 [0] (by decide))
      · refine w_skip ?_
        refine seq_n hK26 ?_
        refine w_seq fun K33 hK33 => ?_
        refine w_reg gC ?_
        try simp only [W, Nat.reduceAdd]
        refine w_lit (el := ([b24] : List Int).map (AV.int .i64)) hS rfl rfl rfl rfl rfl rfl rfl fun v34 H qv34 hS => ?_
        try simp only [W, EE]
        refine w_appV (l := x5) (c := (AV.int .i64)) 1 hS rfl qv6 rfl rfl rfl (hS.elems 0 rfl qv34) (fun _ => rfl) rfl h fun v37 H x36 qv37 hm h hS => ?_
        try simp only [W]
        refine seq_n hK33 ?_
        refine w_reg gC ?_
        try simp only [W, Nat.reduceAdd]
        refine blk_n0 hK21 ?_
        exact lp_n hK15 h ⟨_, qv37, rfl, (hS.sel 2 [1] (by decide))⟩
    · refine w_exit ?_
      refine seq_x hK19 ?_
      try obtain rfl := Option.some.inj h
      obtain rfl := hd16 _ rfl
      have h : (some (LR.next (x5)) : Option (LR ((List Int)) (List Int × Bool))) = some (LR.next (x5)) := rfl
      refine lp_x hK15 ?_
      refine blk_e hK14 ?_
      exact cut_n hK13 ⟨_, (Option.some.inj h).symm, _, qv6, rfl, hS⟩
  · obtain ⟨x9, ey, v10, qv10, rfl, hS⟩ := hq; obtain rfl := ey.symm
    replace h := g18
    try dsimp only at h
    refine seq_n hK3 ?_
    refine w_seq fun K41 hK41 => ?_
    refine w_reg gC ?_
    try simp only [W, Nat.reduceAdd]
    refine seq_n hK41 ?_
    refine w_ret ?_
    refine fin_r2 hK0 rfl rfl ?_
    try obtain rfl := Option.some.inj h
    exact hP _ qv10 _ hS
theorem spec_GetList_w {a0 : List UInt8} {r : (List Int × Bool)} (h : spec_GetList a0 = some r) {F : List It} {H : Heap} (hS : Own H (F)) {P : AV → Heap → Prop} (hP : ∀ v20 : AV, isSl v20 → ∀ H', Own H' (⟨v20, 1, r.1.map (AV.int .i64)⟩ :: F) → P (.tup [v20, .bool r.2]) H') : ACall C 109 [.str a0] H P := by
  refine acall_of gC (res := [.tmp 2, .tmp 3]) (n := 22) rfl rfl rfl rfl fun K0 hK0 => ?_
  simp only [W, Nat.reduceSub, Nat.reduceAdd, List.replicate]
  unfold spec_GetList at h
  refine w_seq fun K1 hK1 => ?_
  refine w_reg gC ?_
  try simp only [W, Nat.reduceAdd]
  refine seq_n hK1 ?_
  refine w_seq fun K2 hK2 => ?_
  refine w_seq fun K3 hK3 => ?_
  refine w_reg gC ?_
  try simp only [W, EE, Nat.reduceAdd]
  refine seq_n hK3 ?_
  refine w_if ?_
  simp only [W]
  refine w_cnd h (fun hc h => ?_) (fun hc h => ?_)
  · refine w_seq fun K4 hK4 => ?_
    refine w_reg gC ?_
    try simp only [W, Nat.reduceAdd]
    refine seq_n hK4 ?_
    refine w_ret ?_
    refine seq_r hK2 ?_
    refine fin_r2 hK0 rfl rfl ?_
    try obtain rfl := Option.some.inj h
    exact hP _ isSl_nil _ (hS.nil_ 1)
  · refine w_skip ?_
    refine seq_n hK2 ?_
    refine w_seq fun K5 hK5 => ?_
    refine w_reg gC ?_
    try simp only [W, Nat.reduceAdd]
    refine w_call h fun b6 hb6 h => ?_
    obtain ⟨b7, b8⟩ := b6
    try dsimp only at h
    refine spec_l1List_w hb6 hS fun v9 qv9 H hS => ?_
    try simp only [W]
    refine seq_n hK5 ?_
    refine w_seq fun K11 hK11 => ?_
    refine w_seq fun K12 hK12 => ?_
    obtain ⟨y14, h, g15⟩ := Option.bind_eq_some_iff.1 h
    refine w_join gC (fun s H => ∃ x13 : Bool, y14 = (x13) ∧ s = [u, u, u, u, v9, u, u, u, u, u, u, u, u, u, u, u, u, u, u, u, .bool x13, u] ∧ Own H (⟨v9, 1, b7.map (AV.int .i64)⟩ :: F)) (fun K16 hK16 => ?_) (fun s H hq => ?_)
    · refine w_seq fun K17 hK17 => ?_
      refine w_reg gC ?_
      try simp only [W, Nat.reduceAdd]
      refine w_grdT h (fun hc h => ?_) (fun hc h => ?_)
      · try simp only [W, hc]
        refine seq_n hK17 ?_
        refine w_kill ?_
        exact cut_n hK16 ⟨_, (Option.some.inj h).symm, rfl, hS⟩
      · try simp only [W, EE, hc]
        refine w_len 0 hS rfl qv9 rfl ?_
        try simp only [W, EE, reduceIte, Bool.false_eq_true]
        refine seq_n hK17 ?_
        refine w_kill ?_
        exact cut_n hK16 ⟨_, (Option.some.inj h).symm, rfl, hS⟩
    · obtain ⟨x13, ey, rfl, hS⟩ := hq; obtain rfl := ey.symm
      replace h := g15
      try dsimp only at h
      refine seq_n hK12 ?_
      refine w_if ?_
      simp only [W]
      refine w_cnd h (fun hc h => ?_) (fun hc h => ?_)
      · refine w_seq fun K18 hK18 => ?_
        refine w_reg gC ?_
        try simp only [W, Nat.reduceAdd]
        refine seq_n hK18 ?_
        refine w_ret ?_
        refine seq_r hK11 ?_
        refine fin_r2 hK0 rfl rfl ?_
        try obtain rfl := Option.some.inj h
        exact hP _ isSl_nil _ ((hS.nil_ 1).sel 2 [0] (by decide))
      · refine w_skip ?_
        refine seq_n hK11 ?_
        refine w_seq fun K19 hK19 => ?_
        refine w_reg gC ?_
        try simp only [W, Nat.reduceAdd]
        refine seq_n hK19 ?_
        refine w_ret ?_
        refine fin_r2 hK0 rfl rfl ?_
        try obtain rfl := Option.some.inj h
        exact hP _ qv9 _ hS
theorem spec_l1Cur_of_w {a0 : L1Cur} {a1 : List (List UInt8)} {i0 : Nat} {w0 : Nat} {r : (List UInt8 × L1Cur)} (h : spec_l1Cur_of a0 a1 = some r) {F : List It} {H : Heap} (hS : Own H (⟨.ptr i0 w0 0 0, 3, [.agg [.fz (a0.Code.map (AV.int .u8)), .int .i64 a0.At, .int .u64 a0.Seed]]⟩ :: F)) {P : AV → Heap → Prop} (hP : ∀ H', Own H' (⟨.ptr i0 w0 0 0, 3, [.agg [.fz (r.2.Code.map (AV.int .u8)), .int .i64 r.2.At, .int .u64 r.2.Seed]]⟩ :: F) → P (.str r.1) H') : ACall C 231 [.ptr i0 w0 0 0, .fz (a1.map AV.str)] H P := by
  refine acall_of gC (res := [.tmp 4]) (n := 12) rfl rfl rfl rfl fun K0 hK0 => ?_
  simp only [W, Nat.reduceSub, Nat.reduceAdd, List.replicate]
  unfold spec_l1Cur_of at h
  refine w_seq fun K1 hK1 => ?_
  refine w_reg gC ?_
  try simp only [W, Nat.reduceAdd]
  refine seq_n hK1 ?_
  refine w_seq fun K2 hK2 => ?_
  refine w_reg gC ?_
  try simp only [W, EE, Nat.reduceAdd]
  refine w_call h fun b3 hb3 h => ?_
  obtain ⟨b4, b5⟩ := b3
  try dsimp only at h
  refine spec_l1Cur_pick_w hb3 hS fun H hS => ?_
  try simp only [W, EE]
  refine w_fz rfl rfl rfl (fun _ => rfl) h fun b6 hb6 h => ?_
  try simp only [W, EE]
  refine seq_n hK2 ?_
  refine w_ret ?_
  refine fin_r1 hK0 rfl ?_
  try obtain rfl := Option.some.inj h
  exact hP _ hS
theorem spec_DrawPutText_w {a0 : List Int} {r : (List UInt8)} (h : spec_DrawPutText a0 = some r) {F : List It} {H : Heap} (hS : Own H (F)) {P : AV → Heap → Prop} (hP : ∀ H', Own H' (F) → P (.str r) H') : ACall C 110 [.fz (a0.map (AV.int .u8))] H P := by
  refine acall_of gC (res := [.tmp 2]) (n := 17) rfl rfl rfl rfl fun K0 hK0 => ?_
  simp only [W, Nat.reduceSub, Nat.reduceAdd, List.replicate]
  unfold spec_DrawPutText at h
  refine w_seq fun K1 hK1 => ?_
  refine w_reg gC ?_
  try simp only [W, Nat.reduceAdd]
  refine seq_n hK1 ?_
  refine w_seq fun K2 hK2 => ?_
  refine w_reg gC ?_
  try simp only [W, EE, Nat.reduceAdd]
  refine w_bld rfl rfl rfl rfl rfl ?_
  try simp only [W]
  refine w_box hS rfl rfl rfl rfl fun ip3 wp3 H hS => ?_
  try simp only [W]
  refine seq_n hK2 ?_
  refine w_seq fun K5 hK5 => ?_
  refine w_seq fun K6 hK6 => ?_
  refine w_reg gC ?_
  try simp only [W, Nat.reduceAdd]
  refine w_call h fun b7 hb7 h => ?_
  obtain ⟨b8, b9⟩ := b7
  try dsimp only at h
  refine spec_l1Cur_one_w hb7 hS fun H hS => ?_
  try simp only [W]
  refine seq_n hK6 ?_
  refine w_if ?_
  simp only [W]
  refine w_cnd h (fun hc h => ?_) (fun hc h => ?_)
  · refine w_seq fun K10 hK10 => ?_
    refine w_regF (fz := [(2, [([10], [.sl [.sc]])])]) gC ?_
    try simp only [W, Nat.reduceAdd, Nat.reduceBEq]
    refine w_lit (el := ([63, 64, 199, 200, 201] : List Int).map (AV.int .i64)) hS rfl rfl rfl rfl rfl rfl rfl fun v11 H qv11 hS => ?_
    try simp only [W, Nat.reduceAdd]
    refine FZ_own 0 hS rfl qv11 rfl (fun _ _ => by simp [takeE, takeT, plainA]) (fun _ => rfl) fun H hsame hS => ?_
    try simp only [W]
    refine w_call h fun b13 hb13 h => ?_
    obtain ⟨b14, b15⟩ := b13
    try dsimp only at h
    refine spec_l1Cur_among_w hb13 hS fun H hS => ?_
    try simp only [W, Nat.reduceAdd, Nat.reduceBEq]
    refine w_make (c := (AV.int .u8)) hS rfl rfl rfl rfl rfl rfl h fun v16 H x18 qv16 hm h hS => ?_
    try simp only [W, EE, Nat.reduceAdd, Nat.reduceBEq]
    refine w_b2s rfl rfl rfl rfl rfl rfl rfl (hS.elems 0 rfl qv16) (hS.notStr 0 rfl) ?_
    try simp only [W, Nat.reduceAdd, Nat.reduceBEq]
    refine seq_n hK10 ?_
    refine w_ret ?_
    refine seq_r hK5 ?_
    refine fin_r1 hK0 rfl ?_
    try obtain rfl := Option.some.inj h
    exact hP _ (hS.sel 2 [] (by decide))
  · refine w_skip ?_
    refine seq_n hK5 ?_
    refine w_seq fun K19 hK19 => ?_
    refine w_regF (fz := [(2, [([15], [.sl [.sc]])])]) gC ?_
    try simp only [W, Nat.reduceAdd, Nat.reduceBEq]
    refine w_lit (el := ([[], [97], [115, 111, 109, 101, 32, 116, 101, 120, 116], [0, 255]] : List (List UInt8)).map AV.str) hS rfl rfl rfl rfl rfl rfl rfl fun v20 H qv20 hS => ?_
    try simp only [W, Nat.reduceAdd]
    refine FZ_own 0 hS rfl qv20 rfl (fun _ _ => by simp [takeE, takeT, plainA]) (fun _ => rfl) fun H hsame hS => ?_
    try simp only [W]
    refine w_call h fun b22 hb22 h => ?_
    obtain ⟨b23, b24⟩ := b22
    try dsimp only at h
    refine spec_l1Cur_of_w hb22 hS fun H hS => ?_
    try simp only [W, Nat.reduceAdd, Nat.reduceBEq]
    refine seq_n hK19 ?_
    refine w_ret ?_
    refine fin_r1 hK0 rfl ?_
    try obtain rfl := Option.some.inj h
    exact hP _ (hS.sel 1 [] (by decide))
theorem impl_PutText_w {a0 : List UInt8} {r : (List UInt8 × Bool)} (h : impl_PutText a0 = some r) {F : List It} {H : Heap} (hS : Own H (F)) {P : AV → Heap → Prop} (hP : ∀ H', Own H' (F) → P (.tup [.str r.1, .bool r.2]) H') : ACall C 111 [.str a0] H P := by
  refine acall_of gC (res := [.tmp 2, .tmp 3]) (n := 12) rfl rfl rfl rfl fun K0 hK0 => ?_
  simp only [W, Nat.reduceSub, Nat.reduceAdd, List.replicate]
  unfold impl_PutText at h
  refine w_seq fun K1 hK1 => ?_
  refine w_reg gC ?_
  try simp only [W, Nat.reduceAdd]
  refine seq_n hK1 ?_
  refine w_seq fun K2 hK2 => ?_
  refine w_seq fun K3 hK3 => ?_
  refine w_reg gC ?_
  try simp only [W, EE, Nat.reduceAdd]
  refine seq_n hK3 ?_
  refine w_if ?_
  simp only [W]
  refine w_cnd h (fun hc h => ?_) (fun hc h => ?_)
  · refine w_seq fun K4 hK4 => ?_
    refine w_reg gC ?_
    try simp only [W, Nat.reduceAdd]
    refine seq_n hK4 ?_
    refine w_ret ?_
    refine seq_r hK2 ?_
    refine fin_r2 hK0 rfl rfl ?_
    try obtain rfl := Option.some.inj h
    exact hP _ hS
  · refine w_skip ?_
    refine seq_n hK2 ?_
    refine w_seq fun K5 hK5 => ?_
    refine w_reg gC ?_
    try simp only [W, EE, Nat.reduceAdd]
    refine w_call h fun b6 hb6 h => ?_
    refine impl_number_w hb6 hS fun H hS => ?_
    try simp only [W, EE]
    refine w_cat h fun x7 hx7 h => ?_
    try simp only [W]
    refine seq_n hK5 ?_
    refine w_ret ?_
    refine fin_r2 hK0 rfl rfl ?_
    try obtain rfl := Option.some.inj h
    exact hP _ hS
theorem spec_PutText_w {a0 : List UInt8} {r : (List UInt8 × Bool)} (h : spec_PutText a0 = some r) {F : List It} {H : Heap} (hS : Own H (F)) {P : AV → Heap → Prop} (hP : ∀ H', Own H' (F) → P (.tup [.str r.1, .bool r.2]) H') : ACall C 112 [.str a0] H P := by
  refine acall_of gC (res := [.tmp 2, .tmp 3]) (n := 12) rfl rfl rfl rfl fun K0 hK0 => ?_
  simp only [W, Nat.reduceSub, Nat.reduceAdd, List.replicate]
  unfold spec_PutText at h
  refine w_seq fun K1 hK1 => ?_
  refine w_reg gC ?_
  try simp only [W, Nat.reduceAdd]
  refine seq_n hK1 ?_
  refine w_seq fun K2 hK2 => ?_
  refine w_seq fun K3 hK3 => ?_
  refine w_reg gC ?_
  try simp only [W, EE, Nat.reduceAdd]
  refine seq_n hK3 ?_
  refine w_if ?_
  simp only [W]
  refine w_cnd h (fun hc h => ?_) (fun hc h => ?_)
  · refine w_seq fun K4 hK4 => ?_
    refine w_reg gC ?_
    try simp only [W, Nat.reduceAdd]
    refine seq_n hK4 ?_
    refine w_ret ?_
    refine seq_r hK2 ?_
    refine fin_r2 hK0 rfl rfl ?_
    try obtain rfl := Option.some.inj h
    exact hP _ hS
  · refine w_skip ?_
    refine seq_n hK2 ?_
    refine w_seq fun K5 hK5 => ?_
    refine w_reg gC ?_
    try simp only [W, EE, Nat.reduceAdd]
    refine w_call h fun b6 hb6 h => ?_
    refine spec_l1Put_w hb6 hS fun H hS => ?_
    try simp only [W, EE]
    refine w_cat h fun x7 hx7 h => ?_
    try simp only [W]
    refine seq_n hK5 ?_
    refine w_ret ?_
    refine fin_r2 hK0 rfl rfl ?_
    try obtain rfl := Option.some.inj h
    exact hP _ hS
theorem impl_GetText_w {a0 : List UInt8} {a1 : Int} {r : (List UInt8 × Int × Bool)} (h : impl_GetText a0 a1 = some r) {F : List It} {H : Heap} (hS : Own H (F)) {P : AV → Heap → Prop} (hP : ∀ H', Own H' (F) → P (.tup [.str r.1, .int .i64 r.2.1, .bool r.2.2]) H') : ACall C 113 [.str a0, .int .i64 a1] H P := by
  refine acall_of gC (res := [.tmp 4, .tmp 5, .tmp 6]) (n := 40) rfl rfl rfl rfl fun K0 hK0 => ?_
  simp only [W, Nat.reduceSub, Nat.reduceAdd, List.replicate]
  unfold impl_GetText at h
  refine w_seq fun K1 hK1 => ?_
  refine w_reg gC ?_
  try simp only [W, Nat.reduceAdd]
  refine seq_n hK1 ?_
  refine w_seq fun K2 hK2 => ?_
  refine w_reg gC ?_
  try simp only [W, Nat.reduceAdd]
  refine w_call h fun b3 hb3 h => ?_
  obtain ⟨b4, b5, b6⟩ := b3
  try dsimp only at h
  refine impl_GetNumber_w hb3 hS fun H hS => ?_
  try simp only [W]
  refine seq_n hK2 ?_
  refine w_seq fun K7 hK7 => ?_
  refine w_seq fun K8 hK8 => ?_
  obtain ⟨y10, h, g11⟩ := Option.bind_eq_some_iff.1 h
  refine w_join gC (fun s H => ∃ x9 : Bool, y10 = (x9) ∧ s = [.str a0, u, u, u, u, u, u, .int .i64 b4, .int .i64 b5, u, u, u, u, u, u, u, u, u, u, u, u, u, u, u, u, u, u, u, u, u, .bool x9, u, u, u, u, u, u, u, u, u] ∧ Own H (F)) (fun K12 hK12 => ?_) (fun s H hq => ?_)
  · refine w_seq fun K13 hK13 => ?_
    refine w_reg gC ?_
    try simp only [W, Nat.reduceAdd]
    refine w_grdT h (fun hc h => ?_) (fun hc h => ?_)
    · try simp only [W, hc]
      refine seq_n hK13 ?_
      refine w_kill ?_
      exact cut_n hK12 ⟨_, (Option.some.inj h).symm, rfl, hS⟩
    · try simp only [W, EE, reduceIte, Bool.false_eq_true, hc]
      refine w_grdT h (fun hc h => ?_) (fun hc h => ?_)
      · try simp only [W, hc]
        refine seq_n hK13 ?_
        refine w_kill ?_
        exact cut_n hK12 ⟨_, (Option.some.inj h).symm, rfl, hS⟩
      · try simp only [W, EE, reduceIte, Bool.false_eq_true, hc]
        refine seq_n hK13 ?_
        refine w_kill ?_
        exact cut_n hK12 ⟨_, (Option.some.inj h).symm, rfl, hS⟩
  · obtain ⟨x9, ey, rfl, hS⟩ := hq; obtain rfl := ey.symm
    replace h := g11
    try dsimp only at h
    refine seq_n hK8 ?_
    refine w_if ?_
    simp only [W]
    refine w_cnd h (fun hc h => ?_) (fun hc h => ?_)
    · refine w_seq fun K14 hK14 => ?_
      refine w_reg gC ?_
      try simp only [W, Nat.reduceAdd]
      refine seq_n hK14 ?_
      refine w_ret ?_
      refine seq_r hK7 ?_
      refine fin_r3 hK0 rfl rfl rfl ?_
      try obtain rfl := Option.some.inj h
      exact hP _ hS
    · refine w_skip ?_
      refine seq_n hK7 ?_
      refine w_seq fun K15 hK15 => ?_
      refine w_reg gC ?_
      try simp only [W, EE, Nat.reduceAdd]
      refine w_slS rfl rfl h fun x16 hx16 h => ?_
      try simp only [W, EE]
      refine seq_n hK15 ?_
      refine w_ret ?_
      refine fin_r3 hK0 rfl rfl rfl ?_
      try obtain rfl := Option.some.inj h
      exact hP _ hS
theorem spec_DrawGetText_w {a0 : List Int} {r : (List UInt8 × Int)} (h : spec_DrawGetText a0 = some r) {F : List It} {H : Heap} (hS : Own H (F)) {P : AV → Heap → Prop} (hP : ∀ H', Own H' (F) → P (.tup [.str r.1, .int .i64 r.2]) H') : ACall C 114 [.fz (a0.map (AV.int .u8))] H P := by
  refine acall_of gC (res := [.tmp 2, .tmp 3]) (n := 37) rfl rfl rfl rfl fun K0 hK0 => ?_
  simp only [W, Nat.reduceSub, Nat.reduceAdd, List.replicate]
  unfold spec_DrawGetText at h
  refine w_seq fun K1 hK1 => ?_
  refine w_reg gC ?_
  try simp only [W, Nat.reduceAdd]
  refine seq_n hK1 ?_
  refine w_seq fun K2 hK2 => ?_
  refine w_reg gC ?_
  try simp only [W, EE, Nat.reduceAdd]
  refine w_bld rfl rfl rfl rfl rfl ?_
  try simp only [W]
  refine w_box hS rfl rfl rfl rfl fun ip3 wp3 H hS => ?_
  try simp only [W]
  refine seq_n hK2 ?_
  refine w_seq fun K5 hK5 => ?_
  refine w_reg gC ?_
  try simp only [W, Nat.reduceAdd]
  refine w_call h fun b6 hb6 h => ?_
  refine spec_DrawPutText_w hb6 hS fun H hS => ?_
  try simp only [W]
  refine w_call h fun b7 hb7 h => ?_
  obtain ⟨b8, b9⟩ := b7
  try dsimp only at h
  refine spec_PutText_w hb7 hS fun H hS => ?_
  try simp only [W]
  refine seq_n hK5 ?_
  refine w_seq fun K10 hK10 => ?_
  refine w_reg gC ?_
  try simp only [W, Nat.reduceAdd]
  refine w_call h fun b11 hb11 h => ?_
  obtain ⟨b12, b13⟩ := b11
  try dsimp only at h
  refine spec_PutText_w hb11 hS fun H hS => ?_
  try simp only [W]
  refine seq_n hK10 ?_
  refine w_seq fun K14 hK14 => ?_
  refine w_reg gC ?_
  try simp only [W, EE, Nat.reduceAdd]
  refine w_cat h fun x15 hx15 h => ?_
  try simp only [W]
  refine seq_n hK14 ?_
  refine w_seq fun K16 hK16 => ?_
  refine w_seq fun K17 hK17 => ?_
  refine w_reg gC ?_
  try simp only [W, Nat.reduceAdd]
  refine w_call h fun b18 hb18 h => ?_
  obtain ⟨b19, b20⟩ := b18
  try dsimp only at h
  refine spec_l1Cur_one_w hb18 hS fun H hS => ?_
  try simp only [W]
  refine seq_n hK17 ?_
  obtain ⟨y25, h, g26⟩ := Option.bind_eq_some_iff.1 h
  refine w_join gC (fun s H => ∃ x21 : List UInt8, ∃ x22 : List Int, ∃ x23 : Int, ∃ x24 : Int, y25 = (x21, x22, x23, x24) ∧ s = [u, u, u, u, .ptr ip3 wp3 0 0, .str b8, u, u, u, .str x21, u, u, u, u, u, u, u, u, u, u, u, u, u, u, u, u, u, u, u, u, u, u, u, u, u, u, u] ∧ Own H (⟨.ptr ip3 wp3 0 0, 3, [.agg [.fz (x22.map (AV.int .u8)), .int .i64 x23, .int .u64 x24]]⟩ :: F)) (fun K27 hK27 => ?_) (fun s H hq => ?_)
  · refine w_seq fun K28 hK28 => ?_
    refine w_if ?_
    simp only [W]
    refine w_cnd h (fun hc h => ?_) (fun hc h => ?_)
    · refine w_reg gC ?_
      try simp only [W, Nat.reduceAdd]
      refine w_call h fun b29 hb29 h => ?_
      obtain ⟨b30, b31⟩ := b29
      try dsimp only at h
      refine spec_l1Cur_spoilt_w hb29 hS fun H hS => ?_
      try simp only [W]
      refine seq_n hK28 ?_
      refine w_kill ?_
      exact cut_n hK27 ⟨_, _, _, _, (Option.some.inj h).symm, rfl, hS⟩
    · refine w_skip ?_
      refine seq_n hK28 ?_
      refine w_kill ?_
      exact cut_n hK27 ⟨_, _, _, _, (Option.some.inj h).symm, rfl, hS⟩
  · obtain ⟨x21, x22, x23, x24, rfl, rfl, hS⟩ := hq
    replace h := g26
    try dsimp only at h
    refine seq_n hK16 ?_
    refine w_seq fun K32 hK32 => ?_
    refine w_regF (fz := [(5, [([35], [.sl [.sc]])])]) gC ?_
    try simp only [W, EE, Nat.reduceAdd, Nat.reduceBEq]
    refine w_lit (el := ([0, 0, 0, (b8.length : Int), -1, 1] : List Int).map (AV.int .i64)) hS rfl rfl rfl rfl rfl rfl rfl fun v33 H qv33 hS => ?_
    try simp only [W, Nat.reduceAdd]
    refine FZ_own 0 hS rfl qv33 rfl (fun _ _ => by simp [takeE, takeT, plainA]) (fun _ => rfl) fun H hsame hS => ?_
    try simp only [W]
    refine w_call h fun b35 hb35 h => ?_
    obtain ⟨b36, b37⟩ := b35
    try dsimp only at h
    refine spec_l1Cur_among_w hb35 hS fun H hS => ?_
    try simp only [W, Nat.reduceAdd, Nat.reduceBEq]
    refine seq_n hK32 ?_
    refine w_ret ?_
    refine fin_r2 hK0 rfl rfl ?_
    try obtain rfl := Option.some.inj h
    exact hP _ (hS.sel 1 [] (by decide))
theorem spec_GetText_w {a0 : List UInt8} {a1 : Int} {r : (List UInt8 × Int × Bool)} (h : spec_GetText a0 a1 = some r) {F : List It} {H : Heap} (hS : Own H (F)) {P : AV → Heap → Prop} (hP : ∀ H', Own H' (F) → P (.tup [.str r.1, .int .i64 r.2.1, .bool r.2.2]) H') : ACall C 115 [.str a0, .int .i64 a1] H P := by
  refine acall_of gC (res := [.tmp 4, .tmp 5, .tmp 6]) (n := 46) rfl rfl rfl rfl fun K0 hK0 => ?_
  simp only [W, Nat.reduceSub, Nat.reduceAdd, List.replicate]
  unfold spec_GetText at h
  refine w_seq fun K1 hK1 => ?_
  refine w_reg gC ?_
  try simp only [W, Nat.reduceAdd]
  refine seq_n hK1 ?_
  refine w_seq fun K2 hK2 => ?_
  refine w_seq fun K3 hK3 => ?_
  obtain ⟨y5, h, g6⟩ := Option.bind_eq_some_iff.1 h
  refine w_join gC (fun s H => ∃ x4 : Bool, y5 = (x4) ∧ s = [.str a0, .int .i64 a1, u, u, u, u, u, u, u, u, u, u, u, u, u, u, .bool x4, u, u, u, u, u, u, u, u, u, u, u, u, u, u, u, u, u, u, u, u, u, u, u, u, u, u, u, u, u] ∧ Own H (F)) (fun K7 hK7 => ?_) (fun s H hq => ?_)
  · refine w_seq fun K8 hK8 => ?_
    refine w_reg gC ?_
    try simp only [W, EE, Nat.reduceAdd]
    refine w_grdT h (fun hc h => ?_) (fun hc h => ?_)
    · try simp only [W, hc]
      refine seq_n hK8 ?_
      refine w_kill ?_
      exact cut_n hK7 ⟨_, (Option.some.inj h).symm, rfl, hS⟩
    · try simp only [W, EE, reduceIte, Bool.false_eq_true, hc]
      refine seq_n hK8 ?_
      refine w_kill ?_
      exact cut_n hK7 ⟨_, (Option.some.inj h).symm, rfl, hS⟩
  · obtain ⟨x4, ey, rfl, hS⟩ := hq; obtain rfl := ey.symm
    replace h := g6
    try dsimp only at h
    refine seq_n hK3 ?_
    refine w_if ?_
    simp only [W]
    refine w_cnd h (fun hc h => ?_) (fun hc h => ?_)
    · refine w_seq fun K9 hK9 => ?_
      refine w_reg gC ?_
      try simp only [W, Nat.reduceAdd]
      refine seq_n hK9 ?_
      refine w_ret ?_
      refine seq_r hK2 ?_
      refine fin_r3 hK0 rfl rfl rfl ?_
      try obtain rfl := Option.some.inj h
      exact hP _ hS
    · refine w_skip ?_
      refine seq_n hK2 ?_
      refine w_seq fun K10 hK10 => ?_
      refine w_reg gC ?_
      try simp only [W, Nat.reduceAdd]
      refine w_call h fun b11 hb11 h => ?_
      obtain ⟨b12, b13⟩ := b11
      try dsimp only at h
      refine spec_l1Get_w hb11 hS fun H hS => ?_
      try simp only [W]
      refine seq_n hK10 ?_
      refine w_seq fun K14 hK14 => ?_
      refine w_seq fun K15 hK15 => ?_
      obtain ⟨y17, h, g18⟩ := Option.bind_eq_some_iff.1 h
      refine w_join gC (fun s H => ∃ x16 : Bool, y17 = (x16) ∧ s = [.str a0, u, u, u, u, u, u, .int .i64 b12, .int .i64 b13, u, u, u, u, u, u, u, u, u, u, u, u, u, u, u, u, u, u, u, u, u, u, u, u, u, u, u, .bool x16, u, u, u, u, u, u, u, u, u] ∧ Own H (F)) (fun K19 hK19 => ?_) (fun s H hq => ?_)
      · refine w_seq fun K20 hK20 => ?_
        refine w_reg gC ?_
        try simp only [W, EE, Nat.reduceAdd]
        refine w_grdT h (fun hc h => ?_) (fun hc h => ?_)
        · try simp only [W, hc]
          refine seq_n hK20 ?_
          refine w_kill ?_
          exact cut_n hK19 ⟨_, (Option.some.inj h).symm, rfl, hS⟩
        · try simp only [W, EE, reduceIte, Bool.false_eq_true, hc]
          refine w_grdT h (fun hc h => ?_) (fun hc h => ?_)
          · try simp only [W, hc]
            refine seq_n hK20 ?_
            refine w_kill ?_
            exact cut_n hK19 ⟨_, (Option.some.inj h).symm, rfl, hS⟩
          · try simp only [W, EE, reduceIte, Bool.false_eq_true, hc]
            refine seq_n hK20 ?_
            refine w_kill ?_
            exact cut_n hK19 ⟨_, (Option.some.inj h).symm, rfl, hS⟩
      · obtain ⟨x16, ey, rfl, hS⟩ := hq; obtain rfl := ey.symm
        replace h := g18
        try dsimp only at h
        refine seq_n hK15 ?_
        refine w_if ?_
        simp only [W]
        refine w_cnd h (fun hc h => ?_) (fun hc h => ?_)
        · refine w_seq fun K21 hK21 => ?_
          refine w_reg gC ?_
          try simp only [W, Nat.reduceAdd]
          refine seq_n hK21 ?_
          refine w_ret ?_
          refine seq_r hK14 ?_
          refine fin_r3 hK0 rfl rfl rfl ?_
          try obtain rfl := Option.some.inj h
          exact hP _ hS
        · refine w_skip ?_
          refine seq_n hK14 ?_
          refine w_seq fun K22 hK22 => ?_
          refine w_reg gC ?_
          try simp only [W, EE, Nat.reduceAdd]
          refine w_slS rfl rfl h fun x23 hx23 h => ?_
          try simp only [W, EE]
          refine seq_n hK22 ?_
          refine w_ret ?_
          refine fin_r3 hK0 rfl rfl rfl ?_
          try obtain rfl := Option.some.inj h
          exact hP _ hS
theorem laws_FnTexts_w {a0 : List Int} {a1 : List Int} {r : (Bool)} (h : laws_FnTexts a0 a1 = some r) {F : List It} {H : Heap} (hS : Own H (F)) {P : AV → Heap → Prop} (hP : ∀ H', Own H' (F) → P (.bool r) H') : ACall C 12 [.fz (a0.map (AV.int .u8)), .fz (a1.map (AV.int .u8))] H P := by
  refine acall_of gC (res := [.tmp 4]) (n := 188) rfl rfl rfl rfl fun K0 hK0 => ?_
  simp only [W, Nat.reduceSub, Nat.reduceAdd, List.replicate]
  unfold laws_FnTexts at h
  refine w_seq fun K1 hK1 => ?_
  refine w_reg gC ?_
  try simp only [W, Nat.reduceAdd]
  refine seq_n hK1 ?_
  refine w_seq fun K2 hK2 => ?_
  refine w_seq fun K3 hK3 => ?_
  refine w_reg gC ?_
  try simp only [W, EE, Nat.reduceAdd]
  refine seq_n hK3 ?_
  refine w_if ?_
  simp only [W]
  refine w_cnd h (fun hc h => ?_) (fun hc h => ?_)
  · refine w_seq fun K4 hK4 => ?_
    refine w_reg gC ?_
    try simp only [W, Nat.reduceAdd]
    refine seq_n hK4 ?_
    refine w_ret ?_
    refine seq_r hK2 ?_
    refine fin_r1 hK0 rfl ?_
    try obtain rfl := Option.some.inj h
    exact hP _ hS
  · refine w_skip ?_
    refine seq_n hK2 ?_
    refine w_seq fun K5 hK5 => ?_
    refine w_reg gC ?_
    try simp only [W, Nat.reduceAdd]
    refine w_call h fun b6 hb6 h => ?_
    refine spec_DrawPutList_w hb6 hS fun v7 qv7 H hS => ?_
    try simp only [W]
    refine seq_n hK5 ?_
    refine w_seq fun K9 hK9 => ?_
    refine w_reg gC ?_
    try simp only [W, Nat.reduceAdd]
    refine w_callS (rsh := [[.sc], [.sc]]) (ys := [.fz (b6.map (AV.int .i64))]) h rfl (pv_c (sn_ow hS 0 rfl qv7 (fun _ => rfl)) pv_n) fun b10 hb10 h => ⟨.tup [.str b10.1, .bool b10.2], impl_PutList_w hb10 (Own.nil _) fun H hS => TV_ok rfl (TV_p rfl (TV_p rfl (TV_n rfl))), ⟨rfl, rfl, fun _ => rfl⟩, ?_⟩
    obtain ⟨b11, b12⟩ := b10
    try dsimp only at h
    try simp only [W]
    refine seq_n hK9 ?_
    refine w_seq fun K13 hK13 => ?_
    refine w_reg gC ?_
    try simp only [W, Nat.reduceAdd]
    refine w_callS (rsh := [[.sc], [.sc]]) (ys := [.fz (b6.map (AV.int .i64))]) h rfl (pv_c (sn_ow hS 0 rfl qv7 (fun _ => rfl)) pv_n) fun b14 hb14 h => ⟨.tup [.str b14.1, .bool b14.2], spec_PutList_w hb14 (Own.nil _) fun H hS => TV_ok rfl (TV_p rfl (TV_p rfl (TV_n rfl))), ⟨rfl, rfl, fun _ => rfl⟩, ?_⟩
    obtain ⟨b15, b16⟩ := b14
    try dsimp only at h
    try simp only [W]
    refine seq_n hK13 ?_
    refine w_seq fun K17 hK17 => ?_
    refine w_seq fun K18 hK18 => ?_
    obtain ⟨y20, h, g21⟩ := Option.bind_eq_some_iff.1 h
    refine w_join gC (fun s H => ∃ x19 : Bool, y20 = (x19) ∧ s = [.fz (a0.map (AV.int .u8)), .fz (a1.map (AV.int .u8)), u, u, u, v7, .str b11, .bool b12, u, u, u, u, u, u, u, u, u, u, u, u, u, u, u, u, u, u, u, u, u, u, u, u, u, u, u, u, u, u, u, u, u, u, u, u, u, u, u, u, u, u, u, u, u, u, u, u, u, u, u, u, .bool x19, u, u, u, u, u, u, u, u, u, u, u, u, u, u, u, u, u, u, u, u, u, u, u, u, u, u, u, u, u, u, u, u, u, u, u, u, u, u, u, u, u, u, u, u, u, u, u, u, u, u, u, u, u, u, u, u, u, u, u, u, u, u, u, u, u, u, u, u, u, u, u, u, u, u, u, u, u, u, u, u, u, u, u, u, u, u, u, u, u, u, u, u, u, u, u, u, u, u, u, u, u, u, u, u, u, u, u, u, u, u, u, u, u, u, u, u, u, u, u, u, u, u, u, u, u, u, u] ∧ Own H (⟨v7, 1, b6.map (AV.int .i64)⟩ :: F)) (fun K22 hK22 => ?_) (fun s H hq => ?_)
    · refine w_seq fun K23 hK23 => ?_
      refine w_reg gC ?_
      try simp only [W, EE, Nat.reduceAdd]
      rw [b_bneq _ _ _ _ (h := rfl) rfl, resV_s]
      try simp only [W]
      refine w_grdT h (fun hc h => ?_) (fun hc h => ?_)
      · try simp only [W, hc]
        refine seq_n hK23 ?_
        refine w_kill ?_
        exact cut_n hK22 ⟨_, (Option.some.inj h).symm, rfl, hS⟩
      · try simp only [W, EE, reduceIte, Bool.false_eq_true, hc]
        refine seq_n hK23 ?_
        refine w_kill ?_
        exact cut_n hK22 ⟨_, (Option.some.inj h).symm, rfl, hS⟩
    · obtain ⟨x19, ey, rfl, hS⟩ := hq; obtain rfl := ey.symm
      replace h := g21
      try dsimp only at h
      refine seq_n hK18 ?_
      refine w_if ?_
      simp only [W]
      refine w_cnd h (fun hc h => ?_) (fun hc h => ?_)
      · refine w_seq fun K24 hK24 => ?_
        refine w_reg gC ?_
        try simp only [W, Nat.reduceAdd]
        refine seq_n hK24 ?_
        refine w_ret ?_
        refine seq_r hK17 ?_
        refine fin_r1 hK0 rfl ?_
        try obtain rfl := Option.some.inj h
        exact hP _ (hS.sel 1 [] (by decide))
      · refine w_skip ?_
        refine seq_n hK17 ?_
        refine w_seq fun K25 hK25 => ?_
        refine w_seq fun K26 hK26 => ?_
        obtain ⟨y28, h, g29⟩ := Option.bind_eq_some_iff.1 h
        refine w_join gC (fun s H => ∃ x27 : Bool, y28 = (x27) ∧ s = [.fz (a0.map (AV.int .u8)), .fz (a1.map (AV.int .u8)), u, u, u, v7, .str b11, u, u, u, u, u, u, u, u, u, u, u, u, u, u, u, u, u, u, u, u, u, u, u, u, u, u, u, u, u, u, u, u, u, u, u, u, u, u, u, u, u, u, u, u, u, u, u, u, u, u, u, u, u, u, u, u, u, u, u, .bool x27, u, u, u, u, u, u, u, u, u, u, u, u, u, u, u, u, u, u, u, u, u, u, u, u, u, u, u, u, u, u, u, u, u, u, u, u, u, u, u, u, u, u, u, u, u, u, u, u, u, u, u, u, u, u, u, u, u, u, u, u, u, u, u, u, u, u, u, u, u, u, u, u, u, u, u, u, u, u, u, u, u, u, u, u, u, u, u, u, u, u, u, u, u, u, u, u, u, u, u, u, u, u, u, u, u, u, u, u, u, u, u, u, u, u, u, u, u, u, u, u, u] ∧ Own H (⟨v7, 1, b6.map (AV.int .i64)⟩ :: F)) (fun K30 hK30 => ?_) (fun s H hq => ?_)
        · refine w_seq fun K31 hK31 => ?_
          refine w_reg gC ?_
          try simp only [W, Nat.reduceAdd]
          refine w_grdT h (fun hc h => ?_) (fun hc h => ?_)
          · try simp only [W, EE, reduceIte, hc]
            refine seq_n hK31 ?_
            refine w_kill ?_
            exact cut_n hK30 ⟨_, (Option.some.inj h).symm, rfl, hS⟩
          · try simp only [W, hc]
            refine seq_n hK31 ?_
            refine w_kill ?_
            exact cut_n hK30 ⟨_, (Option.some.inj h).symm, rfl, hS⟩
        · obtain ⟨x27, ey, rfl, hS⟩ := hq; obtain rfl := ey.symm
          replace h := g29
          try dsimp only at h
          refine seq_n hK26 ?_
          obtain ⟨y32, h, g33⟩ := Option.bind_eq_some_iff.1 h
          refine w_join gC (fun s H => y32 = LR.next () ∧ s = [.fz (a0.map (AV.int .u8)), .fz (a1.map (AV.int .u8)), u, u, u, u, u, u, u, u, u, u, u, u, u, u, u, u, u, u, u, u, u, u, u, u, u, u, u, u, u, u, u, u, u, u, u, u, u, u, u, u, u, u, u, u, u, u, u, u, u, u, u, u, u, u, u, u, u, u, u, u, u, u, u, u, u, u, u, u, u, u, u, u, u, u, u, u, u, u, u, u, u, u, u, u, u, u, u, u, u, u, u, u, u, u, u, u, u, u, u, u, u, u, u, u, u, u, u, u, u, u, u, u, u, u, u, u, u, u, u, u, u, u, u, u, u, u, u, u, u, u, u, u, u, u, u, u, u, u, u, u, u, u, u, u, u, u, u, u, u, u, u, u, u, u, u, u, u, u, u, u, u, u, u, u, u, u, u, u, u, u, u, u, u, u, u, u, u, u, u, u, u, u, u, u, u, u] ∧ Own H (F)) (fun K34 hK34 => ?_) (fun s H hq => ?_)
          · refine w_seq fun K35 hK35 => ?_
            refine w_if ?_
            simp only [W]
            refine w_cnd h (fun hc h => ?_) (fun hc h => ?_)
            · refine w_seq fun K36 hK36 => ?_
              refine w_reg gC ?_
              try simp only [W, Nat.reduceAdd]
              refine w_call h fun b37 hb37 h => ?_
              obtain ⟨b38, b39⟩ := b37
              try dsimp only at h
              refine impl_GetList_w hb37 hS fun v40 qv40 H hS => ?_
              try simp only [W]
              refine seq_n hK36 ?_
              refine w_seq fun K42 hK42 => ?_
              obtain ⟨y44, h, g45⟩ := Option.bind_eq_some_iff.1 h
              refine w_join gC (fun s H => ∃ x43 : Bool, y44 = (x43) ∧ s = [.fz (a0.map (AV.int .u8)), .fz (a1.map (AV.int .u8)), u, u, u, u, u, u, u, u, u, u, u, u, u, u, u, u, u, u, u, u, u, u, u, u, u, u, u, u, u, u, u, u, u, u, u, u, u, u, u, u, u, u, u, u, u, u, u, u, u, u, u, u, u, u, u, u, u, u, u, u, u, u, u, u, u, u, u, u, u, u, u, u, u, u, u, u, u, .bool x43, u, u, u, u, u, u, u, u, u, u, u, u, u, u, u, u, u, u, u, u, u, u, u, u, u, u, u, u, u, u, u, u, u, u, u, u, u, u, u, u, u, u, u, u, u, u, u, u, u, u, u, u, u, u, u, u, u, u, u, u, u, u, u, u, u, u, u, u, u, u, u, u, u, u, u, u, u, u, u, u, u, u, u, u, u, u, u, u, u, u, u, u, u, u, u, u, u, u, u, u, u, u, u, u, u, u, u, u] ∧ Own H (F)) (fun K46 hK46 => ?_) (fun s H hq => ?_)
              · refine w_seq fun K47 hK47 => ?_
                refine w_reg gC ?_
                try simp only [W, Nat.reduceAdd]
                refine w_grdT h (fun hc h => ?_) (fun hc h => ?_)
                · try simp only [W, hc]
                  refine seq_n hK47 ?_
                  refine w_kill ?_
                  exact cut_n hK46 ⟨_, (Option.some.inj h).symm, rfl, (hS.sel 2 [] (by decide))⟩
                · try simp only [W, hc]
                  refine w_callS (rsh := [[.sc]]) (ys := [.fz (b38.map (AV.int .i64)), .fz (b6.map (AV.int .i64))]) h rfl (pv_c (sn_ow hS 0 rfl qv40 (fun _ => rfl)) (pv_c (sn_ow hS 1 rfl qv7 (fun _ => rfl)) pv_n)) fun b48 hb48 h => ⟨.bool b48, laws_sameInts_w hb48 (Own.nil _) fun H hS => TV_ok rfl (TV_p rfl (TV_n rfl)), ⟨rfl, rfl, fun _ => rfl⟩, ?_⟩
                  try simp only [W, reduceIte, Bool.false_eq_true]
                  refine seq_n hK47 ?_
                  refine w_kill ?_
                  exact cut_n hK46 ⟨_, (Option.some.inj h).symm, rfl, (hS.sel 2 [] (by decide))⟩
              · obtain ⟨x43, ey, rfl, hS⟩ := hq; obtain rfl := ey.symm
                replace h := g45
                try dsimp only at h
                refine seq_n hK42 ?_
                refine w_if ?_
                simp only [W]
                refine w_cnd h (fun hc h => ?_) (fun hc h => ?_)
                · refine w_seq fun K49 hK49 => ?_
                  refine w_reg gC ?_
                  try simp only [W, Nat.reduceAdd]
                  refine seq_n hK49 ?_
                  refine w_ret ?_
                  refine seq_r hK35 ?_
                  try obtain rfl := Option.some.inj h
                  obtain rfl := Option.some.inj g33
                  have h : (some false : Option (Bool)) = some false := rfl
                  refine cut_r hK34 ?_
                  refine seq_r hK25 ?_
                  refine fin_r1 hK0 rfl ?_
                  try obtain rfl := Option.some.inj h
                  exact hP _ hS
                · refine w_skip ?_
                  refine seq_n hK35 ?_
                  refine w_kill ?_
                  exact cut_n hK34 ⟨(Option.some.inj h).symm, rfl, hS⟩
            · refine w_skip ?_
              refine seq_n hK35 ?_
              refine w_kill ?_
              exact cut_n hK34 ⟨(Option.some.inj h).symm, rfl, (hS.sel 1 [] (by decide))⟩
          · obtain ⟨rfl, rfl, hS⟩ := hq
            replace h := g33
            try dsimp only at h
            refine seq_n hK25 ?_
            refine w_seq fun K52 hK52 => ?_
            refine w_reg gC ?_
            try simp only [W, Nat.reduceAdd]
            refine w_call h fun b53 hb53 h => ?_
            refine spec_DrawGetList_w hb53 hS fun H hS => ?_
            try simp only [W]
            refine seq_n hK52 ?_
            refine w_seq fun K54 hK54 => ?_
            refine w_reg gC ?_
            try simp only [W, Nat.reduceAdd]
            refine w_call h fun b55 hb55 h => ?_
            obtain ⟨b56, b57⟩ := b55
            try dsimp only at h
            refine impl_GetList_w hb55 hS fun v58 qv58 H hS => ?_
            try simp only [W]
            refine seq_n hK54 ?_
            refine w_seq fun K60 hK60 => ?_
            refine w_reg gC ?_
            try simp only [W, Nat.reduceAdd]
            refine w_call h fun b61 hb61 h => ?_
            obtain ⟨b62, b63⟩ := b61
            try dsimp only at h
            refine spec_GetList_w hb61 hS fun v64 qv64 H hS => ?_
            try simp only [W]
            refine seq_n hK60 ?_
            refine w_seq fun K66 hK66 => ?_
            refine w_seq fun K67 hK67 => ?_
            obtain ⟨y69, h, g70⟩ := Option.bind_eq_some_iff.1 h
            refine w_join gC (fun s H => ∃ x68 : Bool, y69 = (x68) ∧ s = [.fz (a0.map (AV.int .u8)), .fz (a1.map (AV.int .u8)), u, u, u, u, u, u, u, u, u, u, .str b53, v58, .bool b57, u, u, u, u, u, u, u, u, u, u, u, u, u, u, u, u, u, u, u, u, u, u, u, u, u, u, u, u, u, u, u, u, u, u, u, u, u, u, u, u, u, u, u, u, u, u, u, u, u, u, u, u, u, u, u, u, u, u, u, u, u, u, u, u, u, u, u, u, u, u, u, u, u, u, u, u, u, u, u, u, u, u, u, u, u, .bool x68, u, u, u, u, u, u, u, u, u, u, u, u, u, u, u, u, u, u, u, u, u, u, u, u, u, u, u, u, u, u, u, u, u, u, u, u, u, u, u, u, u, u, u, u, u, u, u, u, u, u, u, u, u, u, u, u, u, u, u, u, u, u, u, u, u, u, u, u, u, u, u, u, u, u, u, u, u, u, u, u, u, u, u, u, u, u, u] ∧ Own H (⟨v58, 1, b56.map (AV.int .i64)⟩ :: F)) (fun K71 hK71 => ?_) (fun s H hq => ?_)
            · refine w_seq fun K72 hK72 => ?_
              refine w_reg gC ?_
              try simp only [W, EE, Nat.reduceAdd]
              rw [b_bneq _ _ _ _ (h := rfl) rfl, resV_s]
              try simp only [W]
              refine w_grdT h (fun hc h => ?_) (fun hc h => ?_)
              · try simp only [W, hc]
                refine seq_n hK72 ?_
                refine w_kill ?_
                exact cut_n hK71 ⟨_, (Option.some.inj h).symm, rfl, (hS.sel 2 [1] (by decide))⟩
              · try simp only [W, hc]
                refine w_callS (rsh := [[.sc]]) (ys := [.fz (b56.map (AV.int .i64)), .fz (b62.map (AV.int .i64))]) h rfl (pv_c (sn_ow hS 1 rfl qv58 (fun _ => rfl)) (pv_c (sn_ow hS 0 rfl qv64 (fun _ => rfl)) pv_n)) fun b73 hb73 h => ⟨.bool b73, laws_sameInts_w hb73 (Own.nil _) fun H hS => TV_ok rfl (TV_p rfl (TV_n rfl)), ⟨rfl, rfl, fun _ => rfl⟩, ?_⟩
                try simp only [W, reduceIte, Bool.false_eq_true]
                refine seq_n hK72 ?_
                refine w_kill ?_
                exact cut_n hK71 ⟨_, (Option.some.inj h).symm, rfl, (hS.sel 2 [1] (by decide))⟩
            · obtain ⟨x68, ey, rfl, hS⟩ := hq; obtain rfl := ey.symm
              replace h := g70
              try dsimp only at h
              refine seq_n hK67 ?_
              refine w_if ?_
              simp only [W]
              refine w_cnd h (fun hc h => ?_) (fun hc h => ?_)
              · refine w_seq fun K74 hK74 => ?_
                refine w_reg gC ?_
                try simp only [W, Nat.reduceAdd]
                refine seq_n hK74 ?_
                refine w_ret ?_
                refine seq_r hK66 ?_
                refine fin_r1 hK0 rfl ?_
                try obtain rfl := Option.some.inj h
                exact hP _ (hS.sel 1 [] (by decide))
              · refine w_skip ?_
                refine seq_n hK66 ?_
                refine w_seq fun K75 hK75 => ?_
                refine w_seq fun K76 hK76 => ?_
                refine w_reg gC ?_
                try simp only [W, Nat.reduceAdd]
                refine seq_n hK76 ?_
                obtain ⟨y77, h, g78⟩ := Option.bind_eq_some_iff.1 h
                refine w_join gC (fun s H => y77 = LR.next () ∧ s = [.fz (a0.map (AV.int .u8)), .fz (a1.map (AV.int .u8)), u, u, u, u, u, u, u, u, u, u, .str b53, u, u, u, u, u, u, u, u, u, u, u, u, u, u, u, u, u, u, u, u, u, u, u, u, u, u, u, u, u, u, u, u, u, u, u, u, u, u, u, u, u, u, u, u, u, u, u, u, u, u, u, u, u, u, u, u, u, u, u, u, u, u, u, u, u, u, u, u, u, u, u, u, u, u, u, u, u, u, u, u, u, u, u, u, u, u, u, u, u, u, u, u, u, u, u, u, u, u, u, u, u, u, u, u, u, u, u, u, u, u, u, u, u, u, u, u, u, u, u, u, u, u, u, u, u, u, u, u, u, u, u, u, u, u, u, u, u, u, u, u, u, u, u, u, u, u, u, u, u, u, u, u, u, u, u, u, u, u, u, u, u, u, u, u, u, u, u, u, u, u, u, u, u, u, u] ∧ Own H (F)) (fun K79 hK79 => ?_) (fun s H hq => ?_)
                · refine w_seq fun K80 hK80 => ?_
                  refine w_if ?_
                  simp only [W]
                  refine w_cnd h (fun hc h => ?_) (fun hc h => ?_)
                  · refine w_seq fun K81 hK81 => ?_
                    refine w_reg gC ?_
                    try simp only [W, Nat.reduceAdd]
                    refine w_callS (rsh := [[.sc], [.sc]]) (ys := [.fz (b56.map (AV.int .i64))]) h rfl (pv_c (sn_ow hS 0 rfl qv58 (fun _ => rfl)) pv_n) fun b82 hb82 h => ⟨.tup [.str b82.1, .bool b82.2], impl_PutList_w hb82 (Own.nil _) fun H hS => TV_ok rfl (TV_p rfl (TV_p rfl (TV_n rfl))), ⟨rfl, rfl, fun _ => rfl⟩, ?_⟩
                    obtain ⟨b83, b84⟩ := b82
                    try dsimp only at h
                    try simp only [W]
                    refine seq_n hK81 ?_
                    refine w_seq fun K85 hK85 => ?_
                    obtain ⟨y87, h, g88⟩ := Option.bind_eq_some_iff.1 h
                    refine w_join gC (fun s H => ∃ x86 : Bool, y87 = (x86) ∧ s = [.fz (a0.map (AV.int .u8)), .fz (a1.map (AV.int .u8)), u, u, u, u, u, u, u, u, u, u, .str b53, u, u, u, u, u, u, u, u, u, u, u, u, u, u, u, u, u, u, u, u, u, u, u, u, u, u, u, u, u, u, u, u, u, u, u, u, u, u, u, u, u, u, u, u, u, u, u, u, u, u, u, u, u, u, u, u, u, u, u, u, u, u, u, u, u, u, u, u, u, u, u, u, u, u, u, u, u, u, u, u, u, u, u, u, u, u, u, u, u, u, u, u, u, u, u, u, u, u, u, u, .bool x86, u, u, u, u, u, u, u, u, u, u, u, u, u, u, u, u, u, u, u, u, u, u, u, u, u, u, u, u, u, u, u, u, u, u, u, u, u, u, u, u, u, u, u, u, u, u, u, u, u, u, u, u, u, u, u, u, u, u, u, u, u, u, u, u, u, u, u, u, u, u, u, u, u, u] ∧ Own H (F)) (fun K89 hK89 => ?_) (fun s H hq => ?_)
                    · refine w_seq fun K90 hK90 => ?_
                      refine w_reg gC ?_
                      try simp only [W, Nat.reduceAdd]
                      refine w_grdT h (fun hc h => ?_) (fun hc h => ?_)
                      · try simp only [W, hc]
                        refine seq_n hK90 ?_
                        refine w_kill ?_
                        exact cut_n hK89 ⟨_, (Option.some.inj h).symm, rfl, (hS.sel 1 [] (by decide))⟩
                      · try simp only [W, EE, reduceIte, Bool.false_eq_true, hc]
                        refine seq_n hK90 ?_
                        refine w_kill ?_
                        exact cut_n hK89 ⟨_, (Option.some.inj h).symm, rfl, (hS.sel 1 [] (by decide))⟩
                    · obtain ⟨x86, ey, rfl, hS⟩ := hq; obtain rfl := ey.symm
                      replace h := g88
                      try dsimp only at h
                      refine seq_n hK85 ?_
                      refine w_if ?_
                      simp only [W]
                      refine w_cnd h (fun hc h => ?_) (fun hc h => ?_)
                      · refine w_seq fun K91 hK91 => ?_
                        refine w_reg gC ?_
                        try simp only [W, Nat.reduceAdd]
                        refine seq_n hK91 ?_
                        refine w_ret ?_
                        refine seq_r hK80 ?_
                        try obtain rfl := Option.some.inj h
                        obtain rfl := Option.some.inj g78
                        have h : (some false : Option (Bool)) = some false := rfl
                        refine cut_r hK79 ?_
                        refine seq_r hK75 ?_
                        refine fin_r1 hK0 rfl ?_
                        try obtain rfl := Option.some.inj h
                        exact hP _ hS
                      · refine w_skip ?_
                        refine seq_n hK80 ?_
                        refine w_kill ?_
                        exact cut_n hK79 ⟨(Option.some.inj h).symm, rfl, hS⟩
                  · refine w_skip ?_
                    refine seq_n hK80 ?_
                    refine w_kill ?_
                    exact cut_n hK79 ⟨(Option.some.inj h).symm, rfl, (hS.sel 1 [] (by decide))⟩
                · obtain ⟨rfl, rfl, hS⟩ := hq
                  replace h := g78
                  try dsimp only at h
                  refine seq_n hK75 ?_
                  refine w_seq fun K94 hK94 => ?_
                  refine w_reg gC ?_
                  try simp only [W, Nat.reduceAdd]
                  refine w_call h fun b95 hb95 h => ?_
                  refine spec_DrawPutText_w hb95 hS fun H hS => ?_
                  try simp only [W]
                  refine seq_n hK94 ?_
                  refine w_seq fun K96 hK96 => ?_
                  refine w_reg gC ?_
                  try simp only [W, Nat.reduceAdd]
                  refine w_call h fun b97 hb97 h => ?_
                  obtain ⟨b98, b99⟩ := b97
                  try dsimp only at h
                  refine impl_PutText_w hb97 hS fun H hS => ?_
                  try simp only [W]
                  refine seq_n hK96 ?_
                  refine w_seq fun K100 hK100 => ?_
                  refine w_reg gC ?_
                  try simp only [W, Nat.reduceAdd]
                  refine w_call h fun b101 hb101 h => ?_
                  obtain ⟨b102, b103⟩ := b101
                  try dsimp only at h
                  refine spec_PutText_w hb101 hS fun H hS => ?_
                  try simp only [W]
                  refine seq_n hK100 ?_
                  refine w_seq fun K104 hK104 => ?_
                  refine w_seq fun K105 hK105 => ?_
                  obtain ⟨y107, h, g108⟩ := Option.bind_eq_some_iff.1 h
                  refine w_join gC (fun s H => ∃ x106 : Bool, y107 = (x106) ∧ s = [u, .fz (a1.map (AV.int .u8)), u, u, u, u, u, u, u, u, u, u, .str b53, u, u, u, u, u, u, .str b95, .str b98, .bool b99, u, u, u, u, u, u, u, u, u, u, u, u, u, u, u, u, u, u, u, u, u, u, u, u, u, u, u, u, u, u, u, u, u, u, u, u, u, u, u, u, u, u, u, u, u, u, u, u, u, u, u, u, u, u, u, u, u, u, u, u, u, u, u, u, u, u, u, u, u, u, u, u, u, u, u, u, u, u, u, u, u, u, u, u, u, u, u, u, u, u, u, u, u, u, u, u, u, u, u, u, u, u, u, u, u, u, u, u, u, u, u, .bool x106, u, u, u, u, u, u, u, u, u, u, u, u, u, u, u, u, u, u, u, u, u, u, u, u, u, u, u, u, u, u, u, u, u, u, u, u, u, u, u, u, u, u, u, u, u, u, u, u, u, u, u, u, u, u] ∧ Own H (F)) (fun K109 hK109 => ?_) (fun s H hq => ?_)
                  · refine w_seq fun K110 hK110 => ?_
                    refine w_reg gC ?_
                    try simp only [W, EE, Nat.reduceAdd]
                    rw [b_bneq _ _ _ _ (h := rfl) rfl, resV_s]
                    try simp only [W]
                    refine w_grdT h (fun hc h => ?_) (fun hc h => ?_)
                    · try simp only [W, hc]
                      refine seq_n hK110 ?_
                      refine w_kill ?_
                      exact cut_n hK109 ⟨_, (Option.some.inj h).symm, rfl, hS⟩
                    · try simp only [W, EE, reduceIte, Bool.false_eq_true, hc]
                      refine seq_n hK110 ?_
                      refine w_kill ?_
                      exact cut_n hK109 ⟨_, (Option.some.inj h).symm, rfl, hS⟩
                  · obtain ⟨x106, ey, rfl, hS⟩ := hq; obtain rfl := ey.symm
                    replace h := g108
                    try dsimp only at h
                    refine seq_n hK105 ?_
                    refine w_if ?_
                    simp only [W]
                    refine w_cnd h (fun hc h => ?_) (fun hc h => ?_)
                    · refine w_seq fun K111 hK111 => ?_
                      refine w_reg gC ?_
                      try simp only [W, Nat.reduceAdd]
                      refine seq_n hK111 ?_
                      refine w_ret ?_
                      refine seq_r hK104 ?_
                      refine fin_r1 hK0 rfl ?_
                      try obtain rfl := Option.some.inj h
                      exact hP _ hS
                    · refine w_skip ?_
                      refine seq_n hK104 ?_
                      refine w_seq fun K112 hK112 => ?_
                      refine w_seq fun K113 hK113 => ?_
                      refine w_reg gC ?_
                      try simp only [W, Nat.reduceAdd]
                      refine seq_n hK113 ?_
                      obtain ⟨y114, h, g115⟩ := Option.bind_eq_some_iff.1 h
                      refine w_join gC (fun s H => y114 = LR.next () ∧ s = [u, .fz (a1.map (AV.int .u8)), u, u, u, u, u, u, u, u, u, u, u, u, u, u, u, u, u, u, u, u, u, u, u, u, u, u, u, u, u, u, u, u, u, u, u, u, u, u, u, u, u, u, u, u, u, u, u, u, u, u, u, u, u, u, u, u, u, u, u, u, u, u, u, u, u, u, u, u, u, u, u, u, u, u, u, u, u, u, u, u, u, u, u, u, u, u, u, u, u, u, u, u, u, u, u, u, u, u, u, u, u, u, u, u, u, u, u, u, u, u, u, u, u, u, u, u, u, u, u, u, u, u, u, u, u, u, u, u, u, u, u, u, u, u, u, u, u, u, u, u, u, u, u, u, u, u, u, u, u, u, u, u, u, u, u, u, u, u, u, u, u, u, u, u, u, u, u, u, u, u, u, u, u, u, u, u, u, u, u, u, u, u, u, u, u, u] ∧ Own H (F)) (fun K116 hK116 => ?_) (fun s H hq => ?_)
                      · refine w_seq fun K117 hK117 => ?_
                        refine w_if ?_
                        simp only [W]
                        refine w_cnd h (fun hc h => ?_) (fun hc h => ?_)
                        · refine w_seq fun K118 hK118 => ?_
                          refine w_reg gC ?_
                          try simp only [W, EE, Nat.reduceAdd]
                          refine w_cat h fun x119 hx119 h => ?_
                          try simp only [W]
                          refine w_call h fun b120 hb120 h => ?_
                          obtain ⟨b121, b122, b123⟩ := b120
                          try dsimp only at h
                          refine impl_GetText_w hb120 hS fun H hS => ?_
                          try simp only [W]
                          refine seq_n hK118 ?_
                          refine w_seq fun K124 hK124 => ?_
                          obtain ⟨y126, h, g127⟩ := Option.bind_eq_some_iff.1 h
                          refine w_join gC (fun s H => ∃ x125 : Bool, y126 = (x125) ∧ s = [u, .fz (a1.map (AV.int .u8)), u, u, u, u, u, u, u, u, u, u, u, u, u, u, u, u, u, u, u, u, u, u, u, u, u, u, u, u, u, u, u, u, u, u, u, u, u, u, u, u, u, u, u, u, u, u, u, u, u, u, u, u, u, u, u, u, u, u, u, u, u, u, u, u, u, u, u, u, u, u, u, u, u, u, u, u, u, u, u, u, u, u, u, u, u, u, u, u, u, u, u, u, u, u, u, u, u, u, u, u, u, u, u, u, u, u, u, u, u, u, u, u, u, u, u, u, u, u, u, u, u, u, u, u, u, u, u, u, u, u, u, u, u, u, u, u, u, u, u, u, u, u, u, u, u, u, u, u, u, u, u, u, u, .bool x125, u, u, u, u, u, u, u, u, u, u, u, u, u, u, u, u, u, u, u, u, u, u, u, u, u, u, u, u, u, u, u, u] ∧ Own H (F)) (fun K128 hK128 => ?_) (fun s H hq => ?_)
                          · refine w_seq fun K129 hK129 => ?_
                            refine w_reg gC ?_
                            try simp only [W, Nat.reduceAdd]
                            refine w_grdT h (fun hc h => ?_) (fun hc h => ?_)
                            · try simp only [W, hc]
                              refine seq_n hK129 ?_
                              refine w_kill ?_
                              exact cut_n hK128 ⟨_, (Option.some.inj h).symm, rfl, hS⟩
                            · try simp only [W, EE, reduceIte, Bool.false_eq_true, hc]
                              refine w_grdT h (fun hc h => ?_) (fun hc h => ?_)
                              · try simp only [W, hc]
                                refine seq_n hK129 ?_
                                refine w_kill ?_
                                exact cut_n hK128 ⟨_, (Option.some.inj h).symm, rfl, hS⟩
                              · try simp only [W, EE, reduceIte, Bool.false_eq_true, hc]
                                refine seq_n hK129 ?_
                                refine w_kill ?_
                                exact cut_n hK128 ⟨_, (Option.some.inj h).symm, rfl, hS⟩
                          · obtain ⟨x125, ey, rfl, hS⟩ := hq; obtain rfl := ey.symm
                            replace h := g127
                            try dsimp only at h
                            refine seq_n hK124 ?_
                            refine w_if ?_
                            simp only [W]
                            refine w_cnd h (fun hc h => ?_) (fun hc h => ?_)
                            · refine w_seq fun K130 hK130 => ?_
                              refine w_reg gC ?_
                              try simp only [W, Nat.reduceAdd]
                              refine seq_n hK130 ?_
                              refine w_ret ?_
                              refine seq_r hK117 ?_
                              try obtain rfl := Option.some.inj h
                              obtain rfl := Option.some.inj g115
                              have h : (some false : Option (Bool)) = some false := rfl
                              refine cut_r hK116 ?_
                              refine seq_r hK112 ?_
                              refine fin_r1 hK0 rfl ?_
                              try obtain rfl := Option.some.inj h
                              exact hP _ hS
                            · refine w_skip ?_
                              refine seq_n hK117 ?_
                              refine w_kill ?_
                              exact cut_n hK116 ⟨(Option.some.inj h).symm, rfl, hS⟩
                        · refine w_skip ?_
                          refine seq_n hK117 ?_
                          refine w_kill ?_
                          exact cut_n hK116 ⟨(Option.some.inj h).symm, rfl, hS⟩
                      · obtain ⟨rfl, rfl, hS⟩ := hq
                        replace h := g115
                        try dsimp only at h
                        refine seq_n hK112 ?_
                        refine w_seq fun K133 hK133 => ?_
                        refine w_reg gC ?_
                        try simp only [W, Nat.reduceAdd]
                        refine w_call h fun b134 hb134 h => ?_
                        obtain ⟨b135, b136⟩ := b134
                        try dsimp only at h
                        refine spec_DrawGetText_w hb134 hS fun H hS => ?_
                        try simp only [W]
                        refine seq_n hK133 ?_
                        refine w_seq fun K137 hK137 => ?_
                        refine w_reg gC ?_
                        try simp only [W, Nat.reduceAdd]
                        refine w_call h fun b138 hb138 h => ?_
                        obtain ⟨b139, b140, b141⟩ := b138
                        try dsimp only at h
                        refine impl_GetText_w hb138 hS fun H hS => ?_
                        try simp only [W]
                        refine seq_n hK137 ?_
                        refine w_seq fun K142 hK142 => ?_
                        refine w_reg gC ?_
                        try simp only [W, Nat.reduceAdd]
                        refine w_call h fun b143 hb143 h => ?_
                        obtain ⟨b144, b145, b146⟩ := b143
                        try dsimp only at h
                        refine spec_GetText_w hb143 hS fun H hS => ?_
                        try simp only [W]
                        refine seq_n hK142 ?_
                        refine w_seq fun K147 hK147 => ?_
                        refine w_reg gC ?_
                        try simp only [W, EE, Nat.reduceAdd]
                        rw [b_beql _ _ _ _ (h := rfl) rfl, resV_s]
                        try simp only [W]
                        refine w_grdT h (fun hc h => ?_) (fun hc h => ?_)
                        · try simp only [W, EE, reduceIte, hc]
                          refine w_grdT h (fun hc h => ?_) (fun hc h => ?_)
                          · try simp only [W, EE, reduceIte, hc]
                            refine seq_n hK147 ?_
                            refine w_ret ?_
                            refine fin_r1 hK0 rfl ?_
                            try obtain rfl := Option.some.inj h
                            exact hP _ hS
                          · try simp only [W, hc]
                            refine seq_n hK147 ?_
                            refine w_ret ?_
                            refine fin_r1 hK0 rfl ?_
                            try obtain rfl := Option.some.inj h
                            exact hP _ hS
                        · try simp only [W, hc]
                          refine seq_n hK147 ?_
                          refine w_ret ?_
                          refine fin_r1 hK0 rfl ?_
                          try obtain rfl := Option.some.inj h
                          exact hP _ hS
end Go.VxW
