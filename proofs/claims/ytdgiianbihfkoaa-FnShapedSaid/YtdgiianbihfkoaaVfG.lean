import Derived.Test.YtdgiianbihfkoaaVyGF
import Derived.Test.YtdgiianbihfkoaaProg
import Derived.Test.YtdgiianbihfkoaaVaE
import Derived.KernelRfl
open Go Go.VS
set_option maxRecDepth 8000
set_option maxHeartbeats 4000000
namespace Go.VxW
def e_Bucket (x : Bucket) : AV := .agg [.int .i64 x.Rate, .int .i64 x.Depth, .int .i64 x.Has]
def e_L1Cur (x : L1Cur) : AV := .agg [.fz (x.Code.map (AV.int .u8)), .int .i64 x.At, .int .u64 x.Seed]
def E : TEnv := fun t => match t with
  | 3 => some { sz := 1, agg := false, zero := [AV.int IntKind.i64 0], bytes := 8, und := UD.it IntKind.i64, eqok := true }
  | 4 => some { sz := 1, agg := false, zero := [AV.bool false], bytes := 1, und := UD.bl, eqok := true }
  | 5 => some { sz := 1, agg := false, zero := [AV.int IntKind.u8 0], bytes := 1, und := UD.it IntKind.u8, eqok := true }
  | 22 => some { sz := 1, agg := false, zero := [AV.nil], bytes := 24, und := UD.sl 5, eqok := true }
  | 24 => some { sz := 1, agg := false, zero := [AV.nil], bytes := 24, und := UD.sl 3, eqok := true }
  | 43 => some { sz := 3, agg := true, zero := [AV.int IntKind.i64 0, AV.int IntKind.i64 0, AV.int IntKind.i64 0], bytes := 24, und := UD.st [(0, 3), (1, 3), (2, 3)], eqok := true }
  | 150 => some { sz := 1, agg := false, zero := [AV.nilp], bytes := 8, und := UD.pt, eqok := true }
  | 151 => some { sz := 1, agg := false, zero := [AV.int IntKind.u64 0], bytes := 8, und := UD.it IntKind.u64, eqok := true }
  | 153 => some { sz := 3, agg := true, zero := [AV.nil, AV.int IntKind.i64 0, AV.int IntKind.u64 0], bytes := 40, und := UD.st [(0, 22), (1, 3), (2, 151)], eqok := true }
  | 156 => some { sz := 1, agg := false, zero := [AV.undef], bytes := 8, und := UD.ot, eqok := true }
  | 169 => some { sz := 1, agg := false, zero := [AV.undef], bytes := 8, und := UD.ot, eqok := true }
  | _ => none
def pol : FuncId → FPol := fun f => match f with
  | 4 => { rsh := [[.sc]], regs := [(4, [], [3]), (5, [], [3])], frz := [(8, [], some [1, 5, 6, 7, 8, 9, 10, 14, 15, 103]), (12, [], some [1, 7, 8, 9, 128]), (14, [], some [1, 145]), (25, [], some [21, 22, 25, 26, 27, 28, 32, 33, 34, 225])], cnds := [(104, [1])] }
  | 18 => { rsh := [[.sc]], loops := [(0, { keep := [3, 6, 7, 8] })], blocks := [(0, [3])] }
  | 22 => { rsh := [[.sc]], loops := [(0, { keep := [0, 1, 12, 13] })], blocks := [(0, [])] }
  | 23 => { rsh := [[.sc], [.sc], [.sl [.sc]]] }
  | 24 => { rsh := [[.sl [.sc]], [.sl [.sc]], [.sc]], frz := [(2, [], some [2, 9, 23])] }
  | 25 => { rsh := [[.sl [.sc]], [.sl [.sc]], [.sc]], loops := [(0, { keep := [9, 11, 12, 13, 30, 31, 32] })], blocks := [(0, [11, 12])], frz := [(2, [], some [2, 9, 29])], cnds := [(38, [9, 11, 12, 13, 15, 30, 31, 32])] }
  | 26 => { rsh := [[.sc], [.sc]], loops := [(0, { keep := [0, 1, 2, 22, 23] }), (2, { keep := [0, 1, 2, 9, 22, 23, 28, 29, 30] })], blocks := [(2, [0, 1, 2, 22, 23]), (0, [])], frz := [(1, [], some [0, 1, 2, 20])] }
  | 27 => { rsh := [[.sc], [.sc]], loops := [(0, { keep := [0, 1, 2, 21, 22] }), (2, { keep := [0, 1, 2, 8, 9, 10, 21, 22] })], blocks := [(2, [0, 1, 2, 21, 22]), (0, [])], frz := [(1, [], some [0, 1, 2, 19])] }
  | 28 => { rsh := [[.sc, .sc, .sc]] }
  | 29 => { rsh := [[.sc, .sc, .sc], [.sc]] }
  | 30 => { rsh := [[.sc, .sc, .sc], [.sc]] }
  | 31 => { rsh := [[.sc, .sc, .sc], [.sc]], regs := [(3, [5, 7], [])] }
  | 32 => { rsh := [[.sc, .sc, .sc], [.sc]], frz := [(1, [], some [1, 2, 4, 19])] }
  | 33 => { rsh := [[.sc, .sc, .sc], [.sc]], frz := [(1, [], some [1, 2, 4, 15])] }
  | 34 => { rsh := [[.sc], [.sc]] }
  | 35 => { rsh := [[.sc, .sc, .sc], [.sc]] }
  | 36 => { rsh := [[.sc, .sc, .sc], [.sc]] }
  | 37 => { rsh := [[.sc]] }
  | 141 => { rsh := [[.sc]], cnds := [(11, [1, 5])] }
  | 142 => { rsh := [[.sc]] }
  | 143 => { rsh := [[.sc]] }
  | 145 => { rsh := [[.sc]] }
  | 147 => { rsh := [[.sc]] }
  | 150 => { rsh := [[.sc]], loops := [(0, { keep := [1, 2, 9, 10, 11] })], blocks := [(0, [])] }
  | 153 => { rsh := [[.sc]] }
  | 155 => { rsh := [[.sc], [.sc]], fz := [(2, [(2, [([7], [.sl [.sc]])]), (5, [([10], [.sl [.sc]])])])] }
  | 156 => { rsh := [[.sl [.sc]]], loops := [(0, { keep := [0, 3, 4] })], blocks := [(0, [0, 3])], frz := [(8, [], some [0, 3, 28])], fz := [(7, [(3, [([18], [.sl [.sc]])])]), (9, [(3, [([31], [.sl [.sc]])])])], cnds := [(8, [0, 3, 4]), (28, [3])] }
  | 157 => { rsh := [[.sc]] }
  | 158 => { rsh := [[.sl [.sc]], [.sl [.sc]], [.sc]], loops := [(0, { keep := [1, 7, 8, 9, 15, 16, 17] })], blocks := [(0, [7, 8])] }
  | 159 => { rsh := [[.sc]], cnds := [(8, [1, 2])] }
  | 160 => { rsh := [[.sc]] }
  | 161 => { rsh := [[.sc, .sc, .sc]] }
  | 162 => { rsh := [[.sc]] }
  | 163 => { rsh := [[.sc]] }
  | 164 => { rsh := [[.sc]] }
  | 165 => { rsh := [[.sc, .sc, .sc]] }
  | 166 => { rsh := [[.sc]] }
  | 167 => { rsh := [[.sc, .sc, .sc]], frz := [(3, [], some [2, 4, 5, 24])], cnds := [(24, [2, 5])] }
  | 252 => { rsh := [[.sc]], cnds := [(13, [0, 3])] }
  | 255 => { rsh := [[.sc]], loops := [(0, { keep := [0, 1, 7, 8] })], blocks := [(0, [])] }
  | 256 => { rsh := [[.sc]] }
  | _ => {}
noncomputable def code : FuncId → Option Func := fun f => match f with
  | 4 => some Go.Proofs.Try.f4
  | 18 => some Go.Proofs.Try.f18
  | 22 => some Go.Proofs.Try.f22
  | 23 => some Go.Proofs.Try.f23
  | 24 => some Go.Proofs.Try.f24
  | 25 => some Go.Proofs.Try.f25
  | 26 => some Go.Proofs.Try.f26
  | 27 => some Go.Proofs.Try.f27
  | 28 => some Go.Proofs.Try.f28
  | 29 => some Go.Proofs.Try.f29
  | 30 => some Go.Proofs.Try.f30
  | 31 => some Go.Proofs.Try.f31
  | 32 => some Go.Proofs.Try.f32
  | 33 => some Go.Proofs.Try.f33
  | 34 => some Go.Proofs.Try.f34
  | 35 => some Go.Proofs.Try.f35
  | 36 => some Go.Proofs.Try.f36
  | 37 => some Go.Proofs.Try.f37
  | 141 => some Go.Proofs.Try.f141
  | 142 => some Go.Proofs.Try.f142
  | 143 => some Go.Proofs.Try.f143
  | 145 => some Go.Proofs.Try.f145
  | 147 => some Go.Proofs.Try.f147
  | 150 => some Go.Proofs.Try.f150
  | 153 => some Go.Proofs.Try.f153
  | 155 => some Go.Proofs.Try.f155
  | 156 => some Go.Proofs.Try.f156
  | 157 => some Go.Proofs.Try.f157
  | 158 => some Go.Proofs.Try.f158
  | 159 => some Go.Proofs.Try.f159
  | 160 => some Go.Proofs.Try.f160
  | 161 => some Go.Proofs.Try.f161
  | 162 => some Go.Proofs.Try.f162
  | 163 => some Go.Proofs.Try.f163
  | 164 => some Go.Proofs.Try.f164
  | 165 => some Go.Proofs.Try.f165
  | 166 => some Go.Proofs.Try.f166
  | 167 => some Go.Proofs.Try.f167
  | 252 => some Go.Proofs.Try.f252
  | 255 => some Go.Proofs.Try.f255
  | 256 => some Go.Proofs.Try.f256
  | _ => none
noncomputable def C : Ctx := ⟨E, pol, code, fun _ _ _ _ => False⟩
theorem gC : Good C := ⟨fun _ _ _ _ _ _ h => h, fun _ _ _ _ h => h.elim⟩
theorem cE : C.E = E := rfl
theorem E3 : E 3 = some { sz := 1, agg := false, zero := [AV.int IntKind.i64 0], bytes := 8, und := UD.it IntKind.i64, eqok := true } := rfl
theorem E4 : E 4 = some { sz := 1, agg := false, zero := [AV.bool false], bytes := 1, und := UD.bl, eqok := true } := rfl
theorem E5 : E 5 = some { sz := 1, agg := false, zero := [AV.int IntKind.u8 0], bytes := 1, und := UD.it IntKind.u8, eqok := true } := rfl
theorem E22 : E 22 = some { sz := 1, agg := false, zero := [AV.nil], bytes := 24, und := UD.sl 5, eqok := true } := rfl
theorem E24 : E 24 = some { sz := 1, agg := false, zero := [AV.nil], bytes := 24, und := UD.sl 3, eqok := true } := rfl
theorem E43 : E 43 = some { sz := 3, agg := true, zero := [AV.int IntKind.i64 0, AV.int IntKind.i64 0, AV.int IntKind.i64 0], bytes := 24, und := UD.st [(0, 3), (1, 3), (2, 3)], eqok := true } := rfl
theorem E150 : E 150 = some { sz := 1, agg := false, zero := [AV.nilp], bytes := 8, und := UD.pt, eqok := true } := rfl
theorem E151 : E 151 = some { sz := 1, agg := false, zero := [AV.int IntKind.u64 0], bytes := 8, und := UD.it IntKind.u64, eqok := true } := rfl
theorem E153 : E 153 = some { sz := 3, agg := true, zero := [AV.nil, AV.int IntKind.i64 0, AV.int IntKind.u64 0], bytes := 40, und := UD.st [(0, 22), (1, 3), (2, 151)], eqok := true } := rfl
theorem E156 : E 156 = some { sz := 1, agg := false, zero := [AV.undef], bytes := 8, und := UD.ot, eqok := true } := rfl
theorem E169 : E 169 = some { sz := 1, agg := false, zero := [AV.undef], bytes := 8, und := UD.ot, eqok := true } := rfl
theorem EE : type_of% (And.intro @cE <| And.intro @E3 <| And.intro @E4 <| And.intro @E5 <| And.intro @E22 <| And.intro @E24 <| And.intro @E43 <| And.intro @E150 <| And.intro @E151 <| And.intro @E153 <| And.intro @E156 @E169) := And.intro @cE <| And.intro @E3 <| And.intro @E4 <| And.intro @E5 <| And.intro @E22 <| And.intro @E24 <| And.intro @E43 <| And.intro @E150 <| And.intro @E151 <| And.intro @E153 <| And.intro @E156 @E169
theorem e_Bucket_d (x : Bucket) : e_Bucket x = .agg [.int .i64 x.Rate, .int .i64 x.Depth, .int .i64 x.Has] := rfl
theorem e_L1Cur_d (x : L1Cur) : e_L1Cur x = .agg [.fz (x.Code.map (AV.int .u8)), .int .i64 x.At, .int .u64 x.Seed] := rfl
theorem EN : type_of% (And.intro @e_Bucket_d <| And.intro @e_L1Cur_d @killB_n) := And.intro @e_Bucket_d <| And.intro @e_L1Cur_d @killB_n
theorem spec_l1Cur_next_w {a0 : L1Cur} {i0 : Nat} {w0 : Nat} {r : (Int × L1Cur)} (h : spec_l1Cur_next a0 = some r) {F : List It} {H : Heap} (hS : Own H (⟨.ptr i0 w0 0 0, 3, [.agg [.fz (a0.Code.map (AV.int .u8)), .int .i64 a0.At, .int .u64 a0.Seed]]⟩ :: F)) {P : AV → Heap → Prop} (hP : ∀ H', Own H' (⟨.ptr i0 w0 0 0, 3, [.agg [.fz (r.2.Code.map (AV.int .u8)), .int .i64 r.2.At, .int .u64 r.2.Seed]]⟩ :: F) → P (.int .i64 r.1) H') : ACall C 252 [.ptr i0 w0 0 0] H P := by
  refine acall_of gC (res := [.tmp 2]) (n := 62) rfl rfl rfl rfl fun K0 hK0 => ?_
  simp only [W, Nat.reduceSub, Nat.reduceAdd, List.replicate]
  unfold spec_l1Cur_next at h
  refine w_seq fun K1 hK1 => ?_
  refine w_reg gC ?_
  try simp only [W, Nat.reduceAdd]
  refine seq_n hK1 ?_
  refine w_seq fun K2 hK2 => ?_
  refine w_reg gC ?_
  try simp only [W, Nat.reduceAdd]
  refine seq_n hK2 ?_
  refine w_seq fun K3 hK3 => ?_
  refine w_seq fun K4 hK4 => ?_
  refine w_draw0 gC (by kernel_rfl) ?_
  try simp only [W, EE, Nat.reduceAdd, Nat.reduceBEq, hS.var 0 rfl]
  refine seq_n hK4 ?_
  obtain ⟨y6, h, g7⟩ := Option.bind_eq_some_iff.1 h
  refine w_join gC (fun s H => ∃ x5 : Int, y6 = (x5) ∧ s = [.ptr i0 w0 0 0, u, u, .int .i64 x5, u, u, u, u, u, u, u, u, u, u, u, u, u, u, u, u, u, u, u, u, u, u, u, u, u, u, u, u, u, u, u, u, u, u, u, u, u, u, u, u, u, u, u, u, u, u, u, u, u, u, u, u, u, u, u, u, u, u] ∧ Own H (⟨.ptr i0 w0 0 0, 3, [.agg [.fz (a0.Code.map (AV.int .u8)), .int .i64 a0.At, .int .u64 a0.Seed]]⟩ :: F)) (fun K8 hK8 => ?_) (fun s H hq => ?_)
  · refine w_seq fun K9 hK9 => ?_
    refine w_if ?_
    simp only [W]
    refine w_cnd h (fun hc h => ?_) (fun hc h => ?_)
    · refine w_draw0 gC (by kernel_rfl) ?_
      try simp only [W, EE, Nat.reduceAdd, Nat.reduceBEq, hS.var 0 rfl]
      refine w_fz rfl rfl rfl (fun _ => rfl) h fun b10 hb10 h => ?_
      try simp only [W, EE]
      refine seq_n hK9 ?_
      refine w_kill ?_
      exact cut_n hK8 ⟨_, (Option.some.inj h).symm, rfl, hS⟩
    · refine w_skip ?_
      refine seq_n hK9 ?_
      refine w_kill ?_
      exact cut_n hK8 ⟨_, (Option.some.inj h).symm, rfl, hS⟩
  · obtain ⟨x5, ey, rfl, hS⟩ := hq; obtain rfl := ey.symm
    replace h := g7
    try dsimp only at h
    refine seq_n hK3 ?_
    refine w_seq fun K11 hK11 => ?_
    refine w_reg gC ?_
    try simp only [W, EE, Nat.reduceAdd, Nat.reduceBEq, hS.var 0 rfl]
    refine w_stv (a := .int .i64 (IntKind.i64.wrap (a0.At + 1))) (y' := .agg [.fz (a0.Code.map (AV.int .u8)), .int .i64 (IntKind.i64.wrap (a0.At + 1)), .int .u64 a0.Seed]) 0 hS rfl rfl rfl rfl rfl rfl rfl rfl fun H hS => ?_
    try simp only [W]
    refine seq_n hK11 ?_
    refine w_seq fun K12 hK12 => ?_
    refine w_reg gC ?_
    try simp only [W, EE, Nat.reduceAdd, Nat.reduceBEq, hS.var 0 rfl]
    refine w_stv (a := .int .u64 (IntKind.u64.wrap ((IntKind.u64.wrap ((IntKind.u64.wrap (a0.Seed * 6364136223846793005)) + (IntKind.u64.wrap x5))) + 1442695040888963407))) (y' := .agg [.fz (a0.Code.map (AV.int .u8)), .int .i64 (IntKind.i64.wrap (a0.At + 1)), .int .u64 (IntKind.u64.wrap ((IntKind.u64.wrap ((IntKind.u64.wrap (a0.Seed * 6364136223846793005)) + (IntKind.u64.wrap x5))) + 1442695040888963407))]) 0 hS rfl rfl rfl rfl rfl rfl rfl rfl fun H hS => ?_
    try simp only [W]
    refine seq_n hK12 ?_
    refine w_seq fun K13 hK13 => ?_
    refine w_seq fun K14 hK14 => ?_
    refine w_draw0 gC (by kernel_rfl) ?_
    try simp only [W, EE, Nat.reduceAdd, Nat.reduceBEq, hS.var 0 rfl]
    refine seq_n hK14 ?_
    refine w_if ?_
    simp only [W]
    refine w_cnd h (fun hc h => ?_) (fun hc h => ?_)
    · refine w_seq fun K15 hK15 => ?_
      refine w_reg gC ?_
      try simp only [W, Nat.reduceAdd]
      refine seq_n hK15 ?_
      refine w_ret ?_
      refine seq_r hK13 ?_
      refine fin_r1 hK0 rfl ?_
      try obtain rfl := Option.some.inj h
      exact hP _ hS
    · refine w_skip ?_
      refine seq_n hK13 ?_
      refine w_seq fun K16 hK16 => ?_
      refine w_reg gC ?_
      try simp only [W, EE, Nat.reduceAdd, Nat.reduceBEq, hS.var 0 rfl]
      rw [sr_lit _ _ _ rfl, Option.map_some, resV_s]
      try simp only [W, EE]
      refine seq_n hK16 ?_
      refine w_ret ?_
      refine fin_r1 hK0 rfl ?_
      try obtain rfl := Option.some.inj h
      exact hP _ hS
theorem spec_l1Cur_pick_w {a0 : L1Cur} {a1 : Int} {i0 : Nat} {w0 : Nat} {r : (Int × L1Cur)} (h : spec_l1Cur_pick a0 a1 = some r) {F : List It} {H : Heap} (hS : Own H (⟨.ptr i0 w0 0 0, 3, [.agg [.fz (a0.Code.map (AV.int .u8)), .int .i64 a0.At, .int .u64 a0.Seed]]⟩ :: F)) {P : AV → Heap → Prop} (hP : ∀ H', Own H' (⟨.ptr i0 w0 0 0, 3, [.agg [.fz (r.2.Code.map (AV.int .u8)), .int .i64 r.2.At, .int .u64 r.2.Seed]]⟩ :: F) → P (.int .i64 r.1) H') : ACall C 141 [.ptr i0 w0 0 0, .int .i64 a1] H P := by
  refine acall_of gC (res := [.tmp 4]) (n := 20) rfl rfl rfl rfl fun K0 hK0 => ?_
  simp only [W, Nat.reduceSub, Nat.reduceAdd, List.replicate]
  unfold spec_l1Cur_pick at h
  refine w_seq fun K1 hK1 => ?_
  refine w_reg gC ?_
  try simp only [W, Nat.reduceAdd]
  refine seq_n hK1 ?_
  refine w_seq fun K2 hK2 => ?_
  refine w_seq fun K3 hK3 => ?_
  refine w_reg gC ?_
  try simp only [W, EE, Nat.reduceAdd]
  refine seq_n hK3 ?_
  refine w_if ?_
  simp only [W]
  refine w_cnd h (fun hc h => ?_) (fun hc h => ?_)
  · refine w_seq fun K4 hK4 => ?_
    refine w_reg gC ?_
    try simp only [W, Nat.reduceAdd]
    refine seq_n hK4 ?_
    refine w_ret ?_
    refine seq_r hK2 ?_
    refine fin_r1 hK0 rfl ?_
    try obtain rfl := Option.some.inj h
    exact hP _ hS
  · refine w_skip ?_
    refine seq_n hK2 ?_
    refine w_seq fun K5 hK5 => ?_
    refine w_reg gC ?_
    try simp only [W, Nat.reduceAdd]
    refine w_call h fun b6 hb6 h => ?_
    obtain ⟨b7, b8⟩ := b6
    try dsimp only at h
    refine spec_l1Cur_next_w hb6 hS fun H hS => ?_
    try simp only [W]
    refine seq_n hK5 ?_
    refine w_seq fun K9 hK9 => ?_
    refine w_seq fun K10 hK10 => ?_
    refine w_reg gC ?_
    try simp only [W, EE, Nat.reduceAdd]
    refine seq_n hK10 ?_
    obtain ⟨y15, h, g16⟩ := Option.bind_eq_some_iff.1 h
    refine w_join gC (fun s H => ∃ x11 : Int, ∃ x12 : List Int, ∃ x13 : Int, ∃ x14 : Int, y15 = (x11, x12, x13, x14) ∧ s = [u, .int .i64 a1, u, u, u, .int .i64 x11, u, u, u, u, u, u, u, u, u, u, u, u, u, u] ∧ Own H (⟨.ptr i0 w0 0 0, 3, [.agg [.fz (x12.map (AV.int .u8)), .int .i64 x13, .int .u64 x14]]⟩ :: F)) (fun K17 hK17 => ?_) (fun s H hq => ?_)
    · refine w_seq fun K18 hK18 => ?_
      refine w_if ?_
      simp only [W]
      refine w_cnd h (fun hc h => ?_) (fun hc h => ?_)
      · refine w_reg gC ?_
        try simp only [W, EE, Nat.reduceAdd]
        refine w_call h fun b19 hb19 h => ?_
        obtain ⟨b20, b21⟩ := b19
        try dsimp only at h
        refine spec_l1Cur_next_w hb19 hS fun H hS => ?_
        try simp only [W, EE]
        refine seq_n hK18 ?_
        refine w_kill ?_
        exact cut_n hK17 ⟨_, _, _, _, (Option.some.inj h).symm, rfl, hS⟩
      · refine w_skip ?_
        refine seq_n hK18 ?_
        refine w_kill ?_
        exact cut_n hK17 ⟨_, _, _, _, (Option.some.inj h).symm, rfl, hS⟩
    · obtain ⟨x11, x12, x13, x14, rfl, rfl, hS⟩ := hq
      replace h := g16
      try dsimp only at h
      refine seq_n hK9 ?_
      refine w_seq fun K22 hK22 => ?_
      refine w_reg gC ?_
      try simp only [W, EE, Nat.reduceAdd]
      refine w_num _ h fun x23 hx23 h => ?_
      try simp only [W]
      refine seq_n hK22 ?_
      refine w_ret ?_
      refine fin_r1 hK0 rfl ?_
      try obtain rfl := Option.some.inj h
      exact hP _ hS
theorem spec_l1Cur_one_w {a0 : L1Cur} {a1 : Int} {i0 : Nat} {w0 : Nat} {r : (Bool × L1Cur)} (h : spec_l1Cur_one a0 a1 = some r) {F : List It} {H : Heap} (hS : Own H (⟨.ptr i0 w0 0 0, 3, [.agg [.fz (a0.Code.map (AV.int .u8)), .int .i64 a0.At, .int .u64 a0.Seed]]⟩ :: F)) {P : AV → Heap → Prop} (hP : ∀ H', Own H' (⟨.ptr i0 w0 0 0, 3, [.agg [.fz (r.2.Code.map (AV.int .u8)), .int .i64 r.2.At, .int .u64 r.2.Seed]]⟩ :: F) → P (.bool r.1) H') : ACall C 142 [.ptr i0 w0 0 0, .int .i64 a1] H P := by
  refine acall_of gC (res := [.tmp 4]) (n := 9) rfl rfl rfl rfl fun K0 hK0 => ?_
  simp only [W, Nat.reduceSub, Nat.reduceAdd, List.replicate]
  unfold spec_l1Cur_one at h
  refine w_seq fun K1 hK1 => ?_
  refine w_reg gC ?_
  try simp only [W, Nat.reduceAdd]
  refine seq_n hK1 ?_
  refine w_seq fun K2 hK2 => ?_
  refine w_reg gC ?_
  try simp only [W, Nat.reduceAdd]
  refine w_call h fun b3 hb3 h => ?_
  obtain ⟨b4, b5⟩ := b3
  try dsimp only at h
  refine spec_l1Cur_pick_w hb3 hS fun H hS => ?_
  try simp only [W, EE]
  refine seq_n hK2 ?_
  refine w_ret ?_
  refine fin_r1 hK0 rfl ?_
  try obtain rfl := Option.some.inj h
  exact hP _ hS
theorem spec_l1Cur_among_w {a0 : L1Cur} {a1 : List Int} {i0 : Nat} {w0 : Nat} {r : (Int × L1Cur)} (h : spec_l1Cur_among a0 a1 = some r) {F : List It} {H : Heap} (hS : Own H (⟨.ptr i0 w0 0 0, 3, [.agg [.fz (a0.Code.map (AV.int .u8)), .int .i64 a0.At, .int .u64 a0.Seed]]⟩ :: F)) {P : AV → Heap → Prop} (hP : ∀ H', Own H' (⟨.ptr i0 w0 0 0, 3, [.agg [.fz (r.2.Code.map (AV.int .u8)), .int .i64 r.2.At, .int .u64 r.2.Seed]]⟩ :: F) → P (.int .i64 r.1) H') : ACall C 143 [.ptr i0 w0 0 0, .fz (a1.map (AV.int .i64))] H P := by
  refine acall_of gC (res := [.tmp 4]) (n := 12) rfl rfl rfl rfl fun K0 hK0 => ?_
  simp only [W, Nat.reduceSub, Nat.reduceAdd, List.replicate]
  unfold spec_l1Cur_among at h
  refine w_seq fun K1 hK1 => ?_
  refine w_reg gC ?_
  try simp only [W, Nat.reduceAdd]
  refine seq_n hK1 ?_
  refine w_seq fun K2 hK2 => ?_
  refine w_reg gC ?_
  try simp only [W, EE, Nat.reduceAdd]
  refine w_call h fun b3 hb3 h => ?_
  obtain ⟨b4, b5⟩ := b3
  try dsimp only at h
  refine spec_l1Cur_pick_w hb3 hS fun H hS => ?_
  try simp only [W, EE]
  refine w_fz rfl rfl rfl (fun _ => rfl) h fun b6 hb6 h => ?_
  try simp only [W, EE]
  refine seq_n hK2 ?_
  refine w_ret ?_
  refine fin_r1 hK0 rfl ?_
  try obtain rfl := Option.some.inj h
  exact hP _ hS
theorem spec_l1Cur_rate_w {a0 : L1Cur} {i0 : Nat} {w0 : Nat} {r : (Int × Int × L1Cur)} (h : spec_l1Cur_rate a0 = some r) {F : List It} {H : Heap} (hS : Own H (⟨.ptr i0 w0 0 0, 3, [.agg [.fz (a0.Code.map (AV.int .u8)), .int .i64 a0.At, .int .u64 a0.Seed]]⟩ :: F)) {P : AV → Heap → Prop} (hP : ∀ H', Own H' (⟨.ptr i0 w0 0 0, 3, [.agg [.fz (r.2.2.Code.map (AV.int .u8)), .int .i64 r.2.2.At, .int .u64 r.2.2.Seed]]⟩ :: F) → P (.tup [.int .i64 r.1, .int .i64 r.2.1]) H') : ACall C 155 [.ptr i0 w0 0 0] H P := by
  refine acall_of gC (res := [.tmp 2, .tmp 3]) (n := 18) rfl rfl rfl rfl fun K0 hK0 => ?_
  simp only [W, Nat.reduceSub, Nat.reduceAdd, List.replicate]
  unfold spec_l1Cur_rate at h
  refine w_seq fun K1 hK1 => ?_
  refine w_reg gC ?_
  try simp only [W, Nat.reduceAdd]
  refine seq_n hK1 ?_
  refine w_seq fun K2 hK2 => ?_
  refine w_seq fun K3 hK3 => ?_
  refine w_reg gC ?_
  try simp only [W, Nat.reduceAdd]
  refine w_call h fun b4 hb4 h => ?_
  obtain ⟨b5, b6⟩ := b4
  try dsimp only at h
  refine spec_l1Cur_one_w hb4 hS fun H hS => ?_
  try simp only [W]
  refine seq_n hK3 ?_
  refine w_if ?_
  simp only [W]
  refine w_cnd h (fun hc h => ?_) (fun hc h => ?_)
  · refine w_seq fun K7 hK7 => ?_
    refine w_regF (fz := [(2, [([7], [.sl [.sc]])]), (5, [([10], [.sl [.sc]])])]) gC ?_
    try simp only [W, Nat.reduceAdd, Nat.reduceBEq]
    refine w_lit (el := ([0, 1, 20, 21] : List Int).map (AV.int .i64)) hS rfl rfl rfl rfl rfl rfl rfl fun v8 H qv8 hS => ?_
    try simp only [W, Nat.reduceAdd]
    refine FZ_own 0 hS rfl qv8 rfl (fun _ _ => by simp [takeE, takeT, plainA]) (fun _ => rfl) fun H hsame hS => ?_
    try simp only [W]
    refine w_call h fun b10 hb10 h => ?_
    obtain ⟨b11, b12⟩ := b10
    try dsimp only at h
    refine spec_l1Cur_among_w hb10 hS fun H hS => ?_
    try simp only [W, Nat.reduceAdd, Nat.reduceBEq]
    refine w_lit (el := ([0, 1, 60, 61] : List Int).map (AV.int .i64)) hS rfl rfl rfl rfl rfl rfl rfl fun v13 H qv13 hS => ?_
    try simp only [W, Nat.reduceAdd, Nat.reduceBEq]
    refine FZ_own 0 hS rfl qv13 rfl (fun _ _ => by simp [takeE, takeT, plainA]) (fun _ => rfl) fun H hsame hS => ?_
    try simp only [W]
    refine w_call h fun b15 hb15 h => ?_
    obtain ⟨b16, b17⟩ := b15
    try dsimp only at h
    refine spec_l1Cur_among_w hb15 hS fun H hS => ?_
    try simp only [W, Nat.reduceAdd, Nat.reduceBEq]
    refine seq_n hK7 ?_
    refine w_ret ?_
    refine seq_r hK2 ?_
    refine fin_r2 hK0 rfl rfl ?_
    try obtain rfl := Option.some.inj h
    exact hP _ hS
  · refine w_skip ?_
    refine seq_n hK2 ?_
    refine w_seq fun K18 hK18 => ?_
    refine w_reg gC ?_
    try simp only [W, Nat.reduceAdd]
    refine w_call h fun b19 hb19 h => ?_
    obtain ⟨b20, b21⟩ := b19
    try dsimp only at h
    refine spec_l1Cur_pick_w hb19 hS fun H hS => ?_
    try simp only [W, EE]
    refine w_call h fun b22 hb22 h => ?_
    obtain ⟨b23, b24⟩ := b22
    try dsimp only at h
    refine spec_l1Cur_pick_w hb22 hS fun H hS => ?_
    try simp only [W, EE]
    refine seq_n hK18 ?_
    refine w_ret ?_
    refine fin_r2 hK0 rfl rfl ?_
    try obtain rfl := Option.some.inj h
    exact hP _ hS
theorem spec_l1Cur_flow_w {a0 : L1Cur} {i0 : Nat} {w0 : Nat} {r : (List Int × L1Cur)} (h : spec_l1Cur_flow a0 = some r) {F : List It} {H : Heap} (hS : Own H (⟨.ptr i0 w0 0 0, 3, [.agg [.fz (a0.Code.map (AV.int .u8)), .int .i64 a0.At, .int .u64 a0.Seed]]⟩ :: F)) {P : AV → Heap → Prop} (hP : ∀ v89 : AV, isSl v89 → ∀ H', Own H' (⟨v89, 1, r.1.map (AV.int .i64)⟩ :: ⟨.ptr i0 w0 0 0, 3, [.agg [.fz (r.2.Code.map (AV.int .u8)), .int .i64 r.2.At, .int .u64 r.2.Seed]]⟩ :: F) → P (v89) H') : ACall C 156 [.ptr i0 w0 0 0] H P := by
  refine acall_of gC (res := [.tmp 2]) (n := 35) rfl rfl rfl rfl fun K0 hK0 => ?_
  simp only [W, Nat.reduceSub, Nat.reduceAdd, List.replicate]
  unfold spec_l1Cur_flow at h
  refine w_seq fun K1 hK1 => ?_
  refine w_reg gC ?_
  try simp only [W, Nat.reduceAdd]
  refine seq_n hK1 ?_
  refine w_seq fun K2 hK2 => ?_
  refine w_reg gC ?_
  try simp only [W, Nat.reduceAdd]
  refine seq_n hK2 ?_
  refine w_seq fun K3 hK3 => ?_
  refine w_reg gC ?_
  try simp only [W, Nat.reduceAdd]
  refine w_call h fun b4 hb4 h => ?_
  obtain ⟨b5, b6⟩ := b4
  try dsimp only at h
  refine spec_l1Cur_pick_w hb4 hS fun H hS => ?_
  try simp only [W]
  refine seq_n hK3 ?_
  refine w_seq fun K7 hK7 => ?_
  refine w_seq fun K8 hK8 => ?_
  refine w_reg gC ?_
  try simp only [W, Nat.reduceAdd]
  refine w_call h fun b9 hb9 h => ?_
  obtain ⟨b10, b11⟩ := b9
  try dsimp only at h
  refine spec_l1Cur_one_w hb9 hS fun H hS => ?_
  try simp only [W]
  refine seq_n hK8 ?_
  obtain ⟨y16, h, g17⟩ := Option.bind_eq_some_iff.1 h
  refine w_join gC (fun s H => ∃ x12 : Int, ∃ x13 : List Int, ∃ x14 : Int, ∃ x15 : Int, y16 = (x12, x13, x14, x15) ∧ s = [.ptr i0 w0 0 0, u, u, .nil, .int .i64 x12, u, u, u, u, u, u, u, u, u, u, u, u, u, u, u, u, u, u, u, u, u, u, u, u, u, u, u, u, u, u] ∧ Own H (⟨.ptr i0 w0 0 0, 3, [.agg [.fz (x13.map (AV.int .u8)), .int .i64 x14, .int .u64 x15]]⟩ :: F)) (fun K18 hK18 => ?_) (fun s H hq => ?_)
  · refine w_seq fun K19 hK19 => ?_
    refine w_if ?_
    simp only [W]
    refine w_cnd h (fun hc h => ?_) (fun hc h => ?_)
    · refine w_reg gC ?_
      try simp only [W, Nat.reduceAdd]
      refine w_call h fun b20 hb20 h => ?_
      obtain ⟨b21, b22⟩ := b20
      try dsimp only at h
      refine spec_l1Cur_pick_w hb20 hS fun H hS => ?_
      try simp only [W, EE]
      refine seq_n hK19 ?_
      refine w_kill ?_
      exact cut_n hK18 ⟨_, _, _, _, (Option.some.inj h).symm, rfl, hS⟩
    · refine w_skip ?_
      refine seq_n hK19 ?_
      refine w_kill ?_
      exact cut_n hK18 ⟨_, _, _, _, (Option.some.inj h).symm, rfl, hS⟩
  · obtain ⟨x12, x13, x14, x15, rfl, rfl, hS⟩ := hq
    replace h := g17
    try dsimp only at h
    refine seq_n hK7 ?_
    refine w_seq fun K23 hK23 => ?_
    obtain ⟨y36, hw37, g43⟩ := Option.bind_eq_some_iff.1 h
    refine w_join gC (fun s H => ∃ x31 : List Int, ∃ x33 : List Int, ∃ x34 : Int, ∃ x35 : Int, y36 = (x31, x33, x34, x35) ∧ ∃ v32 : AV, isSl v32 ∧ s = [.ptr i0 w0 0 0, u, u, v32, u, u, u, u, u, u, u, u, u, u, u, u, u, u, u, u, u, u, u, u, u, u, u, u, u, u, u, u, u, u, u] ∧ Own H (⟨v32, 1, x31.map (AV.int .i64)⟩ :: ⟨.ptr i0 w0 0 0, 3, [.agg [.fz (x33.map (AV.int .u8)), .int .i64 x34, .int .u64 x35]]⟩ :: F)) (fun K38 hK38 => ?_) (fun s H hq => ?_)
    · refine w_blk fun K39 hK39 => ?_
      refine w_loop gC hw37 (fun x s H => match x with | (x24, x27, x28, x29, x30) => ∃ v25 : AV, isSl v25 ∧ s = [.ptr i0 w0 0 0, u, u, v25, .int .i64 x27, u, u, u, u, u, u, u, u, u, u, u, u, u, u, u, u, u, u, u, u, u, u, u, u, u, u, u, u, u, u] ∧ Own H (⟨v25, 1, x24.map (AV.int .i64)⟩ :: ⟨.ptr i0 w0 0 0, 3, [.agg [.fz (x28.map (AV.int .u8)), .int .i64 x29, .int .u64 x30]]⟩ :: F)) ⟨_, isSl_nil, rfl, (hS.nil_ 1)⟩ (fun x y42 s H h hd41 hi K40 hK40 => ?_)
      obtain ⟨x24, x27, x28, x29, x30⟩ := x
      try dsimp only at hi
      obtain ⟨v25, qv25, rfl, hS⟩ := hi
      simp only [spec_l1Cur_flow_l0] at h
      refine w_seq fun K44 hK44 => ?_
      refine w_seq fun K45 hK45 => ?_
      refine w_reg gC ?_
      try simp only [W, EE, Nat.reduceAdd]
      refine seq_n hK45 ?_
      refine w_if ?_
      simp only [W]
      refine w_cnd h (fun hc h => ?_) (fun hc h => ?_)
      · refine w_skip ?_
        refine seq_n hK44 ?_
        refine w_seq fun K46 hK46 => ?_
        refine w_blk fun K47 hK47 => ?_
        refine w_regF (fz := [(3, [([18], [.sl [.sc]])])]) gC ?_
        try simp only [W, Nat.reduceAdd, Nat.reduceBEq]
        refine w_lit (el := ([0, 0, 1, 3, 5, 10, 30] : List Int).map (AV.int .i64)) hS rfl rfl rfl rfl rfl rfl rfl fun v48 H qv48 hS => ?_
        try simp only [W, Nat.reduceAdd]
        refine FZ_own 0 hS rfl qv48 rfl (fun _ _ => by simp [takeE, takeT, plainA]) (fun _ => rfl) fun H hsame hS => ?_
        try simp only [W]
        refine w_call h fun b50 hb50 h => ?_
        obtain ⟨b51, b52⟩ := b50
        try dsimp only at h
        refine spec_l1Cur_among_w hb50 (hS.sel 2 [1, 0] (by decide)) fun H hS => ?_
        try simp only [W, Nat.reduceAdd, Nat.reduceBEq]
        refine w_lit (el := ([b51] : List Int).map (AV.int .i64)) hS rfl rfl rfl rfl rfl rfl rfl fun v53 H qv53 hS => ?_
        try simp only [W, EE, Nat.reduceAdd, Nat.reduceBEq]
        refine w_appV (l := x24) (c := (AV.int .i64)) 2 hS rfl qv25 rfl rfl rfl (hS.elems 0 rfl qv53) (fun _ => rfl) rfl h fun v56 H x55 qv56 hm h hS => ?_
        try simp only [W, Nat.reduceAdd, Nat.reduceBEq]
        refine blk_n0 hK47 ?_
        refine seq_n hK46 ?_
        refine w_reg gC ?_
        try simp only [W, EE, Nat.reduceAdd]
        exact lp_n hK40 h ⟨_, qv56, rfl, (hS.sel 3 [2, 1] (by decide))⟩
      · refine w_exit ?_
        refine seq_x hK44 ?_
        try obtain rfl := Option.some.inj h
        obtain rfl := hd41 _ rfl
        have h : (some (x24, x28, x29, x30) : Option ((List Int) × (List Int) × Int × Int)) = some (x24, x28, x29, x30) := rfl
        refine lp_x hK40 ?_
        refine blk_e hK39 ?_
        exact cut_n hK38 ⟨_, _, _, _, (Option.some.inj h).symm, _, qv25, rfl, hS⟩
    · obtain ⟨x31, x33, x34, x35, rfl, v32, qv32, rfl, hS⟩ := hq
      replace h := g43
      try dsimp only at h
      refine seq_n hK23 ?_
      refine w_seq fun K60 hK60 => ?_
      refine w_seq fun K61 hK61 => ?_
      obtain ⟨y66, h, g67⟩ := Option.bind_eq_some_iff.1 h
      refine w_join gC (fun s H => ∃ x62 : Bool, ∃ x63 : List Int, ∃ x64 : Int, ∃ x65 : Int, y66 = (x62, x63, x64, x65) ∧ s = [.ptr i0 w0 0 0, u, u, v32, u, u, u, u, u, u, u, u, u, u, u, u, u, u, u, u, u, u, u, u, u, u, u, u, .bool x62, u, u, u, u, u, u] ∧ Own H (⟨v32, 1, x31.map (AV.int .i64)⟩ :: ⟨.ptr i0 w0 0 0, 3, [.agg [.fz (x63.map (AV.int .u8)), .int .i64 x64, .int .u64 x65]]⟩ :: F)) (fun K68 hK68 => ?_) (fun s H hq => ?_)
      · refine w_seq fun K69 hK69 => ?_
        refine w_reg gC ?_
        try simp only [W, EE, Nat.reduceAdd]
        refine w_len 0 hS rfl qv32 rfl ?_
        try simp only [W, EE]
        refine w_grdT h (fun hc h => ?_) (fun hc h => ?_)
        · try simp only [W, hc]
          refine w_call h fun b70 hb70 h => ?_
          obtain ⟨b71, b72⟩ := b70
          try dsimp only at h
          refine spec_l1Cur_one_w hb70 (hS.sel 2 [1, 0] (by decide)) fun H hS => ?_
          try simp only [W, reduceIte]
          refine seq_n hK69 ?_
          refine w_kill ?_
          exact cut_n hK68 ⟨_, _, _, _, (Option.some.inj h).symm, rfl, (hS.sel 2 [1, 0] (by decide))⟩
        · try simp only [W, hc]
          refine seq_n hK69 ?_
          refine w_kill ?_
          exact cut_n hK68 ⟨_, _, _, _, (Option.some.inj h).symm, rfl, hS⟩
      · obtain ⟨x62, x63, x64, x65, rfl, rfl, hS⟩ := hq
        replace h := g67
        try dsimp only at h
        refine seq_n hK61 ?_
        obtain ⟨y77, h, g78⟩ := Option.bind_eq_some_iff.1 h
        refine w_join gC (fun s H => ∃ x73 : List Int, ∃ x74 : List Int, ∃ x75 : Int, ∃ x76 : Int, y77 = (x73, x74, x75, x76) ∧ s = [u, u, u, v32, u, u, u, u, u, u, u, u, u, u, u, u, u, u, u, u, u, u, u, u, u, u, u, u, u, u, u, u, u, u, u] ∧ Own H (⟨v32, 1, x73.map (AV.int .i64)⟩ :: ⟨.ptr i0 w0 0 0, 3, [.agg [.fz (x74.map (AV.int .u8)), .int .i64 x75, .int .u64 x76]]⟩ :: F)) (fun K79 hK79 => ?_) (fun s H hq => ?_)
        · refine w_seq fun K80 hK80 => ?_
          refine w_if ?_
          simp only [W]
          refine w_cnd h (fun hc h => ?_) (fun hc h => ?_)
          · refine w_regF (fz := [(3, [([31], [.sl [.sc]])])]) gC ?_
            try simp only [W, Nat.reduceAdd, Nat.reduceBEq]
            refine w_lit (el := ([-1, 60, 61] : List Int).map (AV.int .i64)) hS rfl rfl rfl rfl rfl rfl rfl fun v81 H qv81 hS => ?_
            try simp only [W, Nat.reduceAdd]
            refine FZ_own 0 hS rfl qv81 rfl (fun _ _ => by simp [takeE, takeT, plainA]) (fun _ => rfl) fun H hsame hS => ?_
            try simp only [W]
            refine w_call h fun b83 hb83 h => ?_
            obtain ⟨b84, b85⟩ := b83
            try dsimp only at h
            refine spec_l1Cur_among_w hb83 (hS.sel 2 [1, 0] (by decide)) fun H hS => ?_
            try simp only [W, EE, Nat.reduceAdd, Nat.reduceBEq]
            refine w_ow 1 hS rfl rfl rfl rfl rfl h (fun b86 in87 wn87 on87 hb86 h en87 => ?_) qv32.ne
            obtain ⟨kn87, hbn87, hen87⟩ := hS.elem 1 rfl en87 hb86
            try simp only [W, Nat.reduceAdd, Nat.reduceBEq]
            refine w_ste (a := .int .i64 b84) (y' := b84) 1 hS rfl en87 hb86 rfl rfl rfl rfl rfl rfl rfl fun H hS => ?_
            try simp only [W, Nat.reduceAdd]
            refine seq_n hK80 ?_
            refine w_kill ?_
            exact cut_n hK79 ⟨_, _, _, _, (Option.some.inj h).symm, rfl, (hS.sel 2 [1, 0] (by decide))⟩
          · refine w_skip ?_
            refine seq_n hK80 ?_
            refine w_kill ?_
            exact cut_n hK79 ⟨_, _, _, _, (Option.some.inj h).symm, rfl, hS⟩
        · obtain ⟨x73, x74, x75, x76, rfl, rfl, hS⟩ := hq
          replace h := g78
          try dsimp only at h
          refine seq_n hK60 ?_
          refine w_seq fun K88 hK88 => ?_
          refine w_reg gC ?_
          try simp only [W, Nat.reduceAdd]
          refine seq_n hK88 ?_
          refine w_ret ?_
          refine fin_r1 hK0 rfl ?_
          try obtain rfl := Option.some.inj h
          exact hP _ qv32 _ hS
theorem spec_DrawShapeFlow_w {a0 : List Int} {r : (Int × Int × List Int)} (h : spec_DrawShapeFlow a0 = some r) {F : List It} {H : Heap} (hS : Own H (F)) {P : AV → Heap → Prop} (hP : ∀ v16 : AV, isSl v16 → ∀ H', Own H' (⟨v16, 1, r.2.2.map (AV.int .i64)⟩ :: F) → P (.tup [.int .i64 r.1, .int .i64 r.2.1, v16]) H') : ACall C 23 [.fz (a0.map (AV.int .u8))] H P := by
  refine acall_of gC (res := [.tmp 2, .tmp 3, .tmp 4]) (n := 20) rfl rfl rfl rfl fun K0 hK0 => ?_
  simp only [W, Nat.reduceSub, Nat.reduceAdd, List.replicate]
  unfold spec_DrawShapeFlow at h
  refine w_seq fun K1 hK1 => ?_
  refine w_reg gC ?_
  try simp only [W, Nat.reduceAdd]
  refine seq_n hK1 ?_
  refine w_seq fun K2 hK2 => ?_
  refine w_reg gC ?_
  try simp only [W, EE, Nat.reduceAdd]
  refine w_bld rfl rfl rfl rfl rfl ?_
  try simp only [W]
  refine w_box hS rfl rfl rfl rfl fun ip3 wp3 H hS => ?_
  try simp only [W]
  refine seq_n hK2 ?_
  refine w_seq fun K5 hK5 => ?_
  refine w_reg gC ?_
  try simp only [W, Nat.reduceAdd]
  refine w_call h fun b6 hb6 h => ?_
  obtain ⟨b7, b8, b9⟩ := b6
  try dsimp only at h
  refine spec_l1Cur_rate_w hb6 hS fun H hS => ?_
  try simp only [W]
  refine seq_n hK5 ?_
  refine w_seq fun K10 hK10 => ?_
  refine w_reg gC ?_
  try simp only [W, Nat.reduceAdd]
  refine w_call h fun b11 hb11 h => ?_
  obtain ⟨b12, b13⟩ := b11
  try dsimp only at h
  refine spec_l1Cur_flow_w hb11 hS fun v14 qv14 H hS => ?_
  try simp only [W]
  refine seq_n hK10 ?_
  refine w_ret ?_
  refine fin_r3 hK0 rfl rfl rfl ?_
  try obtain rfl := Option.some.inj h
  exact hP _ qv14 _ (hS.sel 2 [0] (by decide))
theorem impl_in_w {a0 : Int} {a1 : Int} {a2 : Int} {r : (Bool)} (h : impl_in a0 a1 a2 = some r) {F : List It} {H : Heap} (hS : Own H (F)) {P : AV → Heap → Prop} (hP : ∀ H', Own H' (F) → P (.bool r) H') : ACall C 147 [.int .i64 a0, .int .i64 a1, .int .i64 a2] H P := by
  refine acall_of gC (res := [.tmp 6]) (n := 15) rfl rfl rfl rfl fun K0 hK0 => ?_
  simp only [W, Nat.reduceSub, Nat.reduceAdd, List.replicate]
  unfold impl_in at h
  refine w_seq fun K1 hK1 => ?_
  refine w_reg gC ?_
  try simp only [W, Nat.reduceAdd]
  refine seq_n hK1 ?_
  refine w_seq fun K2 hK2 => ?_
  refine w_reg gC ?_
  try simp only [W, EE, Nat.reduceAdd]
  refine w_grdT h (fun hc h => ?_) (fun hc h => ?_)
  · try simp only [W, EE, reduceIte, hc]
    refine seq_n hK2 ?_
    refine w_ret ?_
    refine fin_r1 hK0 rfl ?_
    try obtain rfl := Option.some.inj h
    exact hP _ hS
  · try simp only [W, hc]
    refine seq_n hK2 ?_
    refine w_ret ?_
    refine fin_r1 hK0 rfl ?_
    try obtain rfl := Option.some.inj h
    exact hP _ hS
theorem impl_isRate_w {a0 : Int} {a1 : Int} {r : (Bool)} (h : impl_isRate a0 a1 = some r) {F : List It} {H : Heap} (hS : Own H (F)) {P : AV → Heap → Prop} (hP : ∀ H', Own H' (F) → P (.bool r) H') : ACall C 163 [.int .i64 a0, .int .i64 a1] H P := by
  refine acall_of gC (res := [.tmp 4]) (n := 11) rfl rfl rfl rfl fun K0 hK0 => ?_
  simp only [W, Nat.reduceSub, Nat.reduceAdd, List.replicate]
  unfold impl_isRate at h
  refine w_seq fun K1 hK1 => ?_
  refine w_reg gC ?_
  try simp only [W, Nat.reduceAdd]
  refine seq_n hK1 ?_
  refine w_seq fun K2 hK2 => ?_
  refine w_reg gC ?_
  try simp only [W, Nat.reduceAdd]
  refine w_call h fun b3 hb3 h => ?_
  refine impl_in_w hb3 hS fun H hS => ?_
  try simp only [W]
  refine w_grdT h (fun hc h => ?_) (fun hc h => ?_)
  · try simp only [W, hc]
    refine w_call h fun b4 hb4 h => ?_
    refine impl_in_w hb4 hS fun H hS => ?_
    try simp only [W, reduceIte]
    refine seq_n hK2 ?_
    refine w_ret ?_
    refine fin_r1 hK0 rfl ?_
    try obtain rfl := Option.some.inj h
    exact hP _ hS
  · try simp only [W, hc]
    refine seq_n hK2 ?_
    refine w_ret ?_
    refine fin_r1 hK0 rfl ?_
    try obtain rfl := Option.some.inj h
    exact hP _ hS
theorem impl_NewBucket_w {a0 : Int} {a1 : Int} {r : (Bucket × Bool)} (h : impl_NewBucket a0 a1 = some r) {F : List It} {H : Heap} (hS : Own H (F)) {P : AV → Heap → Prop} (hP : ∀ H', Own H' (F) → P (.tup [.agg [.int .i64 r.1.Rate, .int .i64 r.1.Depth, .int .i64 r.1.Has], .bool r.2]) H') : ACall C 35 [.int .i64 a0, .int .i64 a1] H P := by
  refine acall_of gC (res := [.cell 4 43, .tmp 5]) (n := 15) rfl rfl rfl rfl fun K0 hK0 => ?_
  simp only [W, Nat.reduceSub, Nat.reduceAdd, List.replicate]
  unfold impl_NewBucket at h
  refine w_seq fun K1 hK1 => ?_
  refine w_reg gC ?_
  try simp only [W, Nat.reduceAdd]
  refine w_alloc hS rfl rfl fun ip2 wp2 H hS => ?_
  try simp only [W]
  refine seq_n hK1 ?_
  refine w_seq fun K4 hK4 => ?_
  refine w_seq fun K5 hK5 => ?_
  refine w_reg gC ?_
  try simp only [W, Nat.reduceAdd]
  refine w_call h fun b6 hb6 h => ?_
  refine impl_isRate_w hb6 hS fun H hS => ?_
  try simp only [W]
  refine seq_n hK5 ?_
  refine w_if ?_
  simp only [W]
  refine w_cnd h (fun hc h => ?_) (fun hc h => ?_)
  · refine w_seq fun K7 hK7 => ?_
    refine w_reg gC ?_
    try simp only [W, EE, Nat.reduceAdd]
    refine w_bld rfl rfl rfl rfl rfl ?_
    try simp only [W]
    refine w_stv (a := .agg [.int .i64 0, .int .i64 0, .int .i64 0]) (y' := .agg [.int .i64 0, .int .i64 0, .int .i64 0]) 0 hS rfl rfl rfl rfl rfl rfl rfl rfl fun H hS => ?_
    try simp only [W]
    refine seq_n hK7 ?_
    refine w_ret ?_
    refine seq_r hK4 ?_
    refine fin_r hK0 (res_c rfl rfl (hS.var 0 rfl) rfl (res_tc rfl rfl)) ?_
    try obtain rfl := Option.some.inj h
    exact hP _ (hS.sel 1 [] (by decide))
  · refine w_skip ?_
    refine seq_n hK4 ?_
    refine w_seq fun K8 hK8 => ?_
    refine w_reg gC ?_
    try simp only [W, EE, Nat.reduceAdd]
    refine w_bld rfl rfl rfl rfl rfl ?_
    try simp only [W]
    refine w_stv (a := .agg [.int .i64 a0, .int .i64 a1, .int .i64 a1]) (y' := .agg [.int .i64 a0, .int .i64 a1, .int .i64 a1]) 0 hS rfl rfl rfl rfl rfl rfl rfl rfl fun H hS => ?_
    try simp only [W]
    refine seq_n hK8 ?_
    refine w_ret ?_
    refine fin_r hK0 (res_c rfl rfl (hS.var 0 rfl) rfl (res_tc rfl rfl)) ?_
    try obtain rfl := Option.some.inj h
    exact hP _ (hS.sel 1 [] (by decide))
theorem slices_IndexFunc_int_w {a0 : List Int} {g1 : Int → Option Bool} {f1 : FuncId} {c1 : List AV} {r : (Int)} (h : slices_IndexFunc_int a0 g1 = some r) {F : List It} {H : Heap} (hg1 : ∀ {x0 : Int} {r : Bool}, g1 x0 = some r → ∀ (L : List It) (n : Nat), L.drop n = F → ∀ (H : Heap), Own H L → ∀ (P : AV → Heap → Prop), (∀ H', Own H' L → P (.bool r) H') → ACall C f1 ([.int .i64 x0] ++ c1) H P) (hS : Own H (F)) {P : AV → Heap → Prop} (hP : ∀ H', Own H' (F) → P (.int .i64 r) H') : ACall C 255 [.fz (a0.map (AV.int .i64)), .fn f1 c1] H P := by
  refine acall_of gC (res := [.tmp 4]) (n := 19) rfl rfl rfl rfl fun K0 hK0 => ?_
  simp only [W, Nat.reduceSub, Nat.reduceAdd, List.replicate]
  unfold slices_IndexFunc_int at h
  refine w_seq fun K1 hK1 => ?_
  refine w_reg gC ?_
  try simp only [W, Nat.reduceAdd]
  refine seq_n hK1 ?_
  refine w_seq fun K2 hK2 => ?_
  refine w_seq fun K3 hK3 => ?_
  refine w_reg gC ?_
  try simp only [W, EE, Nat.reduceAdd]
  refine seq_n hK3 ?_
  obtain ⟨y5, hw6, g12⟩ := Option.bind_eq_some_iff.1 h
  refine w_join gC (fun s H => y5 = LR.next () ∧ s = [u, u, u, u, u, u, u, u, u, u, u, u, u, u, u, u, u, u, u] ∧ Own H (F)) (fun K7 hK7 => ?_) (fun s H hq => ?_)
  · refine w_blk fun K8 hK8 => ?_
    refine w_loop gC hw6 (fun x s H => s = [.fz (a0.map (AV.int .i64)), .fn f1 c1, u, u, u, u, u, .int .i64 (a0.length : Int), .int .i64 x, u, u, u, u, u, u, u, u, u, u] ∧ Own H (F)) ⟨rfl, hS⟩ (fun x4 y11 s H h hd10 hi K9 hK9 => ?_)
    skip
    try dsimp only at hi
    obtain ⟨rfl, hS⟩ := hi
    simp only [slices_IndexFunc_int_l0] at h
    refine w_seq fun K13 hK13 => ?_
    refine w_reg gC ?_
    try simp only [W, EE, Nat.reduceAdd]
    refine seq_n hK13 ?_
    refine w_seq fun K14 hK14 => ?_
    refine w_if ?_
    simp only [W]
    refine w_cnd h (fun hc h => ?_) (fun hc h => ?_)
    · refine w_skip ?_
      refine seq_n hK14 ?_
      refine w_seq fun K15 hK15 => ?_
      refine w_blk fun K16 hK16 => ?_
      refine w_seq fun K17 hK17 => ?_
      refine w_reg gC ?_
      try simp only [W, Nat.reduceAdd]
      refine seq_n hK17 ?_
      refine w_seq fun K18 hK18 => ?_
      refine w_reg gC ?_
      try simp only [W, EE, Nat.reduceAdd]
      refine w_fz rfl rfl rfl (fun _ => rfl) h fun b19 hb19 h => ?_
      try simp only [W, EE]
      refine w_call h fun b20 hb20 h => ?_
      refine hg1 hb20 _ 0 rfl _ hS _ fun H hS => ?_
      try simp only [W]
      refine seq_n hK18 ?_
      refine w_if ?_
      simp only [W]
      refine w_cnd h (fun hc h => ?_) (fun hc h => ?_)
      · refine w_seq fun K21 hK21 => ?_
        refine w_reg gC ?_
        try simp only [W, Nat.reduceAdd]
        refine seq_n hK21 ?_
        refine w_ret ?_
        refine blk_r hK16 ?_
        refine seq_r hK15 ?_
        try obtain rfl := Option.some.inj h
        obtain rfl := hd10 _ rfl
        have h : (some (LR.done x4) : Option (LR Unit (Int))) = some (LR.done x4) := rfl
        refine lp_r hK9 ?_
        refine blk_r hK8 ?_
        try obtain rfl := Option.some.inj h
        obtain rfl := Option.some.inj g12
        have h : (some x4 : Option (Int)) = some x4 := rfl
        refine cut_r hK7 ?_
        refine seq_r hK2 ?_
        refine fin_r1 hK0 rfl ?_
        try obtain rfl := Option.some.inj h
        exact hP _ hS
      · refine w_skip ?_
        refine blk_n0 hK16 ?_
        refine seq_n hK15 ?_
        refine w_reg gC ?_
        try simp only [W, EE, Nat.reduceAdd]
        exact lp_n hK9 h ⟨rfl, hS⟩
    · refine w_exit ?_
      refine seq_x hK14 ?_
      try obtain rfl := Option.some.inj h
      obtain rfl := hd10 _ rfl
      have h : (some (LR.next ()) : Option (LR Unit (Int))) = some (LR.next ()) := rfl
      refine lp_x hK9 ?_
      refine blk_e hK8 ?_
      exact cut_n hK7 ⟨(Option.some.inj h).symm, rfl, hS⟩
  · obtain ⟨rfl, rfl, hS⟩ := hq
    replace h := g12
    try dsimp only at h
    refine seq_n hK2 ?_
    refine w_seq fun K28 hK28 => ?_
    refine w_reg gC ?_
    try simp only [W, Nat.reduceAdd]
    refine seq_n hK28 ?_
    refine w_ret ?_
    refine fin_r1 hK0 rfl ?_
    try obtain rfl := Option.some.inj h
    exact hP _ hS
theorem slices_ContainsFunc_int_w {a0 : List Int} {g1 : Int → Option Bool} {f1 : FuncId} {c1 : List AV} {r : (Bool)} (h : slices_ContainsFunc_int a0 g1 = some r) {F : List It} {H : Heap} (hg1 : ∀ {x0 : Int} {r : Bool}, g1 x0 = some r → ∀ (L : List It) (n : Nat), L.drop n = F → ∀ (H : Heap), Own H L → ∀ (P : AV → Heap → Prop), (∀ H', Own H' L → P (.bool r) H') → ACall C f1 ([.int .i64 x0] ++ c1) H P) (hS : Own H (F)) {P : AV → Heap → Prop} (hP : ∀ H', Own H' (F) → P (.bool r) H') : ACall C 145 [.fz (a0.map (AV.int .i64)), .fn f1 c1] H P := by
  refine acall_of gC (res := [.tmp 4]) (n := 9) rfl rfl rfl rfl fun K0 hK0 => ?_
  simp only [W, Nat.reduceSub, Nat.reduceAdd, List.replicate]
  unfold slices_ContainsFunc_int at h
  refine w_seq fun K1 hK1 => ?_
  refine w_reg gC ?_
  try simp only [W, Nat.reduceAdd]
  refine seq_n hK1 ?_
  refine w_seq fun K2 hK2 => ?_
  refine w_reg gC ?_
  try simp only [W, Nat.reduceAdd]
  refine w_call h fun b3 hb3 h => ?_
  refine slices_IndexFunc_int_w hb3 hg1 hS fun H hS => ?_
  try simp only [W, EE]
  refine seq_n hK2 ?_
  refine w_ret ?_
  refine fin_r1 hK0 rfl ?_
  try obtain rfl := Option.some.inj h
  exact hP _ hS
theorem impl_isFlow_1_w {a0 : Int} {r : (Bool)} (h : impl_isFlow_1 a0 = some r) {F : List It} {H : Heap} (hS : Own H (F)) {P : AV → Heap → Prop} (hP : ∀ H', Own H' (F) → P (.bool r) H') : ACall C 256 [.int .i64 a0] H P := by
  refine acall_of gC (res := [.tmp 2]) (n := 6) rfl rfl rfl rfl fun K0 hK0 => ?_
  simp only [W, Nat.reduceSub, Nat.reduceAdd, List.replicate]
  unfold impl_isFlow_1 at h
  refine w_seq fun K1 hK1 => ?_
  refine w_reg gC ?_
  try simp only [W, Nat.reduceAdd]
  refine seq_n hK1 ?_
  refine w_seq fun K2 hK2 => ?_
  refine w_reg gC ?_
  try simp only [W, Nat.reduceAdd]
  refine w_call h fun b3 hb3 h => ?_
  refine impl_in_w hb3 hS fun H hS => ?_
  try simp only [W]
  refine seq_n hK2 ?_
  refine w_ret ?_
  refine fin_r1 hK0 rfl ?_
  try obtain rfl := Option.some.inj h
  exact hP _ hS
theorem impl_isFlow_w {a0 : List Int} {r : (Bool)} (h : impl_isFlow a0 = some r) {F : List It} {H : Heap} (hS : Own H (F)) {P : AV → Heap → Prop} (hP : ∀ H', Own H' (F) → P (.bool r) H') : ACall C 157 [.fz (a0.map (AV.int .i64))] H P := by
  refine acall_of gC (res := [.tmp 2]) (n := 11) rfl rfl rfl rfl fun K0 hK0 => ?_
  simp only [W, Nat.reduceSub, Nat.reduceAdd, List.replicate]
  unfold impl_isFlow at h
  refine w_seq fun K1 hK1 => ?_
  refine w_reg gC ?_
  try simp only [W, Nat.reduceAdd]
  refine seq_n hK1 ?_
  refine w_seq fun K2 hK2 => ?_
  refine w_reg gC ?_
  try simp only [W, EE, Nat.reduceAdd]
  refine w_grdT h (fun hc h => ?_) (fun hc h => ?_)
  · try simp only [W, hc]
    refine w_call h fun b3 hb3 h => ?_
    refine slices_ContainsFunc_int_w hb3 (fun h _ n hL _ hS _ hP => impl_isFlow_1_w h hS hP) hS fun H hS => ?_
    try simp only [W, reduceIte]
    refine seq_n hK2 ?_
    refine w_ret ?_
    refine fin_r1 hK0 rfl ?_
    try obtain rfl := Option.some.inj h
    exact hP _ hS
  · try simp only [W, hc]
    refine seq_n hK2 ?_
    refine w_ret ?_
    refine fin_r1 hK0 rfl ?_
    try obtain rfl := Option.some.inj h
    exact hP _ hS
theorem impl_GoodBucket_w {a0 : Bucket} {r : (Bool)} (h : impl_GoodBucket a0 = some r) {F : List It} {H : Heap} (hS : Own H (F)) {P : AV → Heap → Prop} (hP : ∀ H', Own H' (F) → P (.bool r) H') : ACall C 37 [.agg [.int .i64 a0.Rate, .int .i64 a0.Depth, .int .i64 a0.Has]] H P := by
  refine acall_of gC (res := [.tmp 2]) (n := 15) rfl rfl rfl rfl fun K0 hK0 => ?_
  simp only [W, Nat.reduceSub, Nat.reduceAdd, List.replicate]
  unfold impl_GoodBucket at h
  refine w_seq fun K1 hK1 => ?_
  refine w_reg gC ?_
  try simp only [W, Nat.reduceAdd]
  refine w_box hS rfl rfl rfl rfl fun ip2 wp2 H hS => ?_
  try simp only [W]
  refine seq_n hK1 ?_
  refine w_seq fun K4 hK4 => ?_
  refine w_reg gC ?_
  try simp only [W, EE, Nat.reduceAdd, Nat.reduceBEq, hS.var 0 rfl]
  refine w_call h fun b5 hb5 h => ?_
  refine impl_isRate_w hb5 hS fun H hS => ?_
  try simp only [W]
  refine w_grdT h (fun hc h => ?_) (fun hc h => ?_)
  · try simp only [W, EE, Nat.reduceAdd, Nat.reduceBEq, hS.var 0 rfl, hc]
    refine w_call h fun b6 hb6 h => ?_
    refine impl_in_w hb6 hS fun H hS => ?_
    try simp only [W, reduceIte]
    refine seq_n hK4 ?_
    refine w_ret ?_
    refine fin_r1 hK0 rfl ?_
    try obtain rfl := Option.some.inj h
    exact hP _ (hS.sel 1 [] (by decide))
  · try simp only [W, hc]
    refine seq_n hK4 ?_
    refine w_ret ?_
    refine fin_r1 hK0 rfl ?_
    try obtain rfl := Option.some.inj h
    exact hP _ (hS.sel 1 [] (by decide))
theorem impl_TickBucket_w {a0 : Bucket} {r : (Bucket × Bool)} (h : impl_TickBucket a0 = some r) {F : List It} {H : Heap} (hS : Own H (F)) {P : AV → Heap → Prop} (hP : ∀ H', Own H' (F) → P (.tup [.agg [.int .i64 r.1.Rate, .int .i64 r.1.Depth, .int .i64 r.1.Has], .bool r.2]) H') : ACall C 29 [.agg [.int .i64 a0.Rate, .int .i64 a0.Depth, .int .i64 a0.Has]] H P := by
  refine acall_of gC (res := [.cell 2 43, .tmp 3]) (n := 18) rfl rfl rfl rfl fun K0 hK0 => ?_
  simp only [W, Nat.reduceSub, Nat.reduceAdd, List.replicate]
  unfold impl_TickBucket at h
  refine w_seq fun K1 hK1 => ?_
  refine w_reg gC ?_
  try simp only [W, Nat.reduceAdd]
  refine w_box hS rfl rfl rfl rfl fun ip2 wp2 H hS => ?_
  try simp only [W]
  refine w_alloc hS rfl rfl fun ip4 wp4 H hS => ?_
  try simp only [W]
  refine seq_n hK1 ?_
  refine w_seq fun K6 hK6 => ?_
  refine w_seq fun K7 hK7 => ?_
  refine w_reg gC ?_
  try simp only [W, EE, reduceIte, Nat.reduceAdd, Nat.reduceLeDiff, hS.var 1 rfl]
  refine w_call h fun b8 hb8 h => ?_
  refine impl_GoodBucket_w hb8 hS fun H hS => ?_
  try simp only [W]
  refine seq_n hK7 ?_
  refine w_if ?_
  simp only [W]
  refine w_cnd h (fun hc h => ?_) (fun hc h => ?_)
  · refine w_seq fun K9 hK9 => ?_
    refine w_reg gC ?_
    try simp only [W, EE, Nat.reduceAdd]
    refine w_bld rfl rfl rfl rfl rfl ?_
    try simp only [W]
    refine w_stv (a := .agg [.int .i64 0, .int .i64 0, .int .i64 0]) (y' := .agg [.int .i64 0, .int .i64 0, .int .i64 0]) 0 hS rfl rfl rfl rfl rfl rfl rfl rfl fun H hS => ?_
    try simp only [W]
    refine seq_n hK9 ?_
    refine w_ret ?_
    refine seq_r hK6 ?_
    refine fin_r hK0 (res_c rfl rfl (hS.var 0 rfl) rfl (res_tc rfl rfl)) ?_
    try obtain rfl := Option.some.inj h
    exact hP _ (hS.sel 2 [] (by decide))
  · refine w_skip ?_
    refine seq_n hK6 ?_
    refine w_seq fun K10 hK10 => ?_
    refine w_reg gC ?_
    try simp only [W, EE, Nat.reduceAdd, Nat.reduceBEq, hS.var 1 rfl]
    refine w_stv (a := .int .i64 (if a0.Depth < (IntKind.i64.wrap (a0.Has + a0.Rate)) then a0.Depth else (IntKind.i64.wrap (a0.Has + a0.Rate)))) (y' := .agg [.int .i64 a0.Rate, .int .i64 a0.Depth, .int .i64 (if a0.Depth < (IntKind.i64.wrap (a0.Has + a0.Rate)) then a0.Depth else (IntKind.i64.wrap (a0.Has + a0.Rate)))]) 1 hS rfl rfl rfl rfl rfl rfl rfl rfl fun H hS => ?_
    try simp only [W]
    refine seq_n hK10 ?_
    refine w_seq fun K11 hK11 => ?_
    refine w_reg gC ?_
    try simp only [W, EE, reduceIte, Nat.reduceAdd, Nat.reduceLeDiff, hS.var 1 rfl]
    refine w_stv (a := .agg [.int .i64 a0.Rate, .int .i64 a0.Depth, .int .i64 (if a0.Depth < (IntKind.i64.wrap (a0.Has + a0.Rate)) then a0.Depth else (IntKind.i64.wrap (a0.Has + a0.Rate)))]) (y' := .agg [.int .i64 a0.Rate, .int .i64 a0.Depth, .int .i64 (if a0.Depth < (IntKind.i64.wrap (a0.Has + a0.Rate)) then a0.Depth else (IntKind.i64.wrap (a0.Has + a0.Rate)))]) 0 hS rfl rfl rfl rfl rfl rfl rfl rfl fun H hS => ?_
    try simp only [W]
    refine seq_n hK11 ?_
    refine w_ret ?_
    refine fin_r hK0 (res_c rfl rfl (hS.var 0 rfl) rfl (res_tc rfl rfl)) ?_
    try obtain rfl := Option.some.inj h
    exact hP _ (hS.sel 2 [] (by decide))
theorem impl_ShapeFlow_1_w {a0 : Int} {a1 : Int} {a2 : Bucket} {i2 : Nat} {w2 : Nat} {r : (Int × Bucket)} (h : impl_ShapeFlow_1 a0 a1 a2 = some r) {F : List It} {H : Heap} (hS : Own H (⟨.ptr i2 w2 0 0, 3, [.agg [.int .i64 a2.Rate, .int .i64 a2.Depth, .int .i64 a2.Has]]⟩ :: F)) {P : AV → Heap → Prop} (hP : ∀ H', Own H' (⟨.ptr i2 w2 0 0, 3, [.agg [.int .i64 r.2.Rate, .int .i64 r.2.Depth, .int .i64 r.2.Has]]⟩ :: F) → P (.int .i64 r.1) H') : ACall C 159 [.int .i64 a0, .int .i64 a1, .ptr i2 w2 0 0] H P := by
  refine acall_of gC (res := [.tmp 5]) (n := 24) rfl rfl rfl rfl fun K0 hK0 => ?_
  simp only [W, Nat.reduceSub, Nat.reduceAdd, List.replicate]
  unfold impl_ShapeFlow_1 at h
  refine w_seq fun K1 hK1 => ?_
  refine w_reg gC ?_
  try simp only [W, Nat.reduceAdd]
  refine seq_n hK1 ?_
  refine w_seq fun K2 hK2 => ?_
  refine w_seq fun K3 hK3 => ?_
  refine w_reg gC ?_
  try simp only [W, EE, Nat.reduceAdd]
  refine seq_n hK3 ?_
  obtain ⟨y7, h, g8⟩ := Option.bind_eq_some_iff.1 h
  refine w_join gC (fun s H => ∃ x4 : Int, ∃ x5 : Int, ∃ x6 : Int, y7 = (x4, x5, x6) ∧ s = [u, .int .i64 a1, .ptr i2 w2 0 0, u, u, u, u, u, u, u, u, u, u, u, u, u, u, u, u, u, u, u, u, u] ∧ Own H (⟨.ptr i2 w2 0 0, 3, [.agg [.int .i64 x4, .int .i64 x5, .int .i64 x6]]⟩ :: F)) (fun K9 hK9 => ?_) (fun s H hq => ?_)
  · refine w_seq fun K10 hK10 => ?_
    refine w_if ?_
    simp only [W]
    refine w_cnd h (fun hc h => ?_) (fun hc h => ?_)
    · refine w_reg gC ?_
      try simp only [W, EE, reduceIte, Nat.reduceAdd, Nat.reduceLeDiff, hS.var 0 rfl]
      refine w_call h fun b11 hb11 h => ?_
      obtain ⟨b12, b13⟩ := b11
      try dsimp only at h
      refine impl_TickBucket_w hb11 hS fun H hS => ?_
      try simp only [W]
      refine w_stv (a := .agg [.int .i64 b12.Rate, .int .i64 b12.Depth, .int .i64 b12.Has]) (y' := .agg [.int .i64 b12.Rate, .int .i64 b12.Depth, .int .i64 b12.Has]) 0 hS rfl rfl rfl rfl rfl rfl rfl rfl fun H hS => ?_
      try simp only [W]
      refine seq_n hK10 ?_
      refine w_kill ?_
      exact cut_n hK9 ⟨_, _, _, (Option.some.inj h).symm, rfl, hS⟩
    · refine w_skip ?_
      refine seq_n hK10 ?_
      refine w_kill ?_
      exact cut_n hK9 ⟨_, _, _, (Option.some.inj h).symm, rfl, hS⟩
  · obtain ⟨x4, x5, x6, rfl, rfl, hS⟩ := hq
    replace h := g8
    try dsimp only at h
    refine seq_n hK2 ?_
    refine w_seq fun K14 hK14 => ?_
    refine w_reg gC ?_
    try simp only [W, EE, Nat.reduceAdd, Nat.reduceBEq, hS.var 0 rfl]
    refine seq_n hK14 ?_
    refine w_seq fun K15 hK15 => ?_
    refine w_reg gC ?_
    try simp only [W, EE, Nat.reduceAdd, Nat.reduceBEq, hS.var 0 rfl]
    refine w_stv (a := .int .i64 (IntKind.i64.wrap (x6 - (if x6 < a1 then x6 else a1)))) (y' := .agg [.int .i64 x4, .int .i64 x5, .int .i64 (IntKind.i64.wrap (x6 - (if x6 < a1 then x6 else a1)))]) 0 hS rfl rfl rfl rfl rfl rfl rfl rfl fun H hS => ?_
    try simp only [W]
    refine seq_n hK15 ?_
    refine w_seq fun K16 hK16 => ?_
    refine w_reg gC ?_
    try simp only [W, Nat.reduceAdd]
    refine seq_n hK16 ?_
    refine w_ret ?_
    refine fin_r1 hK0 rfl ?_
    try obtain rfl := Option.some.inj h
    exact hP _ hS
theorem impl_serve__impl_ShapeFlow_1_w {a0 : List Int} {a2 : Bucket} {i2 : Nat} {w2 : Nat} {r : (List Int × List Int × Bool × Bucket)} (h : impl_serve__impl_ShapeFlow_1 a0 a2 = some r) {F : List It} {H : Heap} (hS : Own H (⟨.ptr i2 w2 0 0, 3, [.agg [.int .i64 a2.Rate, .int .i64 a2.Depth, .int .i64 a2.Has]]⟩ :: F)) {P : AV → Heap → Prop} (hP : ∀ v56 : AV, isSl v56 → ∀ v58 : AV, isSl v58 → ∀ H', Own H' (⟨v56, 1, r.1.map (AV.int .i64)⟩ :: ⟨v58, 1, r.2.1.map (AV.int .i64)⟩ :: ⟨.ptr i2 w2 0 0, 3, [.agg [.int .i64 r.2.2.2.Rate, .int .i64 r.2.2.2.Depth, .int .i64 r.2.2.2.Has]]⟩ :: F) → P (.tup [v56, v58, .bool r.2.2.1]) H') : ACall C 158 [.fz (a0.map (AV.int .i64)), .fn 159 [.ptr i2 w2 0 0]] H P := by
  refine acall_of gC (res := [.tmp 4, .tmp 5, .tmp 6]) (n := 43) rfl rfl rfl rfl fun K0 hK0 => ?_
  simp only [W, Nat.reduceSub, Nat.reduceAdd, List.replicate]
  unfold impl_serve__impl_ShapeFlow_1 at h
  refine w_seq fun K1 hK1 => ?_
  refine w_reg gC ?_
  try simp only [W, Nat.reduceAdd]
  refine seq_n hK1 ?_
  refine w_seq fun K2 hK2 => ?_
  refine w_reg gC ?_
  try simp only [W, Nat.reduceAdd]
  refine w_lit0 rfl rfl ?_
  try simp only [W]
  refine w_lit0 rfl rfl ?_
  try simp only [W]
  refine seq_n hK2 ?_
  refine w_seq fun K3 hK3 => ?_
  refine w_seq fun K4 hK4 => ?_
  refine w_reg gC ?_
  try simp only [W, EE, Nat.reduceAdd]
  refine seq_n hK4 ?_
  obtain ⟨y23, hw24, g30⟩ := Option.bind_eq_some_iff.1 h
  refine w_join gC (fun s H => ∃ x16 : List Int, ∃ x18 : List Int, ∃ x20 : Int, ∃ x21 : Int, ∃ x22 : Int, y23 = (x16, x18, x20, x21, x22) ∧ ∃ v17 : AV, isSl v17 ∧ ∃ v19 : AV, isSl v19 ∧ s = [u, u, u, u, u, u, u, v17, v19, u, u, u, u, u, u, u, u, u, u, u, u, u, u, u, u, u, u, u, u, u, u, u, u, u, u, u, u, u, u, u, u, u, u] ∧ Own H (⟨v17, 1, x16.map (AV.int .i64)⟩ :: ⟨v19, 1, x18.map (AV.int .i64)⟩ :: ⟨.ptr i2 w2 0 0, 3, [.agg [.int .i64 x20, .int .i64 x21, .int .i64 x22]]⟩ :: F)) (fun K25 hK25 => ?_) (fun s H hq => ?_)
  · refine w_blk fun K26 hK26 => ?_
    refine w_loop gC hw24 (fun x s H => match x with | (x5, x8, x11, x12, x13, x14, x15) => ∃ v6 : AV, isSl v6 ∧ ∃ v9 : AV, isSl v9 ∧ s = [u, .fn 159 [.ptr i2 w2 0 0], u, u, u, u, u, v6, v9, .int .i64 x11, u, u, u, u, u, .fz (a0.map (AV.int .i64)), .int .i64 (a0.length : Int), .int .i64 x12, u, u, u, u, u, u, u, u, u, u, u, u, u, u, u, u, u, u, u, u, u, u, u, u, u] ∧ Own H (⟨v6, 1, x5.map (AV.int .i64)⟩ :: ⟨v9, 1, x8.map (AV.int .i64)⟩ :: ⟨.ptr i2 w2 0 0, 3, [.agg [.int .i64 x13, .int .i64 x14, .int .i64 x15]]⟩ :: F)) ⟨_, isSl_e0, _, isSl_e0, rfl, ((hS.e0_ 1).e0_ 1)⟩ (fun x y29 s H h hd28 hi K27 hK27 => ?_)
    obtain ⟨x5, x8, x11, x12, x13, x14, x15⟩ := x
    try dsimp only at hi
    obtain ⟨v6, qv6, v9, qv9, rfl, hS⟩ := hi
    simp only [impl_serve__impl_ShapeFlow_1_l0] at h
    refine w_seq fun K31 hK31 => ?_
    refine w_reg gC ?_
    try simp only [W, EE, Nat.reduceAdd]
    refine seq_n hK31 ?_
    refine w_seq fun K32 hK32 => ?_
    refine w_if ?_
    simp only [W]
    refine w_cnd h (fun hc h => ?_) (fun hc h => ?_)
    · refine w_skip ?_
      refine seq_n hK32 ?_
      refine w_seq fun K33 hK33 => ?_
      refine w_blk fun K34 hK34 => ?_
      refine w_seq fun K35 hK35 => ?_
      refine w_reg gC ?_
      try simp only [W, EE, Nat.reduceAdd]
      refine w_fz rfl rfl rfl (fun _ => rfl) h fun b36 hb36 h => ?_
      try simp only [W, EE]
      refine seq_n hK35 ?_
      refine w_seq fun K37 hK37 => ?_
      refine w_reg gC ?_
      try simp only [W, EE, Nat.reduceAdd]
      refine seq_n hK37 ?_
      refine w_seq fun K38 hK38 => ?_
      refine w_reg gC ?_
      try simp only [W, Nat.reduceAdd]
      refine w_call h fun b39 hb39 h => ?_
      obtain ⟨b40, b41⟩ := b39
      try dsimp only at h
      refine impl_ShapeFlow_1_w hb39 (hS.sel 3 [2, 0, 1] (by decide)) fun H hS => ?_
      try simp only [W]
      refine seq_n hK38 ?_
      refine w_seq fun K42 hK42 => ?_
      refine w_reg gC ?_
      try simp only [W, EE, Nat.reduceAdd]
      refine seq_n hK42 ?_
      refine w_reg gC ?_
      try simp only [W, Nat.reduceAdd]
      refine w_lit (el := ([b40] : List Int).map (AV.int .i64)) hS rfl rfl rfl rfl rfl rfl rfl fun v43 H qv43 hS => ?_
      try simp only [W, EE]
      refine w_appV (l := x5) (c := (AV.int .i64)) 2 hS rfl qv6 rfl rfl rfl (hS.elems 0 rfl qv43) (fun _ => rfl) rfl h fun v46 H x45 qv46 hm h hS => ?_
      try simp only [W]
      refine w_lit (el := ([(IntKind.i64.wrap ((IntKind.i64.wrap (x11 + b36)) - b40))] : List Int).map (AV.int .i64)) hS rfl rfl rfl rfl rfl rfl rfl fun v48 H qv48 hS => ?_
      try simp only [W, EE]
      refine w_appV (l := x8) (c := (AV.int .i64)) 4 hS rfl qv9 rfl rfl rfl (hS.elems 0 rfl qv48) (fun _ => rfl) rfl h fun v51 H x50 qv51 hm h hS => ?_
      try simp only [W]
      refine blk_n0 hK34 ?_
      refine seq_n hK33 ?_
      refine w_reg gC ?_
      try simp only [W, EE, Nat.reduceAdd]
      exact lp_n hK27 h ⟨_, qv46, _, qv51, rfl, (hS.sel 5 [3, 4, 2] (by decide))⟩
    · refine w_exit ?_
      refine seq_x hK32 ?_
      try obtain rfl := Option.some.inj h
      obtain rfl := hd28 _ rfl
      have h : (some (x5, x8, x13, x14, x15) : Option ((List Int) × (List Int) × Int × Int × Int)) = some (x5, x8, x13, x14, x15) := rfl
      refine lp_x hK27 ?_
      refine blk_e hK26 ?_
      exact cut_n hK25 ⟨_, _, _, _, _, (Option.some.inj h).symm, _, qv6, _, qv9, rfl, hS⟩
  · obtain ⟨x16, x18, x20, x21, x22, rfl, v17, qv17, v19, qv19, rfl, hS⟩ := hq
    replace h := g30
    try dsimp only at h
    refine seq_n hK3 ?_
    refine w_seq fun K55 hK55 => ?_
    refine w_reg gC ?_
    try simp only [W, Nat.reduceAdd]
    refine seq_n hK55 ?_
    refine w_ret ?_
    refine fin_r3 hK0 rfl rfl rfl ?_
    try obtain rfl := Option.some.inj h
    exact hP _ qv17 _ qv19 _ hS
theorem impl_ShapeFlow_w {a0 : Int} {a1 : Int} {a2 : List Int} {r : (List Int × List Int × Bool)} (h : impl_ShapeFlow a0 a1 a2 = some r) {F : List It} {H : Heap} (hS : Own H (F)) {P : AV → Heap → Prop} (hP : ∀ v27 : AV, isSl v27 → ∀ v29 : AV, isSl v29 → ∀ H', Own H' (⟨v27, 1, r.1.map (AV.int .i64)⟩ :: ⟨v29, 1, r.2.1.map (AV.int .i64)⟩ :: F) → P (.tup [v27, v29, .bool r.2.2]) H') : ACall C 24 [.int .i64 a0, .int .i64 a1, .fz (a2.map (AV.int .i64))] H P := by
  refine acall_of gC (res := [.tmp 6, .tmp 7, .tmp 8]) (n := 30) rfl rfl rfl rfl fun K0 hK0 => ?_
  simp only [W, Nat.reduceSub, Nat.reduceAdd, List.replicate]
  unfold impl_ShapeFlow at h
  refine w_seq fun K1 hK1 => ?_
  refine w_reg gC ?_
  try simp only [W, Nat.reduceAdd]
  refine seq_n hK1 ?_
  refine w_seq fun K2 hK2 => ?_
  refine w_reg gC ?_
  try simp only [W, Nat.reduceAdd]
  refine w_call h fun b3 hb3 h => ?_
  obtain ⟨b4, b5⟩ := b3
  try dsimp only at h
  refine impl_NewBucket_w hb3 hS fun H hS => ?_
  try simp only [W]
  refine w_alloc hS rfl rfl fun ip6 wp6 H hS => ?_
  try simp only [W]
  refine w_stv (a := .agg [.int .i64 b4.Rate, .int .i64 b4.Depth, .int .i64 b4.Has]) (y' := .agg [.int .i64 b4.Rate, .int .i64 b4.Depth, .int .i64 b4.Has]) 0 hS rfl rfl rfl rfl rfl rfl rfl rfl fun H hS => ?_
  try simp only [W]
  refine seq_n hK2 ?_
  refine w_seq fun K8 hK8 => ?_
  refine w_seq fun K9 hK9 => ?_
  obtain ⟨y11, h, g12⟩ := Option.bind_eq_some_iff.1 h
  refine w_join gC (fun s H => ∃ x10 : Bool, y11 = (x10) ∧ s = [u, u, .fz (a2.map (AV.int .i64)), u, u, u, u, u, u, .ptr ip6 wp6 0 0, u, u, u, u, u, u, u, u, u, u, u, u, u, .bool x10, u, u, u, u, u, u] ∧ Own H (⟨.ptr ip6 wp6 0 0, 3, [.agg [.int .i64 b4.Rate, .int .i64 b4.Depth, .int .i64 b4.Has]]⟩ :: F)) (fun K13 hK13 => ?_) (fun s H hq => ?_)
  · refine w_seq fun K14 hK14 => ?_
    refine w_reg gC ?_
    try simp only [W, Nat.reduceAdd]
    refine w_grdT h (fun hc h => ?_) (fun hc h => ?_)
    · try simp only [W, hc]
      refine seq_n hK14 ?_
      refine w_kill ?_
      exact cut_n hK13 ⟨_, (Option.some.inj h).symm, rfl, hS⟩
    · try simp only [W, hc]
      refine w_call h fun b15 hb15 h => ?_
      refine impl_isFlow_w hb15 hS fun H hS => ?_
      try simp only [W, reduceIte, Bool.false_eq_true]
      refine seq_n hK14 ?_
      refine w_kill ?_
      exact cut_n hK13 ⟨_, (Option.some.inj h).symm, rfl, hS⟩
  · obtain ⟨x10, ey, rfl, hS⟩ := hq; obtain rfl := ey.symm
    replace h := g12
    try dsimp only at h
    refine seq_n hK9 ?_
    refine w_if ?_
    simp only [W]
    refine w_cnd h (fun hc h => ?_) (fun hc h => ?_)
    · refine w_seq fun K16 hK16 => ?_
      refine w_reg gC ?_
      try simp only [W, Nat.reduceAdd]
      refine seq_n hK16 ?_
      refine w_ret ?_
      refine seq_r hK8 ?_
      refine fin_r3 hK0 rfl rfl rfl ?_
      try obtain rfl := Option.some.inj h
      exact hP _ isSl_nil _ isSl_nil _ (((hS.nil_ 1).nil_ 1).sel 3 [0, 1] (by decide))
    · refine w_skip ?_
      refine seq_n hK8 ?_
      refine w_seq fun K17 hK17 => ?_
      refine w_reg gC ?_
      try simp only [W, Nat.reduceAdd]
      refine w_call h fun b18 hb18 h => ?_
      obtain ⟨b19, b20, b21, b22⟩ := b18
      try dsimp only at h
      refine impl_serve__impl_ShapeFlow_1_w hb18 hS fun v23 qv23 v25 qv25 H hS => ?_
      try simp only [W]
      refine seq_n hK17 ?_
      refine w_ret ?_
      refine fin_r3 hK0 rfl rfl rfl ?_
      try obtain rfl := Option.some.inj h
      exact hP _ qv23 _ qv25 _ (hS.sel 3 [0, 1] (by decide))
theorem spec_l1In_w {a0 : Int} {a1 : Int} {a2 : Int} {r : (Bool)} (h : spec_l1In a0 a1 a2 = some r) {F : List It} {H : Heap} (hS : Own H (F)) {P : AV → Heap → Prop} (hP : ∀ H', Own H' (F) → P (.bool r) H') : ACall C 153 [.int .i64 a0, .int .i64 a1, .int .i64 a2] H P := by
  refine acall_of gC (res := [.tmp 6]) (n := 15) rfl rfl rfl rfl fun K0 hK0 => ?_
  simp only [W, Nat.reduceSub, Nat.reduceAdd, List.replicate]
  unfold spec_l1In at h
  refine w_seq fun K1 hK1 => ?_
  refine w_reg gC ?_
  try simp only [W, Nat.reduceAdd]
  refine seq_n hK1 ?_
  refine w_seq fun K2 hK2 => ?_
  refine w_reg gC ?_
  try simp only [W, EE, Nat.reduceAdd]
  refine w_grdT h (fun hc h => ?_) (fun hc h => ?_)
  · try simp only [W, EE, reduceIte, hc]
    refine seq_n hK2 ?_
    refine w_ret ?_
    refine fin_r1 hK0 rfl ?_
    try obtain rfl := Option.some.inj h
    exact hP _ hS
  · try simp only [W, hc]
    refine seq_n hK2 ?_
    refine w_ret ?_
    refine fin_r1 hK0 rfl ?_
    try obtain rfl := Option.some.inj h
    exact hP _ hS
theorem spec_l7Rate_w {a0 : Int} {a1 : Int} {r : (Bool)} (h : spec_l7Rate a0 a1 = some r) {F : List It} {H : Heap} (hS : Own H (F)) {P : AV → Heap → Prop} (hP : ∀ H', Own H' (F) → P (.bool r) H') : ACall C 164 [.int .i64 a0, .int .i64 a1] H P := by
  refine acall_of gC (res := [.tmp 4]) (n := 11) rfl rfl rfl rfl fun K0 hK0 => ?_
  simp only [W, Nat.reduceSub, Nat.reduceAdd, List.replicate]
  unfold spec_l7Rate at h
  refine w_seq fun K1 hK1 => ?_
  refine w_reg gC ?_
  try simp only [W, Nat.reduceAdd]
  refine seq_n hK1 ?_
  refine w_seq fun K2 hK2 => ?_
  refine w_reg gC ?_
  try simp only [W, Nat.reduceAdd]
  refine w_call h fun b3 hb3 h => ?_
  refine spec_l1In_w hb3 hS fun H hS => ?_
  try simp only [W]
  refine w_grdT h (fun hc h => ?_) (fun hc h => ?_)
  · try simp only [W, hc]
    refine w_call h fun b4 hb4 h => ?_
    refine spec_l1In_w hb4 hS fun H hS => ?_
    try simp only [W, reduceIte]
    refine seq_n hK2 ?_
    refine w_ret ?_
    refine fin_r1 hK0 rfl ?_
    try obtain rfl := Option.some.inj h
    exact hP _ hS
  · try simp only [W, hc]
    refine seq_n hK2 ?_
    refine w_ret ?_
    refine fin_r1 hK0 rfl ?_
    try obtain rfl := Option.some.inj h
    exact hP _ hS
theorem spec_NewBucket_w {a0 : Int} {a1 : Int} {r : (Bucket × Bool)} (h : spec_NewBucket a0 a1 = some r) {F : List It} {H : Heap} (hS : Own H (F)) {P : AV → Heap → Prop} (hP : ∀ H', Own H' (F) → P (.tup [.agg [.int .i64 r.1.Rate, .int .i64 r.1.Depth, .int .i64 r.1.Has], .bool r.2]) H') : ACall C 36 [.int .i64 a0, .int .i64 a1] H P := by
  refine acall_of gC (res := [.cell 4 43, .tmp 5]) (n := 15) rfl rfl rfl rfl fun K0 hK0 => ?_
  simp only [W, Nat.reduceSub, Nat.reduceAdd, List.replicate]
  unfold spec_NewBucket at h
  refine w_seq fun K1 hK1 => ?_
  refine w_reg gC ?_
  try simp only [W, Nat.reduceAdd]
  refine w_alloc hS rfl rfl fun ip2 wp2 H hS => ?_
  try simp only [W]
  refine seq_n hK1 ?_
  refine w_seq fun K4 hK4 => ?_
  refine w_seq fun K5 hK5 => ?_
  refine w_reg gC ?_
  try simp only [W, Nat.reduceAdd]
  refine w_call h fun b6 hb6 h => ?_
  refine spec_l7Rate_w hb6 hS fun H hS => ?_
  try simp only [W]
  refine seq_n hK5 ?_
  refine w_if ?_
  simp only [W]
  refine w_cnd h (fun hc h => ?_) (fun hc h => ?_)
  · refine w_seq fun K7 hK7 => ?_
    refine w_reg gC ?_
    try simp only [W, EE, Nat.reduceAdd]
    refine w_bld rfl rfl rfl rfl rfl ?_
    try simp only [W]
    refine w_stv (a := .agg [.int .i64 0, .int .i64 0, .int .i64 0]) (y' := .agg [.int .i64 0, .int .i64 0, .int .i64 0]) 0 hS rfl rfl rfl rfl rfl rfl rfl rfl fun H hS => ?_
    try simp only [W]
    refine seq_n hK7 ?_
    refine w_ret ?_
    refine seq_r hK4 ?_
    refine fin_r hK0 (res_c rfl rfl (hS.var 0 rfl) rfl (res_tc rfl rfl)) ?_
    try obtain rfl := Option.some.inj h
    exact hP _ (hS.sel 1 [] (by decide))
  · refine w_skip ?_
    refine seq_n hK4 ?_
    refine w_seq fun K8 hK8 => ?_
    refine w_reg gC ?_
    try simp only [W, EE, Nat.reduceAdd]
    refine w_bld rfl rfl rfl rfl rfl ?_
    try simp only [W]
    refine w_stv (a := .agg [.int .i64 a0, .int .i64 a1, .int .i64 a1]) (y' := .agg [.int .i64 a0, .int .i64 a1, .int .i64 a1]) 0 hS rfl rfl rfl rfl rfl rfl rfl rfl fun H hS => ?_
    try simp only [W]
    refine seq_n hK8 ?_
    refine w_ret ?_
    refine fin_r hK0 (res_c rfl rfl (hS.var 0 rfl) rfl (res_tc rfl rfl)) ?_
    try obtain rfl := Option.some.inj h
    exact hP _ (hS.sel 1 [] (by decide))
theorem spec_l1All_w {a0 : List Int} {a1 : Int} {a2 : Int} {r : (Bool)} (h : spec_l1All a0 a1 a2 = some r) {F : List It} {H : Heap} (hS : Own H (F)) {P : AV → Heap → Prop} (hP : ∀ H', Own H' (F) → P (.bool r) H') : ACall C 150 [.fz (a0.map (AV.int .i64)), .int .i64 a1, .int .i64 a2] H P := by
  refine acall_of gC (res := [.tmp 6]) (n := 21) rfl rfl rfl rfl fun K0 hK0 => ?_
  simp only [W, Nat.reduceSub, Nat.reduceAdd, List.replicate]
  unfold spec_l1All at h
  refine w_seq fun K1 hK1 => ?_
  refine w_reg gC ?_
  try simp only [W, Nat.reduceAdd]
  refine seq_n hK1 ?_
  refine w_seq fun K2 hK2 => ?_
  refine w_seq fun K3 hK3 => ?_
  refine w_reg gC ?_
  try simp only [W, EE, Nat.reduceAdd]
  refine seq_n hK3 ?_
  obtain ⟨y5, hw6, g12⟩ := Option.bind_eq_some_iff.1 h
  refine w_join gC (fun s H => y5 = LR.next () ∧ s = [u, u, u, u, u, u, u, u, u, u, u, u, u, u, u, u, u, u, u, u, u] ∧ Own H (F)) (fun K7 hK7 => ?_) (fun s H hq => ?_)
  · refine w_blk fun K8 hK8 => ?_
    refine w_loop gC hw6 (fun x s H => s = [u, .int .i64 a1, .int .i64 a2, u, u, u, u, u, u, .fz (a0.map (AV.int .i64)), .int .i64 (a0.length : Int), .int .i64 x, u, u, u, u, u, u, u, u, u] ∧ Own H (F)) ⟨rfl, hS⟩ (fun x4 y11 s H h hd10 hi K9 hK9 => ?_)
    skip
    try dsimp only at hi
    obtain ⟨rfl, hS⟩ := hi
    simp only [spec_l1All_l0] at h
    refine w_seq fun K13 hK13 => ?_
    refine w_reg gC ?_
    try simp only [W, EE, Nat.reduceAdd]
    refine seq_n hK13 ?_
    refine w_seq fun K14 hK14 => ?_
    refine w_if ?_
    simp only [W]
    refine w_cnd h (fun hc h => ?_) (fun hc h => ?_)
    · refine w_skip ?_
      refine seq_n hK14 ?_
      refine w_seq fun K15 hK15 => ?_
      refine w_blk fun K16 hK16 => ?_
      refine w_seq fun K17 hK17 => ?_
      refine w_reg gC ?_
      try simp only [W, EE, Nat.reduceAdd]
      refine w_fz rfl rfl rfl (fun _ => rfl) h fun b18 hb18 h => ?_
      try simp only [W, EE]
      refine seq_n hK17 ?_
      refine w_seq fun K19 hK19 => ?_
      refine w_reg gC ?_
      try simp only [W, Nat.reduceAdd]
      refine w_call h fun b20 hb20 h => ?_
      refine spec_l1In_w hb20 hS fun H hS => ?_
      try simp only [W]
      refine seq_n hK19 ?_
      refine w_if ?_
      simp only [W]
      refine w_cnd h (fun hc h => ?_) (fun hc h => ?_)
      · refine w_seq fun K21 hK21 => ?_
        refine w_reg gC ?_
        try simp only [W, Nat.reduceAdd]
        refine seq_n hK21 ?_
        refine w_ret ?_
        refine blk_r hK16 ?_
        refine seq_r hK15 ?_
        try obtain rfl := Option.some.inj h
        obtain rfl := hd10 _ rfl
        have h : (some (LR.done false) : Option (LR Unit (Bool))) = some (LR.done false) := rfl
        refine lp_r hK9 ?_
        refine blk_r hK8 ?_
        try obtain rfl := Option.some.inj h
        obtain rfl := Option.some.inj g12
        have h : (some false : Option (Bool)) = some false := rfl
        refine cut_r hK7 ?_
        refine seq_r hK2 ?_
        refine fin_r1 hK0 rfl ?_
        try obtain rfl := Option.some.inj h
        exact hP _ hS
      · refine w_skip ?_
        refine blk_n0 hK16 ?_
        refine seq_n hK15 ?_
        refine w_reg gC ?_
        try simp only [W, EE, Nat.reduceAdd]
        exact lp_n hK9 h ⟨rfl, hS⟩
    · refine w_exit ?_
      refine seq_x hK14 ?_
      try obtain rfl := Option.some.inj h
      obtain rfl := hd10 _ rfl
      have h : (some (LR.next ()) : Option (LR Unit (Bool))) = some (LR.next ()) := rfl
      refine lp_x hK9 ?_
      refine blk_e hK8 ?_
      exact cut_n hK7 ⟨(Option.some.inj h).symm, rfl, hS⟩
  · obtain ⟨rfl, rfl, hS⟩ := hq
    replace h := g12
    try dsimp only at h
    refine seq_n hK2 ?_
    refine w_seq fun K28 hK28 => ?_
    refine w_reg gC ?_
    try simp only [W, Nat.reduceAdd]
    refine seq_n hK28 ?_
    refine w_ret ?_
    refine fin_r1 hK0 rfl ?_
    try obtain rfl := Option.some.inj h
    exact hP _ hS
theorem spec_l7Flow_w {a0 : List Int} {r : (Bool)} (h : spec_l7Flow a0 = some r) {F : List It} {H : Heap} (hS : Own H (F)) {P : AV → Heap → Prop} (hP : ∀ H', Own H' (F) → P (.bool r) H') : ACall C 160 [.fz (a0.map (AV.int .i64))] H P := by
  refine acall_of gC (res := [.tmp 2]) (n := 10) rfl rfl rfl rfl fun K0 hK0 => ?_
  simp only [W, Nat.reduceSub, Nat.reduceAdd, List.replicate]
  unfold spec_l7Flow at h
  refine w_seq fun K1 hK1 => ?_
  refine w_reg gC ?_
  try simp only [W, Nat.reduceAdd]
  refine seq_n hK1 ?_
  refine w_seq fun K2 hK2 => ?_
  refine w_reg gC ?_
  try simp only [W, EE, Nat.reduceAdd]
  refine w_grdT h (fun hc h => ?_) (fun hc h => ?_)
  · try simp only [W, hc]
    refine w_call h fun b3 hb3 h => ?_
    refine spec_l1All_w hb3 hS fun H hS => ?_
    try simp only [W, reduceIte]
    refine seq_n hK2 ?_
    refine w_ret ?_
    refine fin_r1 hK0 rfl ?_
    try obtain rfl := Option.some.inj h
    exact hP _ hS
  · try simp only [W, hc]
    refine seq_n hK2 ?_
    refine w_ret ?_
    refine fin_r1 hK0 rfl ?_
    try obtain rfl := Option.some.inj h
    exact hP _ hS
theorem spec_l1Least_w {a0 : Int} {a1 : Int} {r : (Int)} (h : spec_l1Least a0 a1 = some r) {F : List It} {H : Heap} (hS : Own H (F)) {P : AV → Heap → Prop} (hP : ∀ H', Own H' (F) → P (.int .i64 r) H') : ACall C 162 [.int .i64 a0, .int .i64 a1] H P := by
  refine acall_of gC (res := [.tmp 4]) (n := 10) rfl rfl rfl rfl fun K0 hK0 => ?_
  simp only [W, Nat.reduceSub, Nat.reduceAdd, List.replicate]
  unfold spec_l1Least at h
  refine w_seq fun K1 hK1 => ?_
  refine w_reg gC ?_
  try simp only [W, Nat.reduceAdd]
  refine seq_n hK1 ?_
  refine w_seq fun K2 hK2 => ?_
  refine w_seq fun K3 hK3 => ?_
  refine w_reg gC ?_
  try simp only [W, EE, Nat.reduceAdd]
  refine seq_n hK3 ?_
  refine w_if ?_
  simp only [W]
  refine w_cnd h (fun hc h => ?_) (fun hc h => ?_)
  · refine w_seq fun K4 hK4 => ?_
    refine w_reg gC ?_
    try simp only [W, Nat.reduceAdd]
    refine seq_n hK4 ?_
    refine w_ret ?_
    refine seq_r hK2 ?_
    refine fin_r1 hK0 rfl ?_
    try obtain rfl := Option.some.inj h
    exact hP _ hS
  · refine w_skip ?_
    refine seq_n hK2 ?_
    refine w_seq fun K5 hK5 => ?_
    refine w_reg gC ?_
    try simp only [W, Nat.reduceAdd]
    refine seq_n hK5 ?_
    refine w_ret ?_
    refine fin_r1 hK0 rfl ?_
    try obtain rfl := Option.some.inj h
    exact hP _ hS
theorem spec_l7Tick_w {a0 : Bucket} {r : (Bucket)} (h : spec_l7Tick a0 = some r) {F : List It} {H : Heap} (hS : Own H (F)) {P : AV → Heap → Prop} (hP : ∀ H', Own H' (F) → P (.agg [.int .i64 r.Rate, .int .i64 r.Depth, .int .i64 r.Has]) H') : ACall C 161 [.agg [.int .i64 a0.Rate, .int .i64 a0.Depth, .int .i64 a0.Has]] H P := by
  refine acall_of gC (res := [.cell 2 43]) (n := 13) rfl rfl rfl rfl fun K0 hK0 => ?_
  simp only [W, Nat.reduceSub, Nat.reduceAdd, List.replicate]
  unfold spec_l7Tick at h
  refine w_seq fun K1 hK1 => ?_
  refine w_reg gC ?_
  try simp only [W, Nat.reduceAdd]
  refine w_box hS rfl rfl rfl rfl fun ip2 wp2 H hS => ?_
  try simp only [W]
  refine w_alloc hS rfl rfl fun ip4 wp4 H hS => ?_
  try simp only [W]
  refine seq_n hK1 ?_
  refine w_seq fun K6 hK6 => ?_
  refine w_reg gC ?_
  try simp only [W, EE, Nat.reduceAdd, Nat.reduceBEq, hS.var 1 rfl]
  refine w_call h fun b7 hb7 h => ?_
  refine spec_l1Least_w hb7 hS fun H hS => ?_
  try simp only [W, EE, Nat.reduceAdd, Nat.reduceBEq, hS.var 1 rfl]
  refine w_stv (a := .int .i64 b7) (y' := .agg [.int .i64 a0.Rate, .int .i64 a0.Depth, .int .i64 b7]) 1 hS rfl rfl rfl rfl rfl rfl rfl rfl fun H hS => ?_
  try simp only [W]
  refine seq_n hK6 ?_
  refine w_seq fun K8 hK8 => ?_
  refine w_reg gC ?_
  try simp only [W, EE, reduceIte, Nat.reduceAdd, Nat.reduceLeDiff, hS.var 1 rfl]
  refine w_stv (a := .agg [.int .i64 a0.Rate, .int .i64 a0.Depth, .int .i64 b7]) (y' := .agg [.int .i64 a0.Rate, .int .i64 a0.Depth, .int .i64 b7]) 0 hS rfl rfl rfl rfl rfl rfl rfl rfl fun H hS => ?_
  try simp only [W]
  refine seq_n hK8 ?_
  refine w_ret ?_
  refine fin_r hK0 (res_c rfl rfl (hS.var 0 rfl) rfl rfl) ?_
  try obtain rfl := Option.some.inj h
  exact hP _ (hS.sel 2 [] (by decide))
theorem spec_ShapeFlow_w {a0 : Int} {a1 : Int} {a2 : List Int} {r : (List Int × List Int × Bool)} (h : spec_ShapeFlow a0 a1 a2 = some r) {F : List It} {H : Heap} (hS : Own H (F)) {P : AV → Heap → Prop} (hP : ∀ v79 : AV, isSl v79 → ∀ v81 : AV, isSl v81 → ∀ H', Own H' (⟨v79, 1, r.1.map (AV.int .i64)⟩ :: ⟨v81, 1, r.2.1.map (AV.int .i64)⟩ :: F) → P (.tup [v79, v81, .bool r.2.2]) H') : ACall C 25 [.int .i64 a0, .int .i64 a1, .fz (a2.map (AV.int .i64))] H P := by
  refine acall_of gC (res := [.tmp 6, .tmp 7, .tmp 8]) (n := 67) rfl rfl rfl rfl fun K0 hK0 => ?_
  simp only [W, Nat.reduceSub, Nat.reduceAdd, List.replicate]
  unfold spec_ShapeFlow at h
  refine w_seq fun K1 hK1 => ?_
  refine w_reg gC ?_
  try simp only [W, Nat.reduceAdd]
  refine seq_n hK1 ?_
  refine w_seq fun K2 hK2 => ?_
  refine w_reg gC ?_
  try simp only [W, Nat.reduceAdd]
  refine w_call h fun b3 hb3 h => ?_
  obtain ⟨b4, b5⟩ := b3
  try dsimp only at h
  refine spec_NewBucket_w hb3 hS fun H hS => ?_
  try simp only [W]
  refine w_alloc hS rfl rfl fun ip6 wp6 H hS => ?_
  try simp only [W]
  refine w_stv (a := .agg [.int .i64 b4.Rate, .int .i64 b4.Depth, .int .i64 b4.Has]) (y' := .agg [.int .i64 b4.Rate, .int .i64 b4.Depth, .int .i64 b4.Has]) 0 hS rfl rfl rfl rfl rfl rfl rfl rfl fun H hS => ?_
  try simp only [W]
  refine seq_n hK2 ?_
  refine w_seq fun K8 hK8 => ?_
  refine w_seq fun K9 hK9 => ?_
  obtain ⟨y11, h, g12⟩ := Option.bind_eq_some_iff.1 h
  refine w_join gC (fun s H => ∃ x10 : Bool, y11 = (x10) ∧ s = [u, u, .fz (a2.map (AV.int .i64)), u, u, u, u, u, u, .ptr ip6 wp6 0 0, u, u, u, u, u, u, u, u, u, u, u, u, u, u, u, u, u, u, u, .bool x10, u, u, u, u, u, u, u, u, u, u, u, u, u, u, u, u, u, u, u, u, u, u, u, u, u, u, u, u, u, u, u, u, u, u, u, u, u] ∧ Own H (⟨.ptr ip6 wp6 0 0, 3, [.agg [.int .i64 b4.Rate, .int .i64 b4.Depth, .int .i64 b4.Has]]⟩ :: F)) (fun K13 hK13 => ?_) (fun s H hq => ?_)
  · refine w_seq fun K14 hK14 => ?_
    refine w_reg gC ?_
    try simp only [W, Nat.reduceAdd]
    refine w_grdT h (fun hc h => ?_) (fun hc h => ?_)
    · try simp only [W, hc]
      refine seq_n hK14 ?_
      refine w_kill ?_
      exact cut_n hK13 ⟨_, (Option.some.inj h).symm, rfl, hS⟩
    · try simp only [W, hc]
      refine w_call h fun b15 hb15 h => ?_
      refine spec_l7Flow_w hb15 hS fun H hS => ?_
      try simp only [W, reduceIte, Bool.false_eq_true]
      refine seq_n hK14 ?_
      refine w_kill ?_
      exact cut_n hK13 ⟨_, (Option.some.inj h).symm, rfl, hS⟩
  · obtain ⟨x10, ey, rfl, hS⟩ := hq; obtain rfl := ey.symm
    replace h := g12
    try dsimp only at h
    refine seq_n hK9 ?_
    refine w_if ?_
    simp only [W]
    refine w_cnd h (fun hc h => ?_) (fun hc h => ?_)
    · refine w_seq fun K16 hK16 => ?_
      refine w_reg gC ?_
      try simp only [W, Nat.reduceAdd]
      refine seq_n hK16 ?_
      refine w_ret ?_
      refine seq_r hK8 ?_
      refine fin_r3 hK0 rfl rfl rfl ?_
      try obtain rfl := Option.some.inj h
      exact hP _ isSl_nil _ isSl_nil _ (((hS.nil_ 1).nil_ 1).sel 3 [0, 1] (by decide))
    · refine w_skip ?_
      refine seq_n hK8 ?_
      refine w_seq fun K17 hK17 => ?_
      refine w_reg gC ?_
      try simp only [W, Nat.reduceAdd]
      refine seq_n hK17 ?_
      refine w_seq fun K18 hK18 => ?_
      refine w_reg gC ?_
      try simp only [W, Nat.reduceAdd]
      refine seq_n hK18 ?_
      refine w_seq fun K19 hK19 => ?_
      refine w_seq fun K20 hK20 => ?_
      refine w_reg gC ?_
      try simp only [W, EE, Nat.reduceAdd]
      refine seq_n hK20 ?_
      obtain ⟨y36, hw37, g43⟩ := Option.bind_eq_some_iff.1 h
      refine w_join gC (fun s H => ∃ x32 : List Int, ∃ x34 : List Int, y36 = (x32, x34) ∧ ∃ v33 : AV, isSl v33 ∧ ∃ v35 : AV, isSl v35 ∧ s = [u, u, u, u, u, u, u, u, u, u, u, v33, v35, u, u, u, u, u, u, u, u, u, u, u, u, u, u, u, u, u, u, u, u, u, u, u, u, u, u, u, u, u, u, u, u, u, u, u, u, u, u, u, u, u, u, u, u, u, u, u, u, u, u, u, u, u, u] ∧ Own H (⟨v33, 1, x32.map (AV.int .i64)⟩ :: ⟨v35, 1, x34.map (AV.int .i64)⟩ :: F)) (fun K38 hK38 => ?_) (fun s H hq => ?_)
      · refine w_blk fun K39 hK39 => ?_
        refine w_loop gC hw37 (fun x s H => match x with | (x21, x24, x27, x28, x29, x30, x31) => ∃ v22 : AV, isSl v22 ∧ ∃ v25 : AV, isSl v25 ∧ s = [u, u, u, u, u, u, u, u, u, .ptr ip6 wp6 0 0, u, v22, v25, .int .i64 x27, u, u, u, u, u, u, u, u, u, u, u, u, u, u, u, u, .fz (a2.map (AV.int .i64)), .int .i64 (a2.length : Int), .int .i64 x28, u, u, u, u, u, u, u, u, u, u, u, u, u, u, u, u, u, u, u, u, u, u, u, u, u, u, u, u, u, u, u, u, u, u] ∧ Own H (⟨v22, 1, x21.map (AV.int .i64)⟩ :: ⟨v25, 1, x24.map (AV.int .i64)⟩ :: ⟨.ptr ip6 wp6 0 0, 3, [.agg [.int .i64 x29, .int .i64 x30, .int .i64 x31]]⟩ :: F)) ⟨_, isSl_nil, _, isSl_nil, rfl, ((hS.nil_ 1).nil_ 1)⟩ (fun x y42 s H h hd41 hi K40 hK40 => ?_)
        obtain ⟨x21, x24, x27, x28, x29, x30, x31⟩ := x
        try dsimp only at hi
        obtain ⟨v22, qv22, v25, qv25, rfl, hS⟩ := hi
        simp only [spec_ShapeFlow_l0] at h
        refine w_seq fun K44 hK44 => ?_
        refine w_reg gC ?_
        try simp only [W, EE, Nat.reduceAdd]
        refine seq_n hK44 ?_
        refine w_seq fun K45 hK45 => ?_
        refine w_if ?_
        simp only [W]
        refine w_cnd h (fun hc h => ?_) (fun hc h => ?_)
        · refine w_skip ?_
          refine seq_n hK45 ?_
          refine w_seq fun K46 hK46 => ?_
          refine w_blk fun K47 hK47 => ?_
          refine w_seq fun K48 hK48 => ?_
          refine w_reg gC ?_
          try simp only [W, EE, Nat.reduceAdd]
          refine w_fz rfl rfl rfl (fun _ => rfl) h fun b49 hb49 h => ?_
          try simp only [W, EE]
          refine seq_n hK48 ?_
          refine w_seq fun K50 hK50 => ?_
          refine w_seq fun K51 hK51 => ?_
          refine w_reg gC ?_
          try simp only [W, EE, Nat.reduceAdd]
          refine seq_n hK51 ?_
          obtain ⟨y55, h, g56⟩ := Option.bind_eq_some_iff.1 h
          refine w_join gC (fun s H => ∃ x52 : Int, ∃ x53 : Int, ∃ x54 : Int, y55 = (x52, x53, x54) ∧ s = [u, u, u, u, u, u, u, u, u, .ptr ip6 wp6 0 0, u, v22, v25, .int .i64 x27, u, .int .i64 b49, u, u, u, u, u, u, u, u, u, u, u, u, u, u, .fz (a2.map (AV.int .i64)), .int .i64 (a2.length : Int), .int .i64 x28, u, u, u, u, u, u, u, u, u, u, u, u, u, u, u, u, u, u, u, u, u, u, u, u, u, u, u, u, u, u, u, u, u, u] ∧ Own H (⟨v22, 1, x21.map (AV.int .i64)⟩ :: ⟨v25, 1, x24.map (AV.int .i64)⟩ :: ⟨.ptr ip6 wp6 0 0, 3, [.agg [.int .i64 x52, .int .i64 x53, .int .i64 x54]]⟩ :: F)) (fun K57 hK57 => ?_) (fun s H hq => ?_)
          · refine w_seq fun K58 hK58 => ?_
            refine w_if ?_
            simp only [W]
            refine w_cnd h (fun hc h => ?_) (fun hc h => ?_)
            · refine w_reg gC ?_
              try simp only [W, EE, reduceIte, Nat.reduceAdd, Nat.reduceLeDiff, hS.var 2 rfl]
              refine w_call h fun b59 hb59 h => ?_
              refine spec_l7Tick_w hb59 hS fun H hS => ?_
              try simp only [W]
              refine w_stv (a := .agg [.int .i64 b59.Rate, .int .i64 b59.Depth, .int .i64 b59.Has]) (y' := .agg [.int .i64 b59.Rate, .int .i64 b59.Depth, .int .i64 b59.Has]) 2 hS rfl rfl rfl rfl rfl rfl rfl rfl fun H hS => ?_
              try simp only [W]
              refine seq_n hK58 ?_
              refine w_kill ?_
              exact cut_n hK57 ⟨_, _, _, (Option.some.inj h).symm, rfl, hS⟩
            · refine w_skip ?_
              refine seq_n hK58 ?_
              refine w_kill ?_
              exact cut_n hK57 ⟨_, _, _, (Option.some.inj h).symm, rfl, hS⟩
          · obtain ⟨x52, x53, x54, rfl, rfl, hS⟩ := hq
            replace h := g56
            try dsimp only at h
            refine seq_n hK50 ?_
            refine w_seq fun K60 hK60 => ?_
            refine w_reg gC ?_
            try simp only [W, EE, Nat.reduceAdd]
            refine seq_n hK60 ?_
            refine w_seq fun K61 hK61 => ?_
            refine w_reg gC ?_
            try simp only [W, EE, Nat.reduceAdd, Nat.reduceBEq, hS.var 2 rfl]
            refine w_call h fun b62 hb62 h => ?_
            refine spec_l1Least_w hb62 hS fun H hS => ?_
            try simp only [W]
            refine seq_n hK61 ?_
            refine w_seq fun K63 hK63 => ?_
            refine w_reg gC ?_
            try simp only [W, EE, Nat.reduceAdd, Nat.reduceBEq, hS.var 2 rfl]
            refine w_stv (a := .int .i64 (IntKind.i64.wrap (x54 - b62))) (y' := .agg [.int .i64 x52, .int .i64 x53, .int .i64 (IntKind.i64.wrap (x54 - b62))]) 2 hS rfl rfl rfl rfl rfl rfl rfl rfl fun H hS => ?_
            try simp only [W]
            refine seq_n hK63 ?_
            refine w_seq fun K64 hK64 => ?_
            refine w_reg gC ?_
            try simp only [W, EE, Nat.reduceAdd]
            refine seq_n hK64 ?_
            refine w_seq fun K65 hK65 => ?_
            refine w_reg gC ?_
            try simp only [W, Nat.reduceAdd]
            refine w_lit (el := ([b62] : List Int).map (AV.int .i64)) hS rfl rfl rfl rfl rfl rfl rfl fun v66 H qv66 hS => ?_
            try simp only [W, EE]
            refine w_appV (l := x21) (c := (AV.int .i64)) 1 hS rfl qv22 rfl rfl rfl (hS.elems 0 rfl qv66) (fun _ => rfl) rfl h fun v69 H x68 qv69 hm h hS => ?_
            try simp only [W]
            refine seq_n hK65 ?_
            refine w_reg gC ?_
            try simp only [W, Nat.reduceAdd]
            refine w_lit (el := ([(IntKind.i64.wrap ((IntKind.i64.wrap (x27 + b49)) - b62))] : List Int).map (AV.int .i64)) hS rfl rfl rfl rfl rfl rfl rfl fun v71 H qv71 hS => ?_
            try simp only [W, EE]
            refine w_appV (l := x24) (c := (AV.int .i64)) 3 hS rfl qv25 rfl rfl rfl (hS.elems 0 rfl qv71) (fun _ => rfl) rfl h fun v74 H x73 qv74 hm h hS => ?_
            try simp only [W]
            refine blk_n0 hK47 ?_
            refine seq_n hK46 ?_
            refine w_reg gC ?_
            try simp only [W, EE, Nat.reduceAdd]
            exact lp_n hK40 h ⟨_, qv69, _, qv74, rfl, (hS.sel 5 [2, 3, 4] (by decide))⟩
        · refine w_exit ?_
          refine seq_x hK45 ?_
          try obtain rfl := Option.some.inj h
          obtain rfl := hd41 _ rfl
          have h : (some (x21, x24) : Option ((List Int) × (List Int))) = some (x21, x24) := rfl
          refine lp_x hK40 ?_
          refine blk_e hK39 ?_
          exact cut_n hK38 ⟨_, _, (Option.some.inj h).symm, _, qv22, _, qv25, rfl, (hS.sel 3 [0, 1] (by decide))⟩
      · obtain ⟨x32, x34, rfl, v33, qv33, v35, qv35, rfl, hS⟩ := hq
        replace h := g43
        try dsimp only at h
        refine seq_n hK19 ?_
        refine w_seq fun K78 hK78 => ?_
        refine w_reg gC ?_
        try simp only [W, Nat.reduceAdd]
        refine seq_n hK78 ?_
        refine w_ret ?_
        refine fin_r3 hK0 rfl rfl rfl ?_
        try obtain rfl := Option.some.inj h
        exact hP _ qv33 _ qv35 _ hS
theorem impl_Conforms_w {a0 : Int} {a1 : Int} {a2 : List Int} {r : (Bool × Bool)} (h : impl_Conforms a0 a1 a2 = some r) {F : List It} {H : Heap} (hS : Own H (F)) {P : AV → Heap → Prop} (hP : ∀ H', Own H' (F) → P (.tup [.bool r.1, .bool r.2]) H') : ACall C 26 [.int .i64 a0, .int .i64 a1, .fz (a2.map (AV.int .i64))] H P := by
  refine acall_of gC (res := [.tmp 6, .tmp 7]) (n := 47) rfl rfl rfl rfl fun K0 hK0 => ?_
  simp only [W, Nat.reduceSub, Nat.reduceAdd, List.replicate]
  unfold impl_Conforms at h
  refine w_seq fun K1 hK1 => ?_
  refine w_reg gC ?_
  try simp only [W, Nat.reduceAdd]
  refine seq_n hK1 ?_
  refine w_seq fun K2 hK2 => ?_
  refine w_seq fun K3 hK3 => ?_
  obtain ⟨y5, h, g6⟩ := Option.bind_eq_some_iff.1 h
  refine w_join gC (fun s H => ∃ x4 : Bool, y5 = (x4) ∧ s = [.int .i64 a0, .int .i64 a1, .fz (a2.map (AV.int .i64)), u, u, u, u, u, u, u, u, u, u, u, u, u, u, u, u, u, .bool x4, u, u, u, u, u, u, u, u, u, u, u, u, u, u, u, u, u, u, u, u, u, u, u, u, u, u] ∧ Own H (F)) (fun K7 hK7 => ?_) (fun s H hq => ?_)
  · refine w_seq fun K8 hK8 => ?_
    refine w_reg gC ?_
    try simp only [W, Nat.reduceAdd]
    refine w_call h fun b9 hb9 h => ?_
    refine impl_isRate_w hb9 hS fun H hS => ?_
    try simp only [W]
    refine w_grdT h (fun hc h => ?_) (fun hc h => ?_)
    · try simp only [W, hc]
      refine seq_n hK8 ?_
      refine w_kill ?_
      exact cut_n hK7 ⟨_, (Option.some.inj h).symm, rfl, hS⟩
    · try simp only [W, hc]
      refine w_call h fun b10 hb10 h => ?_
      refine impl_isFlow_w hb10 hS fun H hS => ?_
      try simp only [W, reduceIte, Bool.false_eq_true]
      refine seq_n hK8 ?_
      refine w_kill ?_
      exact cut_n hK7 ⟨_, (Option.some.inj h).symm, rfl, hS⟩
  · obtain ⟨x4, ey, rfl, hS⟩ := hq; obtain rfl := ey.symm
    replace h := g6
    try dsimp only at h
    refine seq_n hK3 ?_
    refine w_if ?_
    simp only [W]
    refine w_cnd h (fun hc h => ?_) (fun hc h => ?_)
    · refine w_seq fun K11 hK11 => ?_
      refine w_reg gC ?_
      try simp only [W, Nat.reduceAdd]
      refine seq_n hK11 ?_
      refine w_ret ?_
      refine seq_r hK2 ?_
      refine fin_r2 hK0 rfl rfl ?_
      try obtain rfl := Option.some.inj h
      exact hP _ hS
    · refine w_skip ?_
      refine seq_n hK2 ?_
      refine w_seq fun K12 hK12 => ?_
      refine w_seq fun K13 hK13 => ?_
      refine w_reg gC ?_
      try simp only [W, EE, Nat.reduceAdd]
      refine seq_n hK13 ?_
      obtain ⟨y15, hw16, g22⟩ := Option.bind_eq_some_iff.1 h
      refine w_join gC (fun s H => y15 = LR.next () ∧ s = [u, u, u, u, u, u, u, u, u, u, u, u, u, u, u, u, u, u, u, u, u, u, u, u, u, u, u, u, u, u, u, u, u, u, u, u, u, u, u, u, u, u, u, u, u, u, u] ∧ Own H (F)) (fun K17 hK17 => ?_) (fun s H hq => ?_)
      · refine w_blk fun K18 hK18 => ?_
        refine w_loop gC hw16 (fun x s H => s = [.int .i64 a0, .int .i64 a1, .fz (a2.map (AV.int .i64)), u, u, u, u, u, u, u, u, u, u, u, u, u, u, u, u, u, u, u, .int .i64 (a2.length : Int), .int .i64 x, u, u, u, u, u, u, u, u, u, u, u, u, u, u, u, u, u, u, u, u, u, u, u] ∧ Own H (F)) ⟨rfl, hS⟩ (fun x14 y21 s H h hd20 hi K19 hK19 => ?_)
        skip
        try dsimp only at hi
        obtain ⟨rfl, hS⟩ := hi
        simp only [impl_Conforms_l1] at h
        refine w_seq fun K23 hK23 => ?_
        refine w_reg gC ?_
        try simp only [W, EE, Nat.reduceAdd]
        refine seq_n hK23 ?_
        refine w_seq fun K24 hK24 => ?_
        refine w_if ?_
        simp only [W]
        refine w_cnd h (fun hc h => ?_) (fun hc h => ?_)
        · refine w_skip ?_
          refine seq_n hK24 ?_
          refine w_seq fun K25 hK25 => ?_
          refine w_blk fun K26 hK26 => ?_
          refine w_seq fun K27 hK27 => ?_
          refine w_reg gC ?_
          try simp only [W, Nat.reduceAdd]
          refine seq_n hK27 ?_
          refine w_seq fun K28 hK28 => ?_
          refine w_reg gC ?_
          try simp only [W, Nat.reduceAdd]
          refine seq_n hK28 ?_
          refine w_seq fun K29 hK29 => ?_
          refine w_reg gC ?_
          try simp only [W, EE, Nat.reduceAdd]
          refine w_slF rfl rfl rfl (fun _ => rfl) h fun x30 hx30 h => ?_
          try simp only [W, EE]
          refine seq_n hK29 ?_
          obtain ⟨y33, hw34, g40⟩ := Option.bind_eq_some_iff.1 h
          refine w_join gC (fun s H => y33 = LR.next () ∧ s = [.int .i64 a0, .int .i64 a1, .fz (a2.map (AV.int .i64)), u, u, u, u, u, u, u, u, u, u, u, u, u, u, u, u, u, u, u, .int .i64 (a2.length : Int), .int .i64 x14, u, u, u, u, u, u, u, u, u, u, u, u, u, u, u, u, u, u, u, u, u, u, u] ∧ Own H (F)) (fun K35 hK35 => ?_) (fun s H hq => ?_)
          · refine w_blk fun K36 hK36 => ?_
            refine w_loop gC hw34 (fun x s H => match x with | (x31, x32) => s = [.int .i64 a0, .int .i64 a1, .fz (a2.map (AV.int .i64)), u, u, u, u, u, u, .int .i64 x31, u, u, u, u, u, u, u, u, u, u, u, u, .int .i64 (a2.length : Int), .int .i64 x14, u, u, u, u, .fz (x30.map (AV.int .i64)), .int .i64 (x30.length : Int), .int .i64 x32, u, u, u, u, u, u, u, u, u, u, u, u, u, u, u, u] ∧ Own H (F)) ⟨rfl, hS⟩ (fun x y39 s H h hd38 hi K37 hK37 => ?_)
            obtain ⟨x31, x32⟩ := x
            try dsimp only at hi
            obtain ⟨rfl, hS⟩ := hi
            simp only [impl_Conforms_l0] at h
            refine w_seq fun K41 hK41 => ?_
            refine w_reg gC ?_
            try simp only [W, EE, Nat.reduceAdd]
            refine seq_n hK41 ?_
            refine w_seq fun K42 hK42 => ?_
            refine w_if ?_
            simp only [W]
            refine w_cnd h (fun hc h => ?_) (fun hc h => ?_)
            · refine w_skip ?_
              refine seq_n hK42 ?_
              refine w_seq fun K43 hK43 => ?_
              refine w_blk fun K44 hK44 => ?_
              refine w_seq fun K45 hK45 => ?_
              refine w_reg gC ?_
              try simp only [W, EE, Nat.reduceAdd]
              refine w_fz rfl rfl rfl (fun _ => rfl) h fun b46 hb46 h => ?_
              try simp only [W, EE]
              refine seq_n hK45 ?_
              refine w_seq fun K47 hK47 => ?_
              refine w_reg gC ?_
              try simp only [W, EE, Nat.reduceAdd]
              refine seq_n hK47 ?_
              refine w_seq fun K48 hK48 => ?_
              refine w_reg gC ?_
              try simp only [W, EE, Nat.reduceAdd]
              refine seq_n hK48 ?_
              refine w_if ?_
              simp only [W]
              refine w_cnd h (fun hc h => ?_) (fun hc h => ?_)
              · refine w_seq fun K49 hK49 => ?_
                refine w_reg gC ?_
                try simp only [W, Nat.reduceAdd]
                refine seq_n hK49 ?_
                refine w_ret ?_
                refine blk_r hK44 ?_
                refine seq_r hK43 ?_
                try obtain rfl := Option.some.inj h
                obtain rfl := hd38 _ rfl
                have h : (some (LR.done (LR.done (LR.done (false, true)))) : Option (LR Unit (LR (Int) (LR Unit (Bool × Bool))))) = some (LR.done (LR.done (LR.done (false, true)))) := rfl
                refine lp_r hK37 ?_
                refine blk_r hK36 ?_
                try obtain rfl := Option.some.inj h
                obtain rfl := Option.some.inj g40
                have h : (some (LR.done (LR.done (false, true))) : Option (LR (Int) (LR Unit (Bool × Bool)))) = some (LR.done (LR.done (false, true))) := rfl
                refine cut_r hK35 ?_
                refine blk_r hK26 ?_
                refine seq_r hK25 ?_
                try obtain rfl := Option.some.inj h
                obtain rfl := hd20 _ rfl
                have h : (some (LR.done (false, true)) : Option (LR Unit (Bool × Bool))) = some (LR.done (false, true)) := rfl
                refine lp_r hK19 ?_
                refine blk_r hK18 ?_
                try obtain rfl := Option.some.inj h
                obtain rfl := Option.some.inj g22
                have h : (some (false, true) : Option (Bool × Bool)) = some (false, true) := rfl
                refine cut_r hK17 ?_
                refine seq_r hK12 ?_
                refine fin_r2 hK0 rfl rfl ?_
                try obtain rfl := Option.some.inj h
                exact hP _ hS
              · refine w_skip ?_
                refine blk_n0 hK44 ?_
                refine seq_n hK43 ?_
                refine w_reg gC ?_
                try simp only [W, EE, Nat.reduceAdd]
                exact lp_n hK37 h ⟨rfl, hS⟩
            · refine w_exit ?_
              refine seq_x hK42 ?_
              try obtain rfl := Option.some.inj h
              obtain rfl := hd38 _ rfl
              have h : (some (LR.next ()) : Option (LR Unit (LR (Int) (LR Unit (Bool × Bool))))) = some (LR.next ()) := rfl
              refine lp_x hK37 ?_
              refine blk_e hK36 ?_
              exact cut_n hK35 ⟨(Option.some.inj h).symm, rfl, hS⟩
          · obtain ⟨rfl, rfl, hS⟩ := hq
            replace h := g40
            try dsimp only at h
            refine blk_n0 hK26 ?_
            refine seq_n hK25 ?_
            refine w_reg gC ?_
            try simp only [W, EE, Nat.reduceAdd]
            exact lp_n hK19 h ⟨rfl, hS⟩
        · refine w_exit ?_
          refine seq_x hK24 ?_
          try obtain rfl := Option.some.inj h
          obtain rfl := hd20 _ rfl
          have h : (some (LR.next ()) : Option (LR Unit (Bool × Bool))) = some (LR.next ()) := rfl
          refine lp_x hK19 ?_
          refine blk_e hK18 ?_
          exact cut_n hK17 ⟨(Option.some.inj h).symm, rfl, hS⟩
      · obtain ⟨rfl, rfl, hS⟩ := hq
        replace h := g22
        try dsimp only at h
        refine seq_n hK12 ?_
        refine w_seq fun K62 hK62 => ?_
        refine w_reg gC ?_
        try simp only [W, Nat.reduceAdd]
        refine seq_n hK62 ?_
        refine w_ret ?_
        refine fin_r2 hK0 rfl rfl ?_
        try obtain rfl := Option.some.inj h
        exact hP _ hS
theorem spec_Conforms_w {a0 : Int} {a1 : Int} {a2 : List Int} {r : (Bool × Bool)} (h : spec_Conforms a0 a1 a2 = some r) {F : List It} {H : Heap} (hS : Own H (F)) {P : AV → Heap → Prop} (hP : ∀ H', Own H' (F) → P (.tup [.bool r.1, .bool r.2]) H') : ACall C 27 [.int .i64 a0, .int .i64 a1, .fz (a2.map (AV.int .i64))] H P := by
  refine acall_of gC (res := [.tmp 6, .tmp 7]) (n := 48) rfl rfl rfl rfl fun K0 hK0 => ?_
  simp only [W, Nat.reduceSub, Nat.reduceAdd, List.replicate]
  unfold spec_Conforms at h
  refine w_seq fun K1 hK1 => ?_
  refine w_reg gC ?_
  try simp only [W, Nat.reduceAdd]
  refine seq_n hK1 ?_
  refine w_seq fun K2 hK2 => ?_
  refine w_seq fun K3 hK3 => ?_
  obtain ⟨y5, h, g6⟩ := Option.bind_eq_some_iff.1 h
  refine w_join gC (fun s H => ∃ x4 : Bool, y5 = (x4) ∧ s = [.int .i64 a0, .int .i64 a1, .fz (a2.map (AV.int .i64)), u, u, u, u, u, u, u, u, u, u, u, u, u, u, u, u, .bool x4, u, u, u, u, u, u, u, u, u, u, u, u, u, u, u, u, u, u, u, u, u, u, u, u, u, u, u, u] ∧ Own H (F)) (fun K7 hK7 => ?_) (fun s H hq => ?_)
  · refine w_seq fun K8 hK8 => ?_
    refine w_reg gC ?_
    try simp only [W, Nat.reduceAdd]
    refine w_call h fun b9 hb9 h => ?_
    refine spec_l7Rate_w hb9 hS fun H hS => ?_
    try simp only [W]
    refine w_grdT h (fun hc h => ?_) (fun hc h => ?_)
    · try simp only [W, hc]
      refine seq_n hK8 ?_
      refine w_kill ?_
      exact cut_n hK7 ⟨_, (Option.some.inj h).symm, rfl, hS⟩
    · try simp only [W, hc]
      refine w_call h fun b10 hb10 h => ?_
      refine spec_l7Flow_w hb10 hS fun H hS => ?_
      try simp only [W, reduceIte, Bool.false_eq_true]
      refine seq_n hK8 ?_
      refine w_kill ?_
      exact cut_n hK7 ⟨_, (Option.some.inj h).symm, rfl, hS⟩
  · obtain ⟨x4, ey, rfl, hS⟩ := hq; obtain rfl := ey.symm
    replace h := g6
    try dsimp only at h
    refine seq_n hK3 ?_
    refine w_if ?_
    simp only [W]
    refine w_cnd h (fun hc h => ?_) (fun hc h => ?_)
    · refine w_seq fun K11 hK11 => ?_
      refine w_reg gC ?_
      try simp only [W, Nat.reduceAdd]
      refine seq_n hK11 ?_
      refine w_ret ?_
      refine seq_r hK2 ?_
      refine fin_r2 hK0 rfl rfl ?_
      try obtain rfl := Option.some.inj h
      exact hP _ hS
    · refine w_skip ?_
      refine seq_n hK2 ?_
      refine w_seq fun K12 hK12 => ?_
      refine w_seq fun K13 hK13 => ?_
      refine w_reg gC ?_
      try simp only [W, EE, Nat.reduceAdd]
      refine seq_n hK13 ?_
      obtain ⟨y15, hw16, g22⟩ := Option.bind_eq_some_iff.1 h
      refine w_join gC (fun s H => y15 = LR.next () ∧ s = [u, u, u, u, u, u, u, u, u, u, u, u, u, u, u, u, u, u, u, u, u, u, u, u, u, u, u, u, u, u, u, u, u, u, u, u, u, u, u, u, u, u, u, u, u, u, u, u] ∧ Own H (F)) (fun K17 hK17 => ?_) (fun s H hq => ?_)
      · refine w_blk fun K18 hK18 => ?_
        refine w_loop gC hw16 (fun x s H => s = [.int .i64 a0, .int .i64 a1, .fz (a2.map (AV.int .i64)), u, u, u, u, u, u, u, u, u, u, u, u, u, u, u, u, u, u, .int .i64 (a2.length : Int), .int .i64 x, u, u, u, u, u, u, u, u, u, u, u, u, u, u, u, u, u, u, u, u, u, u, u, u, u] ∧ Own H (F)) ⟨rfl, hS⟩ (fun x14 y21 s H h hd20 hi K19 hK19 => ?_)
        skip
        try dsimp only at hi
        obtain ⟨rfl, hS⟩ := hi
        simp only [spec_Conforms_l1] at h
        refine w_seq fun K23 hK23 => ?_
        refine w_reg gC ?_
        try simp only [W, EE, Nat.reduceAdd]
        refine seq_n hK23 ?_
        refine w_seq fun K24 hK24 => ?_
        refine w_if ?_
        simp only [W]
        refine w_cnd h (fun hc h => ?_) (fun hc h => ?_)
        · refine w_skip ?_
          refine seq_n hK24 ?_
          refine w_seq fun K25 hK25 => ?_
          refine w_blk fun K26 hK26 => ?_
          refine w_seq fun K27 hK27 => ?_
          refine w_reg gC ?_
          try simp only [W, Nat.reduceAdd]
          refine seq_n hK27 ?_
          refine w_seq fun K28 hK28 => ?_
          refine w_reg gC ?_
          try simp only [W, Nat.reduceAdd]
          refine seq_n hK28 ?_
          refine w_seq fun K29 hK29 => ?_
          refine w_reg gC ?_
          try simp only [W, Nat.reduceAdd]
          refine seq_n hK29 ?_
          obtain ⟨y32, hw33, g39⟩ := Option.bind_eq_some_iff.1 h
          refine w_join gC (fun s H => y32 = LR.next () ∧ s = [.int .i64 a0, .int .i64 a1, .fz (a2.map (AV.int .i64)), u, u, u, u, u, u, u, u, u, u, u, u, u, u, u, u, u, u, .int .i64 (a2.length : Int), .int .i64 x14, u, u, u, u, u, u, u, u, u, u, u, u, u, u, u, u, u, u, u, u, u, u, u, u, u] ∧ Own H (F)) (fun K34 hK34 => ?_) (fun s H hq => ?_)
          · refine w_blk fun K35 hK35 => ?_
            refine w_loop gC hw33 (fun x s H => match x with | (x30, x31) => s = [.int .i64 a0, .int .i64 a1, .fz (a2.map (AV.int .i64)), u, u, u, u, u, .int .i64 x14, .int .i64 x30, .int .i64 x31, u, u, u, u, u, u, u, u, u, u, .int .i64 (a2.length : Int), .int .i64 x14, u, u, u, u, u, u, u, u, u, u, u, u, u, u, u, u, u, u, u, u, u, u, u, u, u] ∧ Own H (F)) ⟨rfl, hS⟩ (fun x y38 s H h hd37 hi K36 hK36 => ?_)
            obtain ⟨x30, x31⟩ := x
            try dsimp only at hi
            obtain ⟨rfl, hS⟩ := hi
            simp only [spec_Conforms_l0] at h
            refine w_seq fun K40 hK40 => ?_
            refine w_seq fun K41 hK41 => ?_
            refine w_reg gC ?_
            try simp only [W, EE, Nat.reduceAdd]
            refine seq_n hK41 ?_
            refine w_if ?_
            simp only [W]
            refine w_cnd h (fun hc h => ?_) (fun hc h => ?_)
            · refine w_skip ?_
              refine seq_n hK40 ?_
              refine w_seq fun K42 hK42 => ?_
              refine w_blk fun K43 hK43 => ?_
              refine w_seq fun K44 hK44 => ?_
              refine w_reg gC ?_
              try simp only [W, EE, Nat.reduceAdd]
              refine w_fz rfl rfl rfl (fun _ => rfl) h fun b45 hb45 h => ?_
              try simp only [W, EE]
              refine seq_n hK44 ?_
              refine w_seq fun K46 hK46 => ?_
              refine w_reg gC ?_
              try simp only [W, EE, Nat.reduceAdd]
              refine seq_n hK46 ?_
              refine w_if ?_
              simp only [W]
              refine w_cnd h (fun hc h => ?_) (fun hc h => ?_)
              · refine w_seq fun K47 hK47 => ?_
                refine w_reg gC ?_
                try simp only [W, Nat.reduceAdd]
                refine seq_n hK47 ?_
                refine w_ret ?_
                refine blk_r hK43 ?_
                refine seq_r hK42 ?_
                try obtain rfl := Option.some.inj h
                obtain rfl := hd37 _ rfl
                have h : (some (LR.done (LR.done (LR.done (false, true)))) : Option (LR Unit (LR (Int) (LR Unit (Bool × Bool))))) = some (LR.done (LR.done (LR.done (false, true)))) := rfl
                refine lp_r hK36 ?_
                refine blk_r hK35 ?_
                try obtain rfl := Option.some.inj h
                obtain rfl := Option.some.inj g39
                have h : (some (LR.done (LR.done (false, true))) : Option (LR (Int) (LR Unit (Bool × Bool)))) = some (LR.done (LR.done (false, true))) := rfl
                refine cut_r hK34 ?_
                refine blk_r hK26 ?_
                refine seq_r hK25 ?_
                try obtain rfl := Option.some.inj h
                obtain rfl := hd20 _ rfl
                have h : (some (LR.done (false, true)) : Option (LR Unit (Bool × Bool))) = some (LR.done (false, true)) := rfl
                refine lp_r hK19 ?_
                refine blk_r hK18 ?_
                try obtain rfl := Option.some.inj h
                obtain rfl := Option.some.inj g22
                have h : (some (false, true) : Option (Bool × Bool)) = some (false, true) := rfl
                refine cut_r hK17 ?_
                refine seq_r hK12 ?_
                refine fin_r2 hK0 rfl rfl ?_
                try obtain rfl := Option.some.inj h
                exact hP _ hS
              · refine w_skip ?_
                refine blk_n0 hK43 ?_
                refine seq_n hK42 ?_
                refine w_reg gC ?_
                try simp only [W, EE, Nat.reduceAdd]
                exact lp_n hK36 h ⟨rfl, hS⟩
            · refine w_exit ?_
              refine seq_x hK40 ?_
              try obtain rfl := Option.some.inj h
              obtain rfl := hd37 _ rfl
              have h : (some (LR.next ()) : Option (LR Unit (LR (Int) (LR Unit (Bool × Bool))))) = some (LR.next ()) := rfl
              refine lp_x hK36 ?_
              refine blk_e hK35 ?_
              exact cut_n hK34 ⟨(Option.some.inj h).symm, rfl, hS⟩
          · obtain ⟨rfl, rfl, hS⟩ := hq
            replace h := g39
            try dsimp only at h
            refine blk_n0 hK26 ?_
            refine seq_n hK25 ?_
            refine w_reg gC ?_
            try simp only [W, EE, Nat.reduceAdd]
            exact lp_n hK19 h ⟨rfl, hS⟩
        · refine w_exit ?_
          refine seq_x hK24 ?_
          try obtain rfl := Option.some.inj h
          obtain rfl := hd20 _ rfl
          have h : (some (LR.next ()) : Option (LR Unit (Bool × Bool))) = some (LR.next ()) := rfl
          refine lp_x hK19 ?_
          refine blk_e hK18 ?_
          exact cut_n hK17 ⟨(Option.some.inj h).symm, rfl, hS⟩
      · obtain ⟨rfl, rfl, hS⟩ := hq
        replace h := g22
        try dsimp only at h
        refine seq_n hK12 ?_
        refine w_seq fun K60 hK60 => ?_
        refine w_reg gC ?_
        try simp only [W, Nat.reduceAdd]
        refine seq_n hK60 ?_
        refine w_ret ?_
        refine fin_r2 hK0 rfl rfl ?_
        try obtain rfl := Option.some.inj h
        exact hP _ hS
theorem laws_sameInts_w {a0 : List Int} {a1 : List Int} {r : (Bool)} (h : laws_sameInts a0 a1 = some r) {F : List It} {H : Heap} (hS : Own H (F)) {P : AV → Heap → Prop} (hP : ∀ H', Own H' (F) → P (.bool r) H') : ACall C 22 [.fz (a0.map (AV.int .i64)), .fz (a1.map (AV.int .i64))] H P := by
  refine acall_of gC (res := [.tmp 4]) (n := 26) rfl rfl rfl rfl fun K0 hK0 => ?_
  simp only [W, Nat.reduceSub, Nat.reduceAdd, List.replicate]
  unfold laws_sameInts at h
  refine w_seq fun K1 hK1 => ?_
  refine w_reg gC ?_
  try simp only [W, Nat.reduceAdd]
  refine seq_n hK1 ?_
  refine w_seq fun K2 hK2 => ?_
  refine w_seq fun K3 hK3 => ?_
  refine w_reg gC ?_
  try simp only [W, EE, Nat.reduceAdd]
  refine seq_n hK3 ?_
  refine w_if ?_
  simp only [W]
  refine w_cnd h (fun hc h => ?_) (fun hc h => ?_)
  · refine w_seq fun K4 hK4 => ?_
    refine w_reg gC ?_
    try simp only [W, Nat.reduceAdd]
    refine seq_n hK4 ?_
    refine w_ret ?_
    refine seq_r hK2 ?_
    refine fin_r1 hK0 rfl ?_
    try obtain rfl := Option.some.inj h
    exact hP _ hS
  · refine w_skip ?_
    refine seq_n hK2 ?_
    refine w_seq fun K5 hK5 => ?_
    refine w_seq fun K6 hK6 => ?_
    refine w_reg gC ?_
    try simp only [W, EE, Nat.reduceAdd]
    refine seq_n hK6 ?_
    obtain ⟨y8, hw9, g15⟩ := Option.bind_eq_some_iff.1 h
    refine w_join gC (fun s H => y8 = LR.next () ∧ s = [u, u, u, u, u, u, u, u, u, u, u, u, u, u, u, u, u, u, u, u, u, u, u, u, u, u] ∧ Own H (F)) (fun K10 hK10 => ?_) (fun s H hq => ?_)
    · refine w_blk fun K11 hK11 => ?_
      refine w_loop gC hw9 (fun x s H => s = [.fz (a0.map (AV.int .i64)), .fz (a1.map (AV.int .i64)), u, u, u, u, u, u, u, u, u, u, .int .i64 (a0.length : Int), .int .i64 x, u, u, u, u, u, u, u, u, u, u, u, u] ∧ Own H (F)) ⟨rfl, hS⟩ (fun x7 y14 s H h hd13 hi K12 hK12 => ?_)
      skip
      try dsimp only at hi
      obtain ⟨rfl, hS⟩ := hi
      simp only [laws_sameInts_l0] at h
      refine w_seq fun K16 hK16 => ?_
      refine w_reg gC ?_
      try simp only [W, EE, Nat.reduceAdd]
      refine seq_n hK16 ?_
      refine w_seq fun K17 hK17 => ?_
      refine w_if ?_
      simp only [W]
      refine w_cnd h (fun hc h => ?_) (fun hc h => ?_)
      · refine w_skip ?_
        refine seq_n hK17 ?_
        refine w_seq fun K18 hK18 => ?_
        refine w_blk fun K19 hK19 => ?_
        refine w_seq fun K20 hK20 => ?_
        refine w_reg gC ?_
        try simp only [W, Nat.reduceAdd]
        refine seq_n hK20 ?_
        refine w_seq fun K21 hK21 => ?_
        refine w_draw0 gC (by kernel_rfl) ?_
        try simp only [W, EE, Nat.reduceAdd]
        refine w_fz rfl rfl rfl (fun _ => rfl) h fun b22 hb22 h => ?_
        try simp only [W, EE]
        refine w_fz rfl rfl rfl (fun _ => rfl) h fun b23 hb23 h => ?_
        try simp only [W, EE]
        refine seq_n hK21 ?_
        refine w_if ?_
        simp only [W]
        refine w_cnd h (fun hc h => ?_) (fun hc h => ?_)
        · refine w_seq fun K24 hK24 => ?_
          refine w_reg gC ?_
          try simp only [W, Nat.reduceAdd]
          refine seq_n hK24 ?_
          refine w_ret ?_
          refine blk_r hK19 ?_
          refine seq_r hK18 ?_
          try obtain rfl := Option.some.inj h
          obtain rfl := hd13 _ rfl
          have h : (some (LR.done false) : Option (LR Unit (Bool))) = some (LR.done false) := rfl
          refine lp_r hK12 ?_
          refine blk_r hK11 ?_
          try obtain rfl := Option.some.inj h
          obtain rfl := Option.some.inj g15
          have h : (some false : Option (Bool)) = some false := rfl
          refine cut_r hK10 ?_
          refine seq_r hK5 ?_
          refine fin_r1 hK0 rfl ?_
          try obtain rfl := Option.some.inj h
          exact hP _ hS
        · refine w_skip ?_
          refine blk_n0 hK19 ?_
          refine seq_n hK18 ?_
          refine w_reg gC ?_
          try simp only [W, EE, Nat.reduceAdd]
          exact lp_n hK12 h ⟨rfl, hS⟩
      · refine w_exit ?_
        refine seq_x hK17 ?_
        try obtain rfl := Option.some.inj h
        obtain rfl := hd13 _ rfl
        have h : (some (LR.next ()) : Option (LR Unit (Bool))) = some (LR.next ()) := rfl
        refine lp_x hK12 ?_
        refine blk_e hK11 ?_
        exact cut_n hK10 ⟨(Option.some.inj h).symm, rfl, hS⟩
    · obtain ⟨rfl, rfl, hS⟩ := hq
      replace h := g15
      try dsimp only at h
      refine seq_n hK5 ?_
      refine w_seq fun K31 hK31 => ?_
      refine w_reg gC ?_
      try simp only [W, Nat.reduceAdd]
      refine seq_n hK31 ?_
      refine w_ret ?_
      refine fin_r1 hK0 rfl ?_
      try obtain rfl := Option.some.inj h
      exact hP _ hS
theorem laws_sumOf_w {a0 : List Int} {r : (Int)} (h : laws_sumOf a0 = some r) {F : List It} {H : Heap} (hS : Own H (F)) {P : AV → Heap → Prop} (hP : ∀ H', Own H' (F) → P (.int .i64 r) H') : ACall C 18 [.fz (a0.map (AV.int .i64))] H P := by
  refine acall_of gC (res := [.tmp 2]) (n := 17) rfl rfl rfl rfl fun K0 hK0 => ?_
  simp only [W, Nat.reduceSub, Nat.reduceAdd, List.replicate]
  unfold laws_sumOf at h
  refine w_seq fun K1 hK1 => ?_
  refine w_reg gC ?_
  try simp only [W, Nat.reduceAdd]
  refine seq_n hK1 ?_
  refine w_seq fun K2 hK2 => ?_
  refine w_reg gC ?_
  try simp only [W, Nat.reduceAdd]
  refine seq_n hK2 ?_
  refine w_seq fun K3 hK3 => ?_
  refine w_seq fun K4 hK4 => ?_
  refine w_reg gC ?_
  try simp only [W, EE, Nat.reduceAdd]
  refine seq_n hK4 ?_
  obtain ⟨y8, hw9, g15⟩ := Option.bind_eq_some_iff.1 h
  refine w_join gC (fun s H => ∃ x7 : Int, y8 = (x7) ∧ s = [u, u, u, .int .i64 x7, u, u, u, u, u, u, u, u, u, u, u, u, u] ∧ Own H (F)) (fun K10 hK10 => ?_) (fun s H hq => ?_)
  · refine w_blk fun K11 hK11 => ?_
    refine w_loop gC hw9 (fun x s H => match x with | (x5, x6) => s = [u, u, u, .int .i64 x5, u, u, .fz (a0.map (AV.int .i64)), .int .i64 (a0.length : Int), .int .i64 x6, u, u, u, u, u, u, u, u] ∧ Own H (F)) ⟨rfl, hS⟩ (fun x y14 s H h hd13 hi K12 hK12 => ?_)
    obtain ⟨x5, x6⟩ := x
    try dsimp only at hi
    obtain ⟨rfl, hS⟩ := hi
    simp only [laws_sumOf_l0] at h
    refine w_seq fun K16 hK16 => ?_
    refine w_reg gC ?_
    try simp only [W, EE, Nat.reduceAdd]
    refine seq_n hK16 ?_
    refine w_seq fun K17 hK17 => ?_
    refine w_if ?_
    simp only [W]
    refine w_cnd h (fun hc h => ?_) (fun hc h => ?_)
    · refine w_skip ?_
      refine seq_n hK17 ?_
      refine w_seq fun K18 hK18 => ?_
      refine w_blk fun K19 hK19 => ?_
      refine w_seq fun K20 hK20 => ?_
      refine w_reg gC ?_
      try simp only [W, EE, Nat.reduceAdd]
      refine w_fz rfl rfl rfl (fun _ => rfl) h fun b21 hb21 h => ?_
      try simp only [W, EE]
      refine seq_n hK20 ?_
      refine w_reg gC ?_
      try simp only [W, EE, Nat.reduceAdd]
      refine blk_n0 hK19 ?_
      refine seq_n hK18 ?_
      refine w_reg gC ?_
      try simp only [W, EE, Nat.reduceAdd]
      exact lp_n hK12 h ⟨rfl, hS⟩
    · refine w_exit ?_
      refine seq_x hK17 ?_
      try obtain rfl := Option.some.inj h
      obtain rfl := hd13 _ rfl
      have h : (some (x5) : Option (Int)) = some (x5) := rfl
      refine lp_x hK12 ?_
      refine blk_e hK11 ?_
      exact cut_n hK10 ⟨_, (Option.some.inj h).symm, rfl, hS⟩
  · obtain ⟨x7, ey, rfl, hS⟩ := hq; obtain rfl := ey.symm
    replace h := g15
    try dsimp only at h
    refine seq_n hK3 ?_
    refine w_seq fun K24 hK24 => ?_
    refine w_reg gC ?_
    try simp only [W, Nat.reduceAdd]
    refine seq_n hK24 ?_
    refine w_ret ?_
    refine fin_r1 hK0 rfl ?_
    try obtain rfl := Option.some.inj h
    exact hP _ hS
theorem spec_l1Cur_bucket_w {a0 : L1Cur} {i0 : Nat} {w0 : Nat} {r : (Bucket × L1Cur)} (h : spec_l1Cur_bucket a0 = some r) {F : List It} {H : Heap} (hS : Own H (⟨.ptr i0 w0 0 0, 3, [.agg [.fz (a0.Code.map (AV.int .u8)), .int .i64 a0.At, .int .u64 a0.Seed]]⟩ :: F)) {P : AV → Heap → Prop} (hP : ∀ H', Own H' (⟨.ptr i0 w0 0 0, 3, [.agg [.fz (r.2.Code.map (AV.int .u8)), .int .i64 r.2.At, .int .u64 r.2.Seed]]⟩ :: F) → P (.agg [.int .i64 r.1.Rate, .int .i64 r.1.Depth, .int .i64 r.1.Has]) H') : ACall C 167 [.ptr i0 w0 0 0] H P := by
  refine acall_of gC (res := [.cell 2 43]) (n := 28) rfl rfl rfl rfl fun K0 hK0 => ?_
  simp only [W, Nat.reduceSub, Nat.reduceAdd, List.replicate]
  unfold spec_l1Cur_bucket at h
  refine w_seq fun K1 hK1 => ?_
  refine w_reg gC ?_
  try simp only [W, Nat.reduceAdd]
  refine w_alloc hS rfl rfl fun ip2 wp2 H hS => ?_
  try simp only [W]
  refine seq_n hK1 ?_
  refine w_seq fun K4 hK4 => ?_
  refine w_reg gC ?_
  try simp only [W, Nat.reduceAdd]
  refine w_call h fun b5 hb5 h => ?_
  obtain ⟨b6, b7, b8⟩ := b5
  try dsimp only at h
  refine spec_l1Cur_rate_w hb5 (hS.sel 2 [1, 0] (by decide)) fun H hS => ?_
  try simp only [W]
  refine seq_n hK4 ?_
  refine w_seq fun K9 hK9 => ?_
  refine w_reg gC ?_
  try simp only [W, Nat.reduceAdd]
  refine w_call h fun b10 hb10 h => ?_
  obtain ⟨b11, b12⟩ := b10
  try dsimp only at h
  refine spec_l1Cur_pick_w hb10 hS fun H hS => ?_
  try simp only [W, EE]
  refine w_bld rfl rfl rfl rfl rfl ?_
  try simp only [W]
  refine w_alloc hS rfl rfl fun ip13 wp13 H hS => ?_
  try simp only [W]
  refine w_stv (a := .agg [.int .i64 b6, .int .i64 b7, .int .i64 b11]) (y' := .agg [.int .i64 b6, .int .i64 b7, .int .i64 b11]) 0 hS rfl rfl rfl rfl rfl rfl rfl rfl fun H hS => ?_
  try simp only [W]
  refine seq_n hK9 ?_
  refine w_seq fun K15 hK15 => ?_
  refine w_seq fun K16 hK16 => ?_
  obtain ⟨y21, h, g22⟩ := Option.bind_eq_some_iff.1 h
  refine w_join gC (fun s H => ∃ x17 : Bool, ∃ x18 : List Int, ∃ x19 : Int, ∃ x20 : Int, y21 = (x17, x18, x19, x20) ∧ s = [u, u, .ptr ip2 wp2 0 0, u, .int .i64 b7, .ptr ip13 wp13 0 0, u, u, u, u, u, u, u, u, u, u, u, u, u, u, u, u, u, u, .bool x17, u, u, u] ∧ Own H (⟨.ptr i0 w0 0 0, 3, [.agg [.fz (x18.map (AV.int .u8)), .int .i64 x19, .int .u64 x20]]⟩ :: ⟨.ptr ip2 wp2 0 0, 3, [.agg [.int .i64 0, .int .i64 0, .int .i64 0]]⟩ :: ⟨.ptr ip13 wp13 0 0, 3, [.agg [.int .i64 b6, .int .i64 b7, .int .i64 b11]]⟩ :: F)) (fun K23 hK23 => ?_) (fun s H hq => ?_)
  · refine w_seq fun K24 hK24 => ?_
    refine w_reg gC ?_
    try simp only [W, EE, Nat.reduceAdd, Nat.reduceBEq, hS.var 0 rfl]
    refine w_grdT h (fun hc h => ?_) (fun hc h => ?_)
    · try simp only [W, hc]
      refine w_call h fun b25 hb25 h => ?_
      obtain ⟨b26, b27⟩ := b25
      try dsimp only at h
      refine spec_l1Cur_one_w hb25 (hS.sel 3 [1, 0, 2] (by decide)) fun H hS => ?_
      try simp only [W, reduceIte]
      refine seq_n hK24 ?_
      refine w_kill ?_
      exact cut_n hK23 ⟨_, _, _, _, (Option.some.inj h).symm, rfl, (hS.sel 3 [0, 2, 1] (by decide))⟩
    · try simp only [W, hc]
      refine seq_n hK24 ?_
      refine w_kill ?_
      exact cut_n hK23 ⟨_, _, _, _, (Option.some.inj h).symm, rfl, (hS.sel 3 [1, 2, 0] (by decide))⟩
  · obtain ⟨x17, x18, x19, x20, rfl, rfl, hS⟩ := hq
    replace h := g22
    try dsimp only at h
    refine seq_n hK16 ?_
    obtain ⟨y29, h, g30⟩ := Option.bind_eq_some_iff.1 h
    refine w_join gC (fun s H => ∃ x28 : Int, y29 = (x28) ∧ s = [u, u, .ptr ip2 wp2 0 0, u, u, .ptr ip13 wp13 0 0, u, u, u, u, u, u, u, u, u, u, u, u, u, u, u, u, u, u, u, u, u, u] ∧ Own H (⟨.ptr i0 w0 0 0, 3, [.agg [.fz (x18.map (AV.int .u8)), .int .i64 x19, .int .u64 x20]]⟩ :: ⟨.ptr ip2 wp2 0 0, 3, [.agg [.int .i64 0, .int .i64 0, .int .i64 0]]⟩ :: ⟨.ptr ip13 wp13 0 0, 3, [.agg [.int .i64 b6, .int .i64 b7, .int .i64 x28]]⟩ :: F)) (fun K31 hK31 => ?_) (fun s H hq => ?_)
    · refine w_seq fun K32 hK32 => ?_
      refine w_if ?_
      simp only [W]
      refine w_cnd h (fun hc h => ?_) (fun hc h => ?_)
      · refine w_reg gC ?_
        try simp only [W, EE, Nat.reduceAdd, Nat.reduceBEq, hS.var 2 rfl]
        refine w_stv (a := .int .i64 b7) (y' := .agg [.int .i64 b6, .int .i64 b7, .int .i64 b7]) 2 hS rfl rfl rfl rfl rfl rfl rfl rfl fun H hS => ?_
        try simp only [W]
        refine seq_n hK32 ?_
        refine w_kill ?_
        exact cut_n hK31 ⟨_, (Option.some.inj h).symm, rfl, hS⟩
      · refine w_skip ?_
        refine seq_n hK32 ?_
        refine w_kill ?_
        exact cut_n hK31 ⟨_, (Option.some.inj h).symm, rfl, hS⟩
    · obtain ⟨x28, ey, rfl, hS⟩ := hq; obtain rfl := ey.symm
      replace h := g30
      try dsimp only at h
      refine seq_n hK15 ?_
      refine w_seq fun K33 hK33 => ?_
      refine w_reg gC ?_
      try simp only [W, EE, reduceIte, Nat.reduceAdd, Nat.reduceLeDiff, hS.var 2 rfl]
      refine w_stv (a := .agg [.int .i64 b6, .int .i64 b7, .int .i64 x28]) (y' := .agg [.int .i64 b6, .int .i64 b7, .int .i64 x28]) 1 hS rfl rfl rfl rfl rfl rfl rfl rfl fun H hS => ?_
      try simp only [W]
      refine seq_n hK33 ?_
      refine w_ret ?_
      refine fin_r hK0 (res_c rfl rfl (hS.var 1 rfl) rfl rfl) ?_
      try obtain rfl := Option.some.inj h
      exact hP _ (hS.sel 3 [0] (by decide))
theorem spec_DrawGoodBucket_w {a0 : List Int} {r : (Bucket)} (h : spec_DrawGoodBucket a0 = some r) {F : List It} {H : Heap} (hS : Own H (F)) {P : AV → Heap → Prop} (hP : ∀ H', Own H' (F) → P (.agg [.int .i64 r.Rate, .int .i64 r.Depth, .int .i64 r.Has]) H') : ACall C 165 [.fz (a0.map (AV.int .u8))] H P := by
  refine acall_of gC (res := [.cell 2 43]) (n := 9) rfl rfl rfl rfl fun K0 hK0 => ?_
  simp only [W, Nat.reduceSub, Nat.reduceAdd, List.replicate]
  unfold spec_DrawGoodBucket at h
  refine w_seq fun K1 hK1 => ?_
  refine w_reg gC ?_
  try simp only [W, Nat.reduceAdd]
  refine w_alloc hS rfl rfl fun ip2 wp2 H hS => ?_
  try simp only [W]
  refine seq_n hK1 ?_
  refine w_seq fun K4 hK4 => ?_
  refine w_reg gC ?_
  try simp only [W, EE, Nat.reduceAdd]
  refine w_bld rfl rfl rfl rfl rfl ?_
  try simp only [W]
  refine w_box hS rfl rfl rfl rfl fun ip5 wp5 H hS => ?_
  try simp only [W]
  refine seq_n hK4 ?_
  refine w_seq fun K7 hK7 => ?_
  refine w_reg gC ?_
  try simp only [W, Nat.reduceAdd]
  refine w_call h fun b8 hb8 h => ?_
  obtain ⟨b9, b10⟩ := b8
  try dsimp only at h
  refine spec_l1Cur_bucket_w hb8 hS fun H hS => ?_
  try simp only [W]
  refine w_stv (a := .agg [.int .i64 b9.Rate, .int .i64 b9.Depth, .int .i64 b9.Has]) (y' := .agg [.int .i64 b9.Rate, .int .i64 b9.Depth, .int .i64 b9.Has]) 1 hS rfl rfl rfl rfl rfl rfl rfl rfl fun H hS => ?_
  try simp only [W]
  refine seq_n hK7 ?_
  refine w_ret ?_
  refine fin_r hK0 (res_c rfl rfl (hS.var 1 rfl) rfl rfl) ?_
  try obtain rfl := Option.some.inj h
  exact hP _ (hS.sel 2 [] (by decide))
theorem spec_DrawTickBucket_w {a0 : List Int} {r : (Bucket)} (h : spec_DrawTickBucket a0 = some r) {F : List It} {H : Heap} (hS : Own H (F)) {P : AV → Heap → Prop} (hP : ∀ H', Own H' (F) → P (.agg [.int .i64 r.Rate, .int .i64 r.Depth, .int .i64 r.Has]) H') : ACall C 28 [.fz (a0.map (AV.int .u8))] H P := by
  refine acall_of gC (res := [.cell 2 43]) (n := 5) rfl rfl rfl rfl fun K0 hK0 => ?_
  simp only [W, Nat.reduceSub, Nat.reduceAdd, List.replicate]
  unfold spec_DrawTickBucket at h
  refine w_seq fun K1 hK1 => ?_
  refine w_reg gC ?_
  try simp only [W, Nat.reduceAdd]
  refine w_alloc hS rfl rfl fun ip2 wp2 H hS => ?_
  try simp only [W]
  refine seq_n hK1 ?_
  refine w_seq fun K4 hK4 => ?_
  refine w_reg gC ?_
  try simp only [W, Nat.reduceAdd]
  refine w_call h fun b5 hb5 h => ?_
  refine spec_DrawGoodBucket_w hb5 hS fun H hS => ?_
  try simp only [W]
  refine w_stv (a := .agg [.int .i64 b5.Rate, .int .i64 b5.Depth, .int .i64 b5.Has]) (y' := .agg [.int .i64 b5.Rate, .int .i64 b5.Depth, .int .i64 b5.Has]) 0 hS rfl rfl rfl rfl rfl rfl rfl rfl fun H hS => ?_
  try simp only [W]
  refine seq_n hK4 ?_
  refine w_ret ?_
  refine fin_r hK0 (res_c rfl rfl (hS.var 0 rfl) rfl rfl) ?_
  try obtain rfl := Option.some.inj h
  exact hP _ (hS.sel 1 [] (by decide))
theorem spec_GoodBucket_w {a0 : Bucket} {r : (Bool)} (h : spec_GoodBucket a0 = some r) {F : List It} {H : Heap} (hS : Own H (F)) {P : AV → Heap → Prop} (hP : ∀ H', Own H' (F) → P (.bool r) H') : ACall C 166 [.agg [.int .i64 a0.Rate, .int .i64 a0.Depth, .int .i64 a0.Has]] H P := by
  refine acall_of gC (res := [.tmp 2]) (n := 15) rfl rfl rfl rfl fun K0 hK0 => ?_
  simp only [W, Nat.reduceSub, Nat.reduceAdd, List.replicate]
  unfold spec_GoodBucket at h
  refine w_seq fun K1 hK1 => ?_
  refine w_reg gC ?_
  try simp only [W, Nat.reduceAdd]
  refine w_box hS rfl rfl rfl rfl fun ip2 wp2 H hS => ?_
  try simp only [W]
  refine seq_n hK1 ?_
  refine w_seq fun K4 hK4 => ?_
  refine w_reg gC ?_
  try simp only [W, EE, Nat.reduceAdd, Nat.reduceBEq, hS.var 0 rfl]
  refine w_call h fun b5 hb5 h => ?_
  refine spec_l7Rate_w hb5 hS fun H hS => ?_
  try simp only [W]
  refine w_grdT h (fun hc h => ?_) (fun hc h => ?_)
  · try simp only [W, EE, Nat.reduceAdd, Nat.reduceBEq, hS.var 0 rfl, hc]
    refine w_call h fun b6 hb6 h => ?_
    refine spec_l1In_w hb6 hS fun H hS => ?_
    try simp only [W, reduceIte]
    refine seq_n hK4 ?_
    refine w_ret ?_
    refine fin_r1 hK0 rfl ?_
    try obtain rfl := Option.some.inj h
    exact hP _ (hS.sel 1 [] (by decide))
  · try simp only [W, hc]
    refine seq_n hK4 ?_
    refine w_ret ?_
    refine fin_r1 hK0 rfl ?_
    try obtain rfl := Option.some.inj h
    exact hP _ (hS.sel 1 [] (by decide))
theorem spec_TickBucket_w {a0 : Bucket} {r : (Bucket × Bool)} (h : spec_TickBucket a0 = some r) {F : List It} {H : Heap} (hS : Own H (F)) {P : AV → Heap → Prop} (hP : ∀ H', Own H' (F) → P (.tup [.agg [.int .i64 r.1.Rate, .int .i64 r.1.Depth, .int .i64 r.1.Has], .bool r.2]) H') : ACall C 30 [.agg [.int .i64 a0.Rate, .int .i64 a0.Depth, .int .i64 a0.Has]] H P := by
  refine acall_of gC (res := [.cell 2 43, .tmp 3]) (n := 10) rfl rfl rfl rfl fun K0 hK0 => ?_
  simp only [W, Nat.reduceSub, Nat.reduceAdd, List.replicate]
  unfold spec_TickBucket at h
  refine w_seq fun K1 hK1 => ?_
  refine w_reg gC ?_
  try simp only [W, Nat.reduceAdd]
  refine w_box hS rfl rfl rfl rfl fun ip2 wp2 H hS => ?_
  try simp only [W]
  refine w_alloc hS rfl rfl fun ip4 wp4 H hS => ?_
  try simp only [W]
  refine seq_n hK1 ?_
  refine w_seq fun K6 hK6 => ?_
  refine w_seq fun K7 hK7 => ?_
  refine w_reg gC ?_
  try simp only [W, EE, reduceIte, Nat.reduceAdd, Nat.reduceLeDiff, hS.var 1 rfl]
  refine w_call h fun b8 hb8 h => ?_
  refine spec_GoodBucket_w hb8 hS fun H hS => ?_
  try simp only [W]
  refine seq_n hK7 ?_
  refine w_if ?_
  simp only [W]
  refine w_cnd h (fun hc h => ?_) (fun hc h => ?_)
  · refine w_seq fun K9 hK9 => ?_
    refine w_reg gC ?_
    try simp only [W, EE, Nat.reduceAdd]
    refine w_bld rfl rfl rfl rfl rfl ?_
    try simp only [W]
    refine w_stv (a := .agg [.int .i64 0, .int .i64 0, .int .i64 0]) (y' := .agg [.int .i64 0, .int .i64 0, .int .i64 0]) 0 hS rfl rfl rfl rfl rfl rfl rfl rfl fun H hS => ?_
    try simp only [W]
    refine seq_n hK9 ?_
    refine w_ret ?_
    refine seq_r hK6 ?_
    refine fin_r hK0 (res_c rfl rfl (hS.var 0 rfl) rfl (res_tc rfl rfl)) ?_
    try obtain rfl := Option.some.inj h
    exact hP _ (hS.sel 2 [] (by decide))
  · refine w_skip ?_
    refine seq_n hK6 ?_
    refine w_seq fun K10 hK10 => ?_
    refine w_reg gC ?_
    try simp only [W, EE, reduceIte, Nat.reduceAdd, Nat.reduceLeDiff, hS.var 1 rfl]
    refine w_call h fun b11 hb11 h => ?_
    refine spec_l7Tick_w hb11 hS fun H hS => ?_
    try simp only [W]
    refine w_stv (a := .agg [.int .i64 b11.Rate, .int .i64 b11.Depth, .int .i64 b11.Has]) (y' := .agg [.int .i64 b11.Rate, .int .i64 b11.Depth, .int .i64 b11.Has]) 0 hS rfl rfl rfl rfl rfl rfl rfl rfl fun H hS => ?_
    try simp only [W]
    refine seq_n hK10 ?_
    refine w_ret ?_
    refine fin_r hK0 (res_c rfl rfl (hS.var 0 rfl) rfl (res_tc rfl rfl)) ?_
    try obtain rfl := Option.some.inj h
    exact hP _ (hS.sel 2 [] (by decide))
theorem spec_DrawTakeBucket_w {a0 : List Int} {r : (Bucket × Int)} (h : spec_DrawTakeBucket a0 = some r) {F : List It} {H : Heap} (hS : Own H (F)) {P : AV → Heap → Prop} (hP : ∀ H', Own H' (F) → P (.tup [.agg [.int .i64 r.1.Rate, .int .i64 r.1.Depth, .int .i64 r.1.Has], .int .i64 r.2]) H') : ACall C 31 [.fz (a0.map (AV.int .u8))] H P := by
  refine acall_of gC (res := [.cell 2 43, .tmp 3]) (n := 18) rfl rfl rfl rfl fun K0 hK0 => ?_
  simp only [W, Nat.reduceSub, Nat.reduceAdd, List.replicate]
  unfold spec_DrawTakeBucket at h
  refine w_seq fun K1 hK1 => ?_
  refine w_reg gC ?_
  try simp only [W, Nat.reduceAdd]
  refine w_alloc hS rfl rfl fun ip2 wp2 H hS => ?_
  try simp only [W]
  refine seq_n hK1 ?_
  refine w_seq fun K4 hK4 => ?_
  refine w_reg gC ?_
  try simp only [W, EE, Nat.reduceAdd]
  refine w_bld rfl rfl rfl rfl rfl ?_
  try simp only [W]
  refine w_box hS rfl rfl rfl rfl fun ip5 wp5 H hS => ?_
  try simp only [W]
  refine seq_n hK4 ?_
  refine w_seq fun K7 hK7 => ?_
  refine w_reg gC ?_
  try simp only [W, Nat.reduceAdd]
  refine w_call h fun b8 hb8 h => ?_
  obtain ⟨b9, b10⟩ := b8
  try dsimp only at h
  refine spec_l1Cur_bucket_w hb8 hS fun H hS => ?_
  try simp only [W]
  refine w_alloc hS rfl rfl fun ip11 wp11 H hS => ?_
  try simp only [W]
  refine w_stv (a := .agg [.int .i64 b9.Rate, .int .i64 b9.Depth, .int .i64 b9.Has]) (y' := .agg [.int .i64 b9.Rate, .int .i64 b9.Depth, .int .i64 b9.Has]) 0 hS rfl rfl rfl rfl rfl rfl rfl rfl fun H hS => ?_
  try simp only [W]
  refine seq_n hK7 ?_
  refine w_seq fun K13 hK13 => ?_
  refine w_drawL gC [(5, [0]), (7, [6])] (by kernel_rfl) rfl (by kernel_rfl) ?_
  try simp only [W, EE, reduceIte, Nat.reduceAdd, Nat.reduceLeDiff, Nat.reduceBEq, hS.var 0 rfl, tabAt, qAt, Nat.reduceEqDiff]
  refine w_call h fun b14 hb14 h => ?_
  obtain ⟨b15, b16⟩ := b14
  try dsimp only at h
  refine spec_l1Cur_pick_w hb14 (hS.sel 3 [1, 0, 2] (by decide)) fun H hS => ?_
  refine goK_late ?_
  refine lateG_s (by first | rfl | (simp [evalOp, W, EE, rdAt, mkT, subL, AV.cells, hS.var 1 rfl]; done)) ?_
  refine lateG_n ?_
  try simp only [W, EE]
  refine w_stv (a := .agg [.int .i64 b9.Rate, .int .i64 b9.Depth, .int .i64 b9.Has]) (y' := .agg [.int .i64 b9.Rate, .int .i64 b9.Depth, .int .i64 b9.Has]) 2 hS rfl rfl rfl rfl rfl rfl rfl rfl fun H hS => ?_
  refine goK_late ?_
  refine lateG_s (by first | rfl | (simp [evalOp, W, EE, EN, rdAt, mkT, subL, AV.cells, hS.var 0 rfl, hS.var 1 rfl, hS.var 2 rfl]; done)) ?_
  refine lateG_n ?_
  try simp only [W]
  refine seq_n hK13 ?_
  refine w_ret ?_
  refine fin_r hK0 (res_c rfl rfl (hS.var 2 rfl) rfl (res_tc rfl rfl)) ?_
  try obtain rfl := Option.some.inj h
  exact hP _ (hS.sel 3 [] (by decide))
theorem impl_TakeBucket_w {a0 : Bucket} {a1 : Int} {r : (Bucket × Bool)} (h : impl_TakeBucket a0 a1 = some r) {F : List It} {H : Heap} (hS : Own H (F)) {P : AV → Heap → Prop} (hP : ∀ H', Own H' (F) → P (.tup [.agg [.int .i64 r.1.Rate, .int .i64 r.1.Depth, .int .i64 r.1.Has], .bool r.2]) H') : ACall C 32 [.agg [.int .i64 a0.Rate, .int .i64 a0.Depth, .int .i64 a0.Has], .int .i64 a1] H P := by
  refine acall_of gC (res := [.cell 4 43, .tmp 5]) (n := 27) rfl rfl rfl rfl fun K0 hK0 => ?_
  simp only [W, Nat.reduceSub, Nat.reduceAdd, List.replicate]
  unfold impl_TakeBucket at h
  refine w_seq fun K1 hK1 => ?_
  refine w_reg gC ?_
  try simp only [W, Nat.reduceAdd]
  refine w_box hS rfl rfl rfl rfl fun ip2 wp2 H hS => ?_
  try simp only [W]
  refine w_alloc hS rfl rfl fun ip4 wp4 H hS => ?_
  try simp only [W]
  refine seq_n hK1 ?_
  refine w_seq fun K6 hK6 => ?_
  refine w_seq fun K7 hK7 => ?_
  obtain ⟨y9, h, g10⟩ := Option.bind_eq_some_iff.1 h
  refine w_join gC (fun s H => ∃ x8 : Bool, y9 = (x8) ∧ s = [u, .int .i64 a1, .ptr ip2 wp2 0 0, u, .ptr ip4 wp4 0 0, u, u, u, u, u, u, u, u, u, u, u, u, u, u, .bool x8, u, u, u, u, u, u, u] ∧ Own H (⟨.ptr ip2 wp2 0 0, 3, [.agg [.int .i64 a0.Rate, .int .i64 a0.Depth, .int .i64 a0.Has]]⟩ :: ⟨.ptr ip4 wp4 0 0, 3, [.agg [.int .i64 0, .int .i64 0, .int .i64 0]]⟩ :: F)) (fun K11 hK11 => ?_) (fun s H hq => ?_)
  · refine w_seq fun K12 hK12 => ?_
    refine w_reg gC ?_
    try simp only [W, EE, reduceIte, Nat.reduceAdd, Nat.reduceLeDiff, hS.var 1 rfl]
    refine w_call h fun b13 hb13 h => ?_
    refine impl_GoodBucket_w hb13 hS fun H hS => ?_
    try simp only [W]
    refine w_grdT h (fun hc h => ?_) (fun hc h => ?_)
    · try simp only [W, hc]
      refine seq_n hK12 ?_
      refine w_kill ?_
      exact cut_n hK11 ⟨_, (Option.some.inj h).symm, rfl, (hS.sel 2 [1, 0] (by decide))⟩
    · try simp only [W, hc]
      refine w_call h fun b14 hb14 h => ?_
      refine impl_in_w hb14 hS fun H hS => ?_
      try simp only [W, reduceIte, Bool.false_eq_true]
      refine w_grdT h (fun hc h => ?_) (fun hc h => ?_)
      · try simp only [W, hc]
        refine seq_n hK12 ?_
        refine w_kill ?_
        exact cut_n hK11 ⟨_, (Option.some.inj h).symm, rfl, (hS.sel 2 [1, 0] (by decide))⟩
      · try simp only [W, EE, reduceIte, Nat.reduceAdd, Nat.reduceBEq, Bool.false_eq_true, hS.var 1 rfl, hc]
        refine seq_n hK12 ?_
        refine w_kill ?_
        exact cut_n hK11 ⟨_, (Option.some.inj h).symm, rfl, (hS.sel 2 [1, 0] (by decide))⟩
  · obtain ⟨x8, ey, rfl, hS⟩ := hq; obtain rfl := ey.symm
    replace h := g10
    try dsimp only at h
    refine seq_n hK7 ?_
    refine w_if ?_
    simp only [W]
    refine w_cnd h (fun hc h => ?_) (fun hc h => ?_)
    · refine w_seq fun K15 hK15 => ?_
      refine w_reg gC ?_
      try simp only [W, EE, Nat.reduceAdd]
      refine w_bld rfl rfl rfl rfl rfl ?_
      try simp only [W]
      refine w_stv (a := .agg [.int .i64 0, .int .i64 0, .int .i64 0]) (y' := .agg [.int .i64 0, .int .i64 0, .int .i64 0]) 1 hS rfl rfl rfl rfl rfl rfl rfl rfl fun H hS => ?_
      try simp only [W]
      refine seq_n hK15 ?_
      refine w_ret ?_
      refine seq_r hK6 ?_
      refine fin_r hK0 (res_c rfl rfl (hS.var 1 rfl) rfl (res_tc rfl rfl)) ?_
      try obtain rfl := Option.some.inj h
      exact hP _ (hS.sel 2 [] (by decide))
    · refine w_skip ?_
      refine seq_n hK6 ?_
      refine w_seq fun K16 hK16 => ?_
      refine w_reg gC ?_
      try simp only [W, EE, Nat.reduceAdd, Nat.reduceBEq, hS.var 0 rfl]
      refine w_stv (a := .int .i64 (IntKind.i64.wrap (a0.Has - a1))) (y' := .agg [.int .i64 a0.Rate, .int .i64 a0.Depth, .int .i64 (IntKind.i64.wrap (a0.Has - a1))]) 0 hS rfl rfl rfl rfl rfl rfl rfl rfl fun H hS => ?_
      try simp only [W]
      refine seq_n hK16 ?_
      refine w_seq fun K17 hK17 => ?_
      refine w_reg gC ?_
      try simp only [W, EE, reduceIte, Nat.reduceAdd, Nat.reduceLeDiff, hS.var 0 rfl]
      refine w_stv (a := .agg [.int .i64 a0.Rate, .int .i64 a0.Depth, .int .i64 (IntKind.i64.wrap (a0.Has - a1))]) (y' := .agg [.int .i64 a0.Rate, .int .i64 a0.Depth, .int .i64 (IntKind.i64.wrap (a0.Has - a1))]) 1 hS rfl rfl rfl rfl rfl rfl rfl rfl fun H hS => ?_
      try simp only [W]
      refine seq_n hK17 ?_
      refine w_ret ?_
      refine fin_r hK0 (res_c rfl rfl (hS.var 1 rfl) rfl (res_tc rfl rfl)) ?_
      try obtain rfl := Option.some.inj h
      exact hP _ (hS.sel 2 [] (by decide))
theorem spec_TakeBucket_w {a0 : Bucket} {a1 : Int} {r : (Bucket × Bool)} (h : spec_TakeBucket a0 a1 = some r) {F : List It} {H : Heap} (hS : Own H (F)) {P : AV → Heap → Prop} (hP : ∀ H', Own H' (F) → P (.tup [.agg [.int .i64 r.1.Rate, .int .i64 r.1.Depth, .int .i64 r.1.Has], .bool r.2]) H') : ACall C 33 [.agg [.int .i64 a0.Rate, .int .i64 a0.Depth, .int .i64 a0.Has], .int .i64 a1] H P := by
  refine acall_of gC (res := [.cell 4 43, .tmp 5]) (n := 23) rfl rfl rfl rfl fun K0 hK0 => ?_
  simp only [W, Nat.reduceSub, Nat.reduceAdd, List.replicate]
  unfold spec_TakeBucket at h
  refine w_seq fun K1 hK1 => ?_
  refine w_reg gC ?_
  try simp only [W, Nat.reduceAdd]
  refine w_box hS rfl rfl rfl rfl fun ip2 wp2 H hS => ?_
  try simp only [W]
  refine w_alloc hS rfl rfl fun ip4 wp4 H hS => ?_
  try simp only [W]
  refine seq_n hK1 ?_
  refine w_seq fun K6 hK6 => ?_
  refine w_seq fun K7 hK7 => ?_
  obtain ⟨y9, h, g10⟩ := Option.bind_eq_some_iff.1 h
  refine w_join gC (fun s H => ∃ x8 : Bool, y9 = (x8) ∧ s = [u, .int .i64 a1, .ptr ip2 wp2 0 0, u, .ptr ip4 wp4 0 0, u, u, u, u, u, u, u, u, u, u, .bool x8, u, u, u, u, u, u, u] ∧ Own H (⟨.ptr ip2 wp2 0 0, 3, [.agg [.int .i64 a0.Rate, .int .i64 a0.Depth, .int .i64 a0.Has]]⟩ :: ⟨.ptr ip4 wp4 0 0, 3, [.agg [.int .i64 0, .int .i64 0, .int .i64 0]]⟩ :: F)) (fun K11 hK11 => ?_) (fun s H hq => ?_)
  · refine w_seq fun K12 hK12 => ?_
    refine w_reg gC ?_
    try simp only [W, EE, reduceIte, Nat.reduceAdd, Nat.reduceLeDiff, hS.var 1 rfl]
    refine w_call h fun b13 hb13 h => ?_
    refine spec_GoodBucket_w hb13 hS fun H hS => ?_
    try simp only [W]
    refine w_grdT h (fun hc h => ?_) (fun hc h => ?_)
    · try simp only [W, hc]
      refine seq_n hK12 ?_
      refine w_kill ?_
      exact cut_n hK11 ⟨_, (Option.some.inj h).symm, rfl, (hS.sel 2 [1, 0] (by decide))⟩
    · try simp only [W, EE, Nat.reduceAdd, Nat.reduceBEq, hS.var 1 rfl, hc]
      refine w_call h fun b14 hb14 h => ?_
      refine spec_l1In_w hb14 hS fun H hS => ?_
      try simp only [W, reduceIte, Bool.false_eq_true]
      refine seq_n hK12 ?_
      refine w_kill ?_
      exact cut_n hK11 ⟨_, (Option.some.inj h).symm, rfl, (hS.sel 2 [1, 0] (by decide))⟩
  · obtain ⟨x8, ey, rfl, hS⟩ := hq; obtain rfl := ey.symm
    replace h := g10
    try dsimp only at h
    refine seq_n hK7 ?_
    refine w_if ?_
    simp only [W]
    refine w_cnd h (fun hc h => ?_) (fun hc h => ?_)
    · refine w_seq fun K15 hK15 => ?_
      refine w_reg gC ?_
      try simp only [W, EE, Nat.reduceAdd]
      refine w_bld rfl rfl rfl rfl rfl ?_
      try simp only [W]
      refine w_stv (a := .agg [.int .i64 0, .int .i64 0, .int .i64 0]) (y' := .agg [.int .i64 0, .int .i64 0, .int .i64 0]) 1 hS rfl rfl rfl rfl rfl rfl rfl rfl fun H hS => ?_
      try simp only [W]
      refine seq_n hK15 ?_
      refine w_ret ?_
      refine seq_r hK6 ?_
      refine fin_r hK0 (res_c rfl rfl (hS.var 1 rfl) rfl (res_tc rfl rfl)) ?_
      try obtain rfl := Option.some.inj h
      exact hP _ (hS.sel 2 [] (by decide))
    · refine w_skip ?_
      refine seq_n hK6 ?_
      refine w_seq fun K16 hK16 => ?_
      refine w_reg gC ?_
      try simp only [W, EE, Nat.reduceAdd, Nat.reduceBEq, hS.var 0 rfl]
      refine w_stv (a := .int .i64 (IntKind.i64.wrap (a0.Has - a1))) (y' := .agg [.int .i64 a0.Rate, .int .i64 a0.Depth, .int .i64 (IntKind.i64.wrap (a0.Has - a1))]) 0 hS rfl rfl rfl rfl rfl rfl rfl rfl fun H hS => ?_
      try simp only [W]
      refine seq_n hK16 ?_
      refine w_seq fun K17 hK17 => ?_
      refine w_reg gC ?_
      try simp only [W, EE, reduceIte, Nat.reduceAdd, Nat.reduceLeDiff, hS.var 0 rfl]
      refine w_stv (a := .agg [.int .i64 a0.Rate, .int .i64 a0.Depth, .int .i64 (IntKind.i64.wrap (a0.Has - a1))]) (y' := .agg [.int .i64 a0.Rate, .int .i64 a0.Depth, .int .i64 (IntKind.i64.wrap (a0.Has - a1))]) 1 hS rfl rfl rfl rfl rfl rfl rfl rfl fun H hS => ?_
      try simp only [W]
      refine seq_n hK17 ?_
      refine w_ret ?_
      refine fin_r hK0 (res_c rfl rfl (hS.var 1 rfl) rfl (res_tc rfl rfl)) ?_
      try obtain rfl := Option.some.inj h
      exact hP _ (hS.sel 2 [] (by decide))
theorem spec_DrawNewBucket_w {a0 : List Int} {r : (Int × Int)} (h : spec_DrawNewBucket a0 = some r) {F : List It} {H : Heap} (hS : Own H (F)) {P : AV → Heap → Prop} (hP : ∀ H', Own H' (F) → P (.tup [.int .i64 r.1, .int .i64 r.2]) H') : ACall C 34 [.fz (a0.map (AV.int .u8))] H P := by
  refine acall_of gC (res := [.tmp 2, .tmp 3]) (n := 12) rfl rfl rfl rfl fun K0 hK0 => ?_
  simp only [W, Nat.reduceSub, Nat.reduceAdd, List.replicate]
  unfold spec_DrawNewBucket at h
  refine w_seq fun K1 hK1 => ?_
  refine w_reg gC ?_
  try simp only [W, Nat.reduceAdd]
  refine seq_n hK1 ?_
  refine w_seq fun K2 hK2 => ?_
  refine w_reg gC ?_
  try simp only [W, EE, Nat.reduceAdd]
  refine w_bld rfl rfl rfl rfl rfl ?_
  try simp only [W]
  refine w_box hS rfl rfl rfl rfl fun ip3 wp3 H hS => ?_
  try simp only [W]
  refine seq_n hK2 ?_
  refine w_seq fun K5 hK5 => ?_
  refine w_reg gC ?_
  try simp only [W, Nat.reduceAdd]
  refine w_call h fun b6 hb6 h => ?_
  obtain ⟨b7, b8, b9⟩ := b6
  try dsimp only at h
  refine spec_l1Cur_rate_w hb6 hS fun H hS => ?_
  try simp only [W]
  refine seq_n hK5 ?_
  refine w_ret ?_
  refine fin_r2 hK0 rfl rfl ?_
  try obtain rfl := Option.some.inj h
  exact hP _ (hS.sel 1 [] (by decide))
theorem laws_FnShaped_w {a0 : List Int} {a1 : List Int} {r : (Bool)} (h : laws_FnShaped a0 a1 = some r) {F : List It} {H : Heap} (hS : Own H (F)) {P : AV → Heap → Prop} (hP : ∀ H', Own H' (F) → P (.bool r) H') : ACall C 4 [.fz (a0.map (AV.int .u8)), .fz (a1.map (AV.int .u8))] H P := by
  refine acall_of gC (res := [.tmp 4]) (n := 263) rfl rfl rfl rfl fun K0 hK0 => ?_
  simp only [W, Nat.reduceSub, Nat.reduceAdd, List.replicate]
  unfold laws_FnShaped at h
  refine w_seq fun K1 hK1 => ?_
  refine w_reg gC ?_
  try simp only [W, Nat.reduceAdd]
  refine seq_n hK1 ?_
  refine w_seq fun K2 hK2 => ?_
  refine w_seq fun K3 hK3 => ?_
  refine w_reg gC ?_
  try simp only [W, EE, Nat.reduceAdd]
  refine seq_n hK3 ?_
  refine w_if ?_
  simp only [W]
  refine w_cnd h (fun hc h => ?_) (fun hc h => ?_)
  · refine w_seq fun K4 hK4 => ?_
    refine w_reg gC ?_
    try simp only [W, Nat.reduceAdd]
    refine seq_n hK4 ?_
    refine w_ret ?_
    refine seq_r hK2 ?_
    refine fin_r1 hK0 rfl ?_
    try obtain rfl := Option.some.inj h
    exact hP _ hS
  · refine w_skip ?_
    refine seq_n hK2 ?_
    refine w_seq fun K5 hK5 => ?_
    refine w_reg gC ?_
    try simp only [W, Nat.reduceAdd]
    refine w_call h fun b6 hb6 h => ?_
    obtain ⟨b7, b8, b9⟩ := b6
    try dsimp only at h
    refine spec_DrawShapeFlow_w hb6 hS fun v10 qv10 H hS => ?_
    try simp only [W]
    refine seq_n hK5 ?_
    refine w_seq fun K12 hK12 => ?_
    refine w_reg gC ?_
    try simp only [W, Nat.reduceAdd, Nat.reduceBEq, List.contains_cons, Nat.reduceBEq, Bool.or_self]
    refine w_callO (rsh := [[.sl [.sc]], [.sl [.sc]], [.sc]]) (ys := [.int .i64 b7, .int .i64 b8, .fz (b9.map (AV.int .i64))]) h rfl (pv_c rfl (pv_c rfl (pv_c (sn_ow hS 0 rfl qv10 (fun _ => rfl)) pv_n))) fun b13 hb13 h => ⟨.tup [.own 1 (b13.1.map (AV.int .i64)), .own 1 (b13.2.1.map (AV.int .i64)), .bool b13.2.2], impl_ShapeFlow_w hb13 (Own.nil _) fun v17 qv17 v18 qv18 H hS => TV_ok rfl (TV_o 0 hS rfl qv17 (fun _ _ => by simp [takeE, takeT, plainA]) fun H hS => TV_o 0 hS rfl qv18 (fun _ _ => by simp [takeE, takeT, plainA]) fun H hS => TV_p rfl (TV_n rfl)), (nf_t (nf_c (noFz_o _ (fun _ => rfl) _) (nf_c (noFz_o _ (fun _ => rfl) _) (nf_c rfl nf_n)))), ?_⟩
    refine thaw_tup ?_
    refine TH_o hS (fun _ _ => rfl) (fun _ => rfl) fun v20 H qv20 hS => ?_
    refine TH_o hS (fun _ _ => rfl) (fun _ => rfl) fun v22 H qv22 hS => ?_
    refine TH_p (fun _ => rfl) ?_
    refine TH_n ?_
    try simp only [List.headD_cons]
    obtain ⟨b14, b15, b16⟩ := b13
    try dsimp only at h
    try simp only [W]
    refine seq_n hK12 ?_
    refine w_seq fun K23 hK23 => ?_
    refine w_reg gC ?_
    try simp only [W, Nat.reduceAdd, Nat.reduceBEq, List.contains_cons, Nat.reduceBEq, Bool.or_self]
    refine w_callO (rsh := [[.sl [.sc]], [.sl [.sc]], [.sc]]) (ys := [.int .i64 b7, .int .i64 b8, .fz (b9.map (AV.int .i64))]) h rfl (pv_c rfl (pv_c rfl (pv_c (sn_ow hS 2 rfl qv10 (fun _ => rfl)) pv_n))) fun b24 hb24 h => ⟨.tup [.own 1 (b24.1.map (AV.int .i64)), .own 1 (b24.2.1.map (AV.int .i64)), .bool b24.2.2], spec_ShapeFlow_w hb24 (Own.nil _) fun v28 qv28 v29 qv29 H hS => TV_ok rfl (TV_o 0 hS rfl qv28 (fun _ _ => by simp [takeE, takeT, plainA]) fun H hS => TV_o 0 hS rfl qv29 (fun _ _ => by simp [takeE, takeT, plainA]) fun H hS => TV_p rfl (TV_n rfl)), (nf_t (nf_c (noFz_o _ (fun _ => rfl) _) (nf_c (noFz_o _ (fun _ => rfl) _) (nf_c rfl nf_n)))), ?_⟩
    refine thaw_tup ?_
    refine TH_o hS (fun _ _ => rfl) (fun _ => rfl) fun v31 H qv31 hS => ?_
    refine TH_o hS (fun _ _ => rfl) (fun _ => rfl) fun v33 H qv33 hS => ?_
    refine TH_p (fun _ => rfl) ?_
    refine TH_n ?_
    try simp only [List.headD_cons]
    obtain ⟨b25, b26, b27⟩ := b24
    try dsimp only at h
    try simp only [W]
    refine seq_n hK23 ?_
    refine w_seq fun K34 hK34 => ?_
    refine w_reg gC ?_
    try simp only [W, Nat.reduceAdd]
    refine w_callS (rsh := [[.sc], [.sc]]) (ys := [.int .i64 b7, .int .i64 b8, .fz (b9.map (AV.int .i64))]) h rfl (pv_c rfl (pv_c rfl (pv_c (sn_ow hS 4 rfl qv10 (fun _ => rfl)) pv_n))) fun b35 hb35 h => ⟨.tup [.bool b35.1, .bool b35.2], impl_Conforms_w hb35 (Own.nil _) fun H hS => TV_ok rfl (TV_p rfl (TV_p rfl (TV_n rfl))), ⟨rfl, rfl, fun _ => rfl⟩, ?_⟩
    obtain ⟨b36, b37⟩ := b35
    try dsimp only at h
    try simp only [W]
    refine seq_n hK34 ?_
    refine w_seq fun K38 hK38 => ?_
    refine w_reg gC ?_
    try simp only [W, Nat.reduceAdd]
    refine w_callS (rsh := [[.sc], [.sc]]) (ys := [.int .i64 b7, .int .i64 b8, .fz (b9.map (AV.int .i64))]) h rfl (pv_c rfl (pv_c rfl (pv_c (sn_ow hS 4 rfl qv10 (fun _ => rfl)) pv_n))) fun b39 hb39 h => ⟨.tup [.bool b39.1, .bool b39.2], spec_Conforms_w hb39 (Own.nil _) fun H hS => TV_ok rfl (TV_p rfl (TV_p rfl (TV_n rfl))), ⟨rfl, rfl, fun _ => rfl⟩, ?_⟩
    obtain ⟨b40, b41⟩ := b39
    try dsimp only at h
    try simp only [W]
    refine seq_n hK38 ?_
    refine w_seq fun K42 hK42 => ?_
    refine w_seq fun K43 hK43 => ?_
    obtain ⟨y45, h, g46⟩ := Option.bind_eq_some_iff.1 h
    refine w_join gC (fun s H => ∃ x44 : Bool, y45 = (x44) ∧ s = [u, .fz (a1.map (AV.int .u8)), u, u, u, .int .i64 b7, .int .i64 b8, v10, v20, v22, .bool b16, u, u, u, .bool b36, .bool b37, u, u, u, u, u, u, u, u, u, u, u, u, u, u, u, u, u, u, u, u, u, u, u, u, u, u, u, u, u, u, u, u, u, u, u, u, u, u, u, u, u, u, u, u, u, u, u, u, u, u, u, u, u, u, u, u, u, u, u, u, u, u, u, u, u, u, u, u, u, u, u, u, u, u, u, u, u, u, u, u, u, u, u, u, u, u, u, .bool x44, u, u, u, u, u, u, u, u, u, u, u, u, u, u, u, u, u, u, u, u, u, u, u, u, u, u, u, u, u, u, u, u, u, u, u, u, u, u, u, u, u, u, u, u, u, u, u, u, u, u, u, u, u, u, u, u, u, u, u, u, u, u, u, u, u, u, u, u, u, u, u, u, u, u, u, u, u, u, u, u, u, u, u, u, u, u, u, u, u, u, u, u, u, u, u, u, u, u, u, u, u, u, u, u, u, u, u, u, u, u, u, u, u, u, u, u, u, u, u, u, u, u, u, u, u, u, u, u, u, u, u, u, u, u, u, u, u, u, u, u, u, u, u, u, u, u, u, u, u, u, u, u, u, u, u, u, u, u, u] ∧ Own H (⟨v10, 1, b9.map (AV.int .i64)⟩ :: ⟨v20, 1, b14.map (AV.int .i64)⟩ :: ⟨v22, 1, b15.map (AV.int .i64)⟩ :: F)) (fun K47 hK47 => ?_) (fun s H hq => ?_)
    · refine w_seq fun K48 hK48 => ?_
      refine w_reg gC ?_
      try simp only [W, EE, Nat.reduceAdd]
      rw [b_bneq _ _ _ _ (h := rfl) rfl, resV_s]
      try simp only [W]
      refine w_grdT h (fun hc h => ?_) (fun hc h => ?_)
      · try simp only [W, hc]
        refine seq_n hK48 ?_
        refine w_kill ?_
        exact cut_n hK47 ⟨_, (Option.some.inj h).symm, rfl, (hS.sel 5 [4, 3, 2] (by decide))⟩
      · try simp only [W, hc]
        refine w_callS (rsh := [[.sc]]) (ys := [.fz (b14.map (AV.int .i64)), .fz (b25.map (AV.int .i64))]) h rfl (pv_c (sn_ow hS 3 rfl qv20 (fun _ => rfl)) (pv_c (sn_ow hS 1 rfl qv31 (fun _ => rfl)) pv_n)) fun b49 hb49 h => ⟨.bool b49, laws_sameInts_w hb49 (Own.nil _) fun H hS => TV_ok rfl (TV_p rfl (TV_n rfl)), ⟨rfl, rfl, fun _ => rfl⟩, ?_⟩
        try simp only [W, reduceIte, Bool.false_eq_true]
        refine w_grdT h (fun hc h => ?_) (fun hc h => ?_)
        · try simp only [W, hc]
          refine seq_n hK48 ?_
          refine w_kill ?_
          exact cut_n hK47 ⟨_, (Option.some.inj h).symm, rfl, (hS.sel 5 [4, 3, 2] (by decide))⟩
        · try simp only [W, hc]
          refine w_callS (rsh := [[.sc]]) (ys := [.fz (b15.map (AV.int .i64)), .fz (b26.map (AV.int .i64))]) h rfl (pv_c (sn_ow hS 2 rfl qv22 (fun _ => rfl)) (pv_c (sn_ow hS 0 rfl qv33 (fun _ => rfl)) pv_n)) fun b50 hb50 h => ⟨.bool b50, laws_sameInts_w hb50 (Own.nil _) fun H hS => TV_ok rfl (TV_p rfl (TV_n rfl)), ⟨rfl, rfl, fun _ => rfl⟩, ?_⟩
          try simp only [W, reduceIte, Bool.false_eq_true]
          refine w_grdT h (fun hc h => ?_) (fun hc h => ?_)
          · try simp only [W, hc]
            refine seq_n hK48 ?_
            refine w_kill ?_
            exact cut_n hK47 ⟨_, (Option.some.inj h).symm, rfl, (hS.sel 5 [4, 3, 2] (by decide))⟩
          · try simp only [W, EE, hc]
            rw [b_bneq _ _ _ _ (h := rfl) rfl, resV_s]
            try simp only [W, reduceIte, Bool.false_eq_true]
            refine w_grdT h (fun hc h => ?_) (fun hc h => ?_)
            · try simp only [W, hc]
              refine seq_n hK48 ?_
              refine w_kill ?_
              exact cut_n hK47 ⟨_, (Option.some.inj h).symm, rfl, (hS.sel 5 [4, 3, 2] (by decide))⟩
            · try simp only [W, EE, hc]
              rw [b_bneq _ _ _ _ (h := rfl) rfl, resV_s]
              try simp only [W, reduceIte, Bool.false_eq_true]
              refine seq_n hK48 ?_
              refine w_kill ?_
              exact cut_n hK47 ⟨_, (Option.some.inj h).symm, rfl, (hS.sel 5 [4, 3, 2] (by decide))⟩
    · obtain ⟨x44, ey, rfl, hS⟩ := hq; obtain rfl := ey.symm
      replace h := g46
      try dsimp only at h
      refine seq_n hK43 ?_
      refine w_if ?_
      simp only [W]
      refine w_cnd h (fun hc h => ?_) (fun hc h => ?_)
      · refine w_seq fun K51 hK51 => ?_
        refine w_reg gC ?_
        try simp only [W, Nat.reduceAdd]
        refine seq_n hK51 ?_
        refine w_ret ?_
        refine seq_r hK42 ?_
        refine fin_r1 hK0 rfl ?_
        try obtain rfl := Option.some.inj h
        exact hP _ (hS.sel 3 [] (by decide))
      · refine w_skip ?_
        refine seq_n hK42 ?_
        refine w_seq fun K52 hK52 => ?_
        refine w_seq fun K53 hK53 => ?_
        refine w_reg gC ?_
        try simp only [W, Nat.reduceAdd]
        refine seq_n hK53 ?_
        obtain ⟨y54, h, g55⟩ := Option.bind_eq_some_iff.1 h
        refine w_join gC (fun s H => y54 = LR.next () ∧ s = [u, .fz (a1.map (AV.int .u8)), u, u, u, u, u, u, u, u, u, u, u, u, u, u, u, u, u, u, u, u, u, u, u, u, u, u, u, u, u, u, u, u, u, u, u, u, u, u, u, u, u, u, u, u, u, u, u, u, u, u, u, u, u, u, u, u, u, u, u, u, u, u, u, u, u, u, u, u, u, u, u, u, u, u, u, u, u, u, u, u, u, u, u, u, u, u, u, u, u, u, u, u, u, u, u, u, u, u, u, u, u, u, u, u, u, u, u, u, u, u, u, u, u, u, u, u, u, u, u, u, u, u, u, u, u, u, u, u, u, u, u, u, u, u, u, u, u, u, u, u, u, u, u, u, u, u, u, u, u, u, u, u, u, u, u, u, u, u, u, u, u, u, u, u, u, u, u, u, u, u, u, u, u, u, u, u, u, u, u, u, u, u, u, u, u, u, u, u, u, u, u, u, u, u, u, u, u, u, u, u, u, u, u, u, u, u, u, u, u, u, u, u, u, u, u, u, u, u, u, u, u, u, u, u, u, u, u, u, u, u, u, u, u, u, u, u, u, u, u, u, u, u, u, u, u, u, u, u, u, u, u, u, u, u, u, u, u, u, u, u, u] ∧ Own H (F)) (fun K56 hK56 => ?_) (fun s H hq => ?_)
        · refine w_seq fun K57 hK57 => ?_
          refine w_if ?_
          simp only [W]
          refine w_cnd h (fun hc h => ?_) (fun hc h => ?_)
          · refine w_seq fun K58 hK58 => ?_
            refine w_reg gC ?_
            try simp only [W, Nat.reduceAdd]
            refine w_callS (rsh := [[.sc], [.sc]]) (ys := [.int .i64 b7, .int .i64 b8, .fz (b14.map (AV.int .i64))]) h rfl (pv_c rfl (pv_c rfl (pv_c (sn_ow hS 1 rfl qv20 (fun _ => rfl)) pv_n))) fun b59 hb59 h => ⟨.tup [.bool b59.1, .bool b59.2], impl_Conforms_w hb59 (Own.nil _) fun H hS => TV_ok rfl (TV_p rfl (TV_p rfl (TV_n rfl))), ⟨rfl, rfl, fun _ => rfl⟩, ?_⟩
            obtain ⟨b60, b61⟩ := b59
            try dsimp only at h
            try simp only [W]
            refine seq_n hK58 ?_
            refine w_seq fun K62 hK62 => ?_
            refine w_seq fun K63 hK63 => ?_
            obtain ⟨y65, h, g66⟩ := Option.bind_eq_some_iff.1 h
            refine w_join gC (fun s H => ∃ x64 : Bool, y65 = (x64) ∧ s = [u, .fz (a1.map (AV.int .u8)), u, u, u, u, u, v10, v20, v22, u, u, u, u, u, u, u, u, u, u, u, u, u, u, u, u, u, u, u, u, u, u, u, u, u, u, u, u, u, u, u, u, u, u, u, u, u, u, u, u, u, u, u, u, u, u, u, u, u, u, u, u, u, u, u, u, u, u, u, u, u, u, u, u, u, u, u, u, u, u, u, u, u, u, u, u, u, u, u, u, u, u, u, u, u, u, u, u, u, u, u, u, u, u, u, u, u, u, u, u, u, u, u, u, u, u, u, u, u, u, u, u, u, u, u, u, u, u, .bool x64, u, u, u, u, u, u, u, u, u, u, u, u, u, u, u, u, u, u, u, u, u, u, u, u, u, u, u, u, u, u, u, u, u, u, u, u, u, u, u, u, u, u, u, u, u, u, u, u, u, u, u, u, u, u, u, u, u, u, u, u, u, u, u, u, u, u, u, u, u, u, u, u, u, u, u, u, u, u, u, u, u, u, u, u, u, u, u, u, u, u, u, u, u, u, u, u, u, u, u, u, u, u, u, u, u, u, u, u, u, u, u, u, u, u, u, u, u, u, u, u, u, u, u, u, u, u, u, u, u, u, u, u, u, u] ∧ Own H (⟨v10, 1, b9.map (AV.int .i64)⟩ :: ⟨v20, 1, b14.map (AV.int .i64)⟩ :: ⟨v22, 1, b15.map (AV.int .i64)⟩ :: F)) (fun K67 hK67 => ?_) (fun s H hq => ?_)
            · refine w_seq fun K68 hK68 => ?_
              refine w_reg gC ?_
              try simp only [W, Nat.reduceAdd]
              refine w_grdT h (fun hc h => ?_) (fun hc h => ?_)
              · try simp only [W, hc]
                refine seq_n hK68 ?_
                refine w_kill ?_
                exact cut_n hK67 ⟨_, (Option.some.inj h).symm, rfl, hS⟩
              · try simp only [W, reduceIte, Bool.false_eq_true, hc]
                refine w_grdT h (fun hc h => ?_) (fun hc h => ?_)
                · try simp only [W, hc]
                  refine seq_n hK68 ?_
                  refine w_kill ?_
                  exact cut_n hK67 ⟨_, (Option.some.inj h).symm, rfl, hS⟩
                · try simp only [W, reduceIte, Bool.false_eq_true, hc]
                  refine w_grdT h (fun hc h => ?_) (fun hc h => ?_)
                  · try simp only [W, hc]
                    refine seq_n hK68 ?_
                    refine w_kill ?_
                    exact cut_n hK67 ⟨_, (Option.some.inj h).symm, rfl, hS⟩
                  · try simp only [W, hc]
                    refine w_callS (rsh := [[.sc]]) (ys := [.fz (b14.map (AV.int .i64)), .fz (b9.map (AV.int .i64))]) h rfl (pv_c (sn_ow hS 1 rfl qv20 (fun _ => rfl)) (pv_c (sn_ow hS 0 rfl qv10 (fun _ => rfl)) pv_n)) fun b69 hb69 h => ⟨.bool b69, laws_sameInts_w hb69 (Own.nil _) fun H hS => TV_ok rfl (TV_p rfl (TV_n rfl)), ⟨rfl, rfl, fun _ => rfl⟩, ?_⟩
                    try simp only [W, EE]
                    rw [b_bneq _ _ _ _ (h := rfl) rfl, resV_s]
                    try simp only [W, reduceIte, Bool.false_eq_true]
                    refine seq_n hK68 ?_
                    refine w_kill ?_
                    exact cut_n hK67 ⟨_, (Option.some.inj h).symm, rfl, hS⟩
            · obtain ⟨x64, ey, rfl, hS⟩ := hq; obtain rfl := ey.symm
              replace h := g66
              try dsimp only at h
              refine seq_n hK63 ?_
              refine w_if ?_
              simp only [W]
              refine w_cnd h (fun hc h => ?_) (fun hc h => ?_)
              · refine w_seq fun K70 hK70 => ?_
                refine w_reg gC ?_
                try simp only [W, Nat.reduceAdd]
                refine seq_n hK70 ?_
                refine w_ret ?_
                refine seq_r hK62 ?_
                refine seq_r hK57 ?_
                try obtain rfl := Option.some.inj h
                obtain rfl := Option.some.inj g55
                have h : (some false : Option (Bool)) = some false := rfl
                refine cut_r hK56 ?_
                refine seq_r hK52 ?_
                refine fin_r1 hK0 rfl ?_
                try obtain rfl := Option.some.inj h
                exact hP _ (hS.sel 3 [] (by decide))
              · refine w_skip ?_
                refine seq_n hK62 ?_
                refine w_seq fun K73 hK73 => ?_
                obtain ⟨y75, h, g76⟩ := Option.bind_eq_some_iff.1 h
                refine w_join gC (fun s H => ∃ x74 : Bool, y75 = (x74) ∧ s = [u, .fz (a1.map (AV.int .u8)), u, u, u, u, u, u, u, u, u, u, u, u, u, u, u, u, u, u, u, u, u, u, u, u, u, u, u, u, u, u, u, u, u, u, u, u, u, u, u, u, u, u, u, u, u, u, u, u, u, u, u, u, u, u, u, u, u, u, u, u, u, u, u, u, u, u, u, u, u, u, u, u, u, u, u, u, u, u, u, u, u, u, u, u, u, u, u, u, u, u, u, u, u, u, u, u, u, u, u, u, u, u, u, u, u, u, u, u, u, u, u, u, u, u, u, u, u, u, u, u, u, u, u, u, u, u, u, u, u, u, u, u, u, u, u, u, u, u, u, u, u, u, u, .bool x74, u, u, u, u, u, u, u, u, u, u, u, u, u, u, u, u, u, u, u, u, u, u, u, u, u, u, u, u, u, u, u, u, u, u, u, u, u, u, u, u, u, u, u, u, u, u, u, u, u, u, u, u, u, u, u, u, u, u, u, u, u, u, u, u, u, u, u, u, u, u, u, u, u, u, u, u, u, u, u, u, u, u, u, u, u, u, u, u, u, u, u, u, u, u, u, u, u, u, u, u, u, u, u, u, u, u, u, u, u, u, u, u, u, u, u, u, u] ∧ Own H (F)) (fun K77 hK77 => ?_) (fun s H hq => ?_)
                · refine w_seq fun K78 hK78 => ?_
                  refine w_draw0 gC (by kernel_rfl) ?_
                  try simp only [W, EE, Nat.reduceAdd]
                  refine w_len 0 hS rfl qv10 rfl ?_
                  try simp only [W, EE]
                  refine w_grdT h (fun hc h => ?_) (fun hc h => ?_)
                  · try simp only [W, hc]
                    refine w_callS (rsh := [[.sc]]) (ys := [.fz (b14.map (AV.int .i64))]) h rfl (pv_c (sn_ow hS 1 rfl qv20 (fun _ => rfl)) pv_n) fun b79 hb79 h => ⟨.int .i64 b79, laws_sumOf_w hb79 (Own.nil _) fun H hS => TV_ok rfl (TV_p rfl (TV_n rfl)), ⟨rfl, rfl, fun _ => rfl⟩, ?_⟩
                    try simp only [W, EE]
                    refine w_len 2 hS rfl qv22 rfl ?_
                    try simp only [W, EE]
                    refine w_ow 2 hS rfl rfl rfl rfl rfl h (fun b80 in81 wn81 on81 hb80 h en81 => ?_) qv22.ne
                    obtain ⟨kn81, hbn81, hen81⟩ := hS.elem 2 rfl en81 hb80
                    try simp only [W, EE, hbn81, hen81]
                    refine w_callS (rsh := [[.sc]]) (ys := [.fz (b9.map (AV.int .i64))]) h rfl (pv_c (sn_ow hS 0 rfl qv10 (fun _ => rfl)) pv_n) fun b82 hb82 h => ⟨.int .i64 b82, laws_sumOf_w hb82 (Own.nil _) fun H hS => TV_ok rfl (TV_p rfl (TV_n rfl)), ⟨rfl, rfl, fun _ => rfl⟩, ?_⟩
                    try simp only [W, EE, reduceIte]
                    refine seq_n hK78 ?_
                    refine w_kill ?_
                    exact cut_n hK77 ⟨_, (Option.some.inj h).symm, rfl, (hS.sel 3 [] (by decide))⟩
                  · try simp only [W, hc]
                    refine seq_n hK78 ?_
                    refine w_kill ?_
                    exact cut_n hK77 ⟨_, (Option.some.inj h).symm, rfl, (hS.sel 3 [] (by decide))⟩
                · obtain ⟨x74, ey, rfl, hS⟩ := hq; obtain rfl := ey.symm
                  replace h := g76
                  try dsimp only at h
                  refine seq_n hK73 ?_
                  refine w_if ?_
                  simp only [W]
                  refine w_cnd h (fun hc h => ?_) (fun hc h => ?_)
                  · refine w_seq fun K83 hK83 => ?_
                    refine w_reg gC ?_
                    try simp only [W, Nat.reduceAdd]
                    refine seq_n hK83 ?_
                    refine w_ret ?_
                    refine seq_r hK57 ?_
                    try obtain rfl := Option.some.inj h
                    obtain rfl := Option.some.inj g55
                    have h : (some false : Option (Bool)) = some false := rfl
                    refine cut_r hK56 ?_
                    refine seq_r hK52 ?_
                    refine fin_r1 hK0 rfl ?_
                    try obtain rfl := Option.some.inj h
                    exact hP _ hS
                  · refine w_skip ?_
                    refine seq_n hK57 ?_
                    refine w_kill ?_
                    exact cut_n hK56 ⟨(Option.some.inj h).symm, rfl, hS⟩
          · refine w_skip ?_
            refine seq_n hK57 ?_
            refine w_kill ?_
            exact cut_n hK56 ⟨(Option.some.inj h).symm, rfl, (hS.sel 3 [] (by decide))⟩
        · obtain ⟨rfl, rfl, hS⟩ := hq
          replace h := g55
          try dsimp only at h
          refine seq_n hK52 ?_
          refine w_seq fun K86 hK86 => ?_
          refine w_reg gC ?_
          try simp only [W, Nat.reduceAdd]
          refine w_call h fun b87 hb87 h => ?_
          refine spec_DrawTickBucket_w hb87 hS fun H hS => ?_
          try simp only [W]
          refine w_alloc hS rfl rfl fun ip88 wp88 H hS => ?_
          try simp only [W]
          refine w_stv (a := .agg [.int .i64 b87.Rate, .int .i64 b87.Depth, .int .i64 b87.Has]) (y' := .agg [.int .i64 b87.Rate, .int .i64 b87.Depth, .int .i64 b87.Has]) 0 hS rfl rfl rfl rfl rfl rfl rfl rfl fun H hS => ?_
          try simp only [W]
          refine seq_n hK86 ?_
          refine w_seq fun K90 hK90 => ?_
          refine w_reg gC ?_
          try simp only [W, EE, reduceIte, Nat.reduceAdd, Nat.reduceLeDiff, hS.var 0 rfl]
          refine w_call h fun b91 hb91 h => ?_
          obtain ⟨b92, b93⟩ := b91
          try dsimp only at h
          refine impl_TickBucket_w hb91 hS fun H hS => ?_
          try simp only [W]
          refine w_alloc hS rfl rfl fun ip94 wp94 H hS => ?_
          try simp only [W]
          refine w_stv (a := .agg [.int .i64 b92.Rate, .int .i64 b92.Depth, .int .i64 b92.Has]) (y' := .agg [.int .i64 b92.Rate, .int .i64 b92.Depth, .int .i64 b92.Has]) 0 hS rfl rfl rfl rfl rfl rfl rfl rfl fun H hS => ?_
          try simp only [W]
          refine seq_n hK90 ?_
          refine w_seq fun K96 hK96 => ?_
          refine w_reg gC ?_
          try simp only [W, EE, reduceIte, Nat.reduceAdd, Nat.reduceLeDiff, hS.var 1 rfl]
          refine w_call h fun b97 hb97 h => ?_
          obtain ⟨b98, b99⟩ := b97
          try dsimp only at h
          refine spec_TickBucket_w hb97 hS fun H hS => ?_
          try simp only [W]
          refine w_alloc hS rfl rfl fun ip100 wp100 H hS => ?_
          try simp only [W]
          refine w_stv (a := .agg [.int .i64 b98.Rate, .int .i64 b98.Depth, .int .i64 b98.Has]) (y' := .agg [.int .i64 b98.Rate, .int .i64 b98.Depth, .int .i64 b98.Has]) 0 hS rfl rfl rfl rfl rfl rfl rfl rfl fun H hS => ?_
          try simp only [W]
          refine seq_n hK96 ?_
          refine w_seq fun K102 hK102 => ?_
          refine w_reg gC ?_
          try simp only [W, Nat.reduceAdd]
          refine w_call h fun b103 hb103 h => ?_
          obtain ⟨b104, b105⟩ := b103
          try dsimp only at h
          refine spec_DrawTakeBucket_w hb103 hS fun H hS => ?_
          try simp only [W]
          refine w_alloc hS rfl rfl fun ip106 wp106 H hS => ?_
          try simp only [W]
          refine w_stv (a := .agg [.int .i64 b104.Rate, .int .i64 b104.Depth, .int .i64 b104.Has]) (y' := .agg [.int .i64 b104.Rate, .int .i64 b104.Depth, .int .i64 b104.Has]) 0 hS rfl rfl rfl rfl rfl rfl rfl rfl fun H hS => ?_
          try simp only [W]
          refine seq_n hK102 ?_
          refine w_seq fun K108 hK108 => ?_
          refine w_reg gC ?_
          try simp only [W, EE, reduceIte, Nat.reduceAdd, Nat.reduceLeDiff, hS.var 0 rfl]
          refine w_call h fun b109 hb109 h => ?_
          obtain ⟨b110, b111⟩ := b109
          try dsimp only at h
          refine impl_TakeBucket_w hb109 hS fun H hS => ?_
          try simp only [W]
          refine w_alloc hS rfl rfl fun ip112 wp112 H hS => ?_
          try simp only [W]
          refine w_stv (a := .agg [.int .i64 b110.Rate, .int .i64 b110.Depth, .int .i64 b110.Has]) (y' := .agg [.int .i64 b110.Rate, .int .i64 b110.Depth, .int .i64 b110.Has]) 0 hS rfl rfl rfl rfl rfl rfl rfl rfl fun H hS => ?_
          try simp only [W]
          refine seq_n hK108 ?_
          refine w_seq fun K114 hK114 => ?_
          refine w_reg gC ?_
          try simp only [W, EE, reduceIte, Nat.reduceAdd, Nat.reduceLeDiff, hS.var 1 rfl]
          refine w_call h fun b115 hb115 h => ?_
          obtain ⟨b116, b117⟩ := b115
          try dsimp only at h
          refine spec_TakeBucket_w hb115 hS fun H hS => ?_
          try simp only [W]
          refine w_alloc hS rfl rfl fun ip118 wp118 H hS => ?_
          try simp only [W]
          refine w_stv (a := .agg [.int .i64 b116.Rate, .int .i64 b116.Depth, .int .i64 b116.Has]) (y' := .agg [.int .i64 b116.Rate, .int .i64 b116.Depth, .int .i64 b116.Has]) 0 hS rfl rfl rfl rfl rfl rfl rfl rfl fun H hS => ?_
          try simp only [W]
          refine seq_n hK114 ?_
          refine w_seq fun K120 hK120 => ?_
          refine w_reg gC ?_
          try simp only [W, Nat.reduceAdd]
          refine w_call h fun b121 hb121 h => ?_
          obtain ⟨b122, b123⟩ := b121
          try dsimp only at h
          refine spec_DrawNewBucket_w hb121 hS fun H hS => ?_
          try simp only [W]
          refine seq_n hK120 ?_
          refine w_seq fun K124 hK124 => ?_
          refine w_reg gC ?_
          try simp only [W, Nat.reduceAdd]
          refine w_call h fun b125 hb125 h => ?_
          obtain ⟨b126, b127⟩ := b125
          try dsimp only at h
          refine impl_NewBucket_w hb125 hS fun H hS => ?_
          try simp only [W]
          refine w_alloc hS rfl rfl fun ip128 wp128 H hS => ?_
          try simp only [W]
          refine w_stv (a := .agg [.int .i64 b126.Rate, .int .i64 b126.Depth, .int .i64 b126.Has]) (y' := .agg [.int .i64 b126.Rate, .int .i64 b126.Depth, .int .i64 b126.Has]) 0 hS rfl rfl rfl rfl rfl rfl rfl rfl fun H hS => ?_
          try simp only [W]
          refine seq_n hK124 ?_
          refine w_seq fun K130 hK130 => ?_
          refine w_reg gC ?_
          try simp only [W, Nat.reduceAdd]
          refine w_call h fun b131 hb131 h => ?_
          obtain ⟨b132, b133⟩ := b131
          try dsimp only at h
          refine spec_NewBucket_w hb131 hS fun H hS => ?_
          try simp only [W]
          refine w_alloc hS rfl rfl fun ip134 wp134 H hS => ?_
          try simp only [W]
          refine w_stv (a := .agg [.int .i64 b132.Rate, .int .i64 b132.Depth, .int .i64 b132.Has]) (y' := .agg [.int .i64 b132.Rate, .int .i64 b132.Depth, .int .i64 b132.Has]) 0 hS rfl rfl rfl rfl rfl rfl rfl rfl fun H hS => ?_
          try simp only [W]
          refine seq_n hK130 ?_
          refine w_seq fun K136 hK136 => ?_
          refine w_seq fun K137 hK137 => ?_
          obtain ⟨y139, h, g140⟩ := Option.bind_eq_some_iff.1 h
          refine w_join gC (fun s H => ∃ x138 : Bool, y139 = (x138) ∧ s = [u, u, u, u, u, u, u, u, u, u, u, u, u, u, u, u, u, u, u, u, u, .ptr ip94 wp94 0 0, .bool b93, u, u, .ptr ip106 wp106 0 0, .int .i64 b105, .ptr ip112 wp112 0 0, .bool b111, u, u, u, .int .i64 b123, .ptr ip128 wp128 0 0, .bool b127, u, u, u, u, u, u, u, u, u, u, u, u, u, u, u, u, u, u, u, u, u, u, u, u, u, u, u, u, u, u, u, u, u, u, u, u, u, u, u, u, u, u, u, u, u, u, u, u, u, u, u, u, u, u, u, u, u, u, u, u, u, u, u, u, u, u, u, u, u, u, u, u, u, u, u, u, u, u, u, u, u, u, u, u, u, u, u, u, u, u, u, u, u, u, u, u, u, u, u, u, u, u, u, u, u, u, u, u, u, u, u, u, u, u, u, u, u, u, u, u, u, u, u, u, u, u, u, u, u, u, u, u, u, u, u, u, u, u, u, u, u, u, u, u, u, u, u, u, u, u, u, u, u, u, u, u, u, u, u, u, u, u, u, u, u, u, u, u, u, u, u, u, u, u, u, u, u, u, u, u, u, u, u, u, u, u, u, u, u, u, .bool x138, u, u, u, u, u, u, u, u, u, u, u, u, u, u, u, u, u, u, u, u, u, u, u, u, u, u, u, u, u, u, u, u, u, u, u, u, u] ∧ Own H (⟨.ptr ip94 wp94 0 0, 3, [.agg [.int .i64 b92.Rate, .int .i64 b92.Depth, .int .i64 b92.Has]]⟩ :: ⟨.ptr ip106 wp106 0 0, 3, [.agg [.int .i64 b104.Rate, .int .i64 b104.Depth, .int .i64 b104.Has]]⟩ :: ⟨.ptr ip112 wp112 0 0, 3, [.agg [.int .i64 b110.Rate, .int .i64 b110.Depth, .int .i64 b110.Has]]⟩ :: ⟨.ptr ip128 wp128 0 0, 3, [.agg [.int .i64 b126.Rate, .int .i64 b126.Depth, .int .i64 b126.Has]]⟩ :: F)) (fun K141 hK141 => ?_) (fun s H hq => ?_)
          · refine w_seq fun K142 hK142 => ?_
            refine w_reg gC ?_
            try simp only [W, EE, Nat.reduceAdd]
            rw [b_bneq _ _ _ _ (h := rfl) rfl, resV_s]
            try simp only [W]
            refine w_grdT h (fun hc h => ?_) (fun hc h => ?_)
            · try simp only [W, hc]
              refine seq_n hK142 ?_
              refine w_kill ?_
              exact cut_n hK141 ⟨_, (Option.some.inj h).symm, rfl, (hS.sel 8 [6, 4, 3, 1] (by decide))⟩
            · try simp only [W, EE, reduceIte, Nat.reduceAdd, Nat.reduceLeDiff, Bool.false_eq_true, hS.var 5 rfl, hS.var 6 rfl, hc]
              refine w_grdT h (fun hc h => ?_) (fun hc h => ?_)
              · try simp only [W, hc]
                refine seq_n hK142 ?_
                refine w_kill ?_
                exact cut_n hK141 ⟨_, (Option.some.inj h).symm, rfl, (hS.sel 8 [6, 4, 3, 1] (by decide))⟩
              · try simp only [W, EE, hc]
                rw [b_bneq _ _ _ _ (h := rfl) rfl, resV_s]
                try simp only [W, reduceIte, Bool.false_eq_true]
                refine w_grdT h (fun hc h => ?_) (fun hc h => ?_)
                · try simp only [W, hc]
                  refine seq_n hK142 ?_
                  refine w_kill ?_
                  exact cut_n hK141 ⟨_, (Option.some.inj h).symm, rfl, (hS.sel 8 [6, 4, 3, 1] (by decide))⟩
                · try simp only [W, EE, reduceIte, Nat.reduceAdd, Nat.reduceLeDiff, Bool.false_eq_true, hS.var 3 rfl, hS.var 2 rfl, hc]
                  refine w_grdT h (fun hc h => ?_) (fun hc h => ?_)
                  · try simp only [W, hc]
                    refine seq_n hK142 ?_
                    refine w_kill ?_
                    exact cut_n hK141 ⟨_, (Option.some.inj h).symm, rfl, (hS.sel 8 [6, 4, 3, 1] (by decide))⟩
                  · try simp only [W, EE, hc]
                    rw [b_bneq _ _ _ _ (h := rfl) rfl, resV_s]
                    try simp only [W, reduceIte, Bool.false_eq_true]
                    refine w_grdT h (fun hc h => ?_) (fun hc h => ?_)
                    · try simp only [W, hc]
                      refine seq_n hK142 ?_
                      refine w_kill ?_
                      exact cut_n hK141 ⟨_, (Option.some.inj h).symm, rfl, (hS.sel 8 [6, 4, 3, 1] (by decide))⟩
                    · try simp only [W, EE, reduceIte, Nat.reduceAdd, Nat.reduceLeDiff, Bool.false_eq_true, hS.var 1 rfl, hS.var 0 rfl, hc]
                      refine w_grdT h (fun hc h => ?_) (fun hc h => ?_)
                      · try simp only [W, hc]
                        refine seq_n hK142 ?_
                        refine w_kill ?_
                        exact cut_n hK141 ⟨_, (Option.some.inj h).symm, rfl, (hS.sel 8 [6, 4, 3, 1] (by decide))⟩
                      · try simp only [W, EE, reduceIte, Nat.reduceAdd, Nat.reduceLeDiff, hS.var 7 rfl, hc]
                        refine w_call h fun b143 hb143 h => ?_
                        refine impl_GoodBucket_w hb143 hS fun H hS => ?_
                        try simp only [W, EE]
                        rw [b_bneq _ _ _ _ (h := rfl) rfl, resV_s]
                        try simp only [W, reduceIte, Bool.false_eq_true]
                        refine seq_n hK142 ?_
                        refine w_kill ?_
                        exact cut_n hK141 ⟨_, (Option.some.inj h).symm, rfl, (hS.sel 8 [6, 4, 3, 1] (by decide))⟩
          · obtain ⟨x138, ey, rfl, hS⟩ := hq; obtain rfl := ey.symm
            replace h := g140
            try dsimp only at h
            refine seq_n hK137 ?_
            refine w_if ?_
            simp only [W]
            refine w_cnd h (fun hc h => ?_) (fun hc h => ?_)
            · refine w_seq fun K144 hK144 => ?_
              refine w_reg gC ?_
              try simp only [W, Nat.reduceAdd]
              refine seq_n hK144 ?_
              refine w_ret ?_
              refine seq_r hK136 ?_
              refine fin_r1 hK0 rfl ?_
              try obtain rfl := Option.some.inj h
              exact hP _ (hS.sel 4 [] (by decide))
            · refine w_skip ?_
              refine seq_n hK136 ?_
              refine w_seq fun K145 hK145 => ?_
              refine w_reg gC ?_
              try simp only [W, Nat.reduceAdd]
              refine w_grdT h (fun hc h => ?_) (fun hc h => ?_)
              · try simp only [W, hc]
                refine w_grdT h (fun hc h => ?_) (fun hc h => ?_)
                · try simp only [W, reduceIte, hc]
                  refine w_grdT h (fun hc h => ?_) (fun hc h => ?_)
                  · try simp only [W, reduceIte, hc]
                    refine seq_n hK145 ?_
                    refine w_ret ?_
                    refine fin_r1 hK0 rfl ?_
                    try obtain rfl := Option.some.inj h
                    exact hP _ (hS.sel 4 [] (by decide))
                  · try simp only [W, EE, reduceIte, Nat.reduceAdd, Nat.reduceLeDiff, hS.var 3 rfl, hc]
                    refine w_call h fun b146 hb146 h => ?_
                    refine impl_GoodBucket_w hb146 hS fun H hS => ?_
                    try simp only [W]
                    refine w_grdT h (fun hc h => ?_) (fun hc h => ?_)
                    · try simp only [W, EE, reduceIte, Nat.reduceAdd, Nat.reduceBEq, Bool.false_eq_true, hS.var 3 rfl, hc]
                      refine seq_n hK145 ?_
                      refine w_ret ?_
                      refine fin_r1 hK0 rfl ?_
                      try obtain rfl := Option.some.inj h
                      exact hP _ (hS.sel 4 [] (by decide))
                    · try simp only [W, reduceIte, Bool.false_eq_true, hc]
                      refine seq_n hK145 ?_
                      refine w_ret ?_
                      refine fin_r1 hK0 rfl ?_
                      try obtain rfl := Option.some.inj h
                      exact hP _ (hS.sel 4 [] (by decide))
                · try simp only [W, EE, reduceIte, Nat.reduceAdd, Nat.reduceLeDiff, hS.var 2 rfl, hc]
                  refine w_call h fun b147 hb147 h => ?_
                  refine impl_GoodBucket_w hb147 hS fun H hS => ?_
                  try simp only [W]
                  refine w_grdT h (fun hc h => ?_) (fun hc h => ?_)
                  · try simp only [W, EE, reduceIte, Nat.reduceAdd, Nat.reduceBEq, Bool.false_eq_true, hS.var 1 rfl, hS.var 2 rfl, hc]
                    refine w_grdT h (fun hc h => ?_) (fun hc h => ?_)
                    · try simp only [W, hc]
                      refine w_grdT h (fun hc h => ?_) (fun hc h => ?_)
                      · try simp only [W, reduceIte, hc]
                        refine seq_n hK145 ?_
                        refine w_ret ?_
                        refine fin_r1 hK0 rfl ?_
                        try obtain rfl := Option.some.inj h
                        exact hP _ (hS.sel 4 [] (by decide))
                      · try simp only [W, EE, reduceIte, Nat.reduceAdd, Nat.reduceLeDiff, hS.var 3 rfl, hc]
                        refine w_call h fun b148 hb148 h => ?_
                        refine impl_GoodBucket_w hb148 hS fun H hS => ?_
                        try simp only [W]
                        refine w_grdT h (fun hc h => ?_) (fun hc h => ?_)
                        · try simp only [W, EE, reduceIte, Nat.reduceAdd, Nat.reduceBEq, Bool.false_eq_true, hS.var 3 rfl, hc]
                          refine seq_n hK145 ?_
                          refine w_ret ?_
                          refine fin_r1 hK0 rfl ?_
                          try obtain rfl := Option.some.inj h
                          exact hP _ (hS.sel 4 [] (by decide))
                        · try simp only [W, reduceIte, Bool.false_eq_true, hc]
                          refine seq_n hK145 ?_
                          refine w_ret ?_
                          refine fin_r1 hK0 rfl ?_
                          try obtain rfl := Option.some.inj h
                          exact hP _ (hS.sel 4 [] (by decide))
                    · try simp only [W, hc]
                      refine seq_n hK145 ?_
                      refine w_ret ?_
                      refine fin_r1 hK0 rfl ?_
                      try obtain rfl := Option.some.inj h
                      exact hP _ (hS.sel 4 [] (by decide))
                  · try simp only [W, reduceIte, Bool.false_eq_true, hc]
                    refine seq_n hK145 ?_
                    refine w_ret ?_
                    refine fin_r1 hK0 rfl ?_
                    try obtain rfl := Option.some.inj h
                    exact hP _ (hS.sel 4 [] (by decide))
              · try simp only [W, EE, reduceIte, Nat.reduceAdd, Nat.reduceLeDiff, hS.var 0 rfl, hc]
                refine w_call h fun b149 hb149 h => ?_
                refine impl_GoodBucket_w hb149 hS fun H hS => ?_
                try simp only [W, reduceIte, Bool.false_eq_true]
                refine w_grdT h (fun hc h => ?_) (fun hc h => ?_)
                · try simp only [W, hc]
                  refine w_grdT h (fun hc h => ?_) (fun hc h => ?_)
                  · try simp only [W, reduceIte, hc]
                    refine w_grdT h (fun hc h => ?_) (fun hc h => ?_)
                    · try simp only [W, reduceIte, hc]
                      refine seq_n hK145 ?_
                      refine w_ret ?_
                      refine fin_r1 hK0 rfl ?_
                      try obtain rfl := Option.some.inj h
                      exact hP _ (hS.sel 4 [] (by decide))
                    · try simp only [W, EE, reduceIte, Nat.reduceAdd, Nat.reduceLeDiff, hS.var 3 rfl, hc]
                      refine w_call h fun b150 hb150 h => ?_
                      refine impl_GoodBucket_w hb150 hS fun H hS => ?_
                      try simp only [W]
                      refine w_grdT h (fun hc h => ?_) (fun hc h => ?_)
                      · try simp only [W, EE, reduceIte, Nat.reduceAdd, Nat.reduceBEq, Bool.false_eq_true, hS.var 3 rfl, hc]
                        refine seq_n hK145 ?_
                        refine w_ret ?_
                        refine fin_r1 hK0 rfl ?_
                        try obtain rfl := Option.some.inj h
                        exact hP _ (hS.sel 4 [] (by decide))
                      · try simp only [W, reduceIte, Bool.false_eq_true, hc]
                        refine seq_n hK145 ?_
                        refine w_ret ?_
                        refine fin_r1 hK0 rfl ?_
                        try obtain rfl := Option.some.inj h
                        exact hP _ (hS.sel 4 [] (by decide))
                  · try simp only [W, EE, reduceIte, Nat.reduceAdd, Nat.reduceLeDiff, hS.var 2 rfl, hc]
                    refine w_call h fun b151 hb151 h => ?_
                    refine impl_GoodBucket_w hb151 hS fun H hS => ?_
                    try simp only [W]
                    refine w_grdT h (fun hc h => ?_) (fun hc h => ?_)
                    · try simp only [W, EE, reduceIte, Nat.reduceAdd, Nat.reduceBEq, Bool.false_eq_true, hS.var 1 rfl, hS.var 2 rfl, hc]
                      refine w_grdT h (fun hc h => ?_) (fun hc h => ?_)
                      · try simp only [W, hc]
                        refine w_grdT h (fun hc h => ?_) (fun hc h => ?_)
                        · try simp only [W, reduceIte, hc]
                          refine seq_n hK145 ?_
                          refine w_ret ?_
                          refine fin_r1 hK0 rfl ?_
                          try obtain rfl := Option.some.inj h
                          exact hP _ (hS.sel 4 [] (by decide))
                        · try simp only [W, EE, reduceIte, Nat.reduceAdd, Nat.reduceLeDiff, hS.var 3 rfl, hc]
                          refine w_call h fun b152 hb152 h => ?_
                          refine impl_GoodBucket_w hb152 hS fun H hS => ?_
                          try simp only [W]
                          refine w_grdT h (fun hc h => ?_) (fun hc h => ?_)
                          · try simp only [W, EE, reduceIte, Nat.reduceAdd, Nat.reduceBEq, Bool.false_eq_true, hS.var 3 rfl, hc]
                            refine seq_n hK145 ?_
                            refine w_ret ?_
                            refine fin_r1 hK0 rfl ?_
                            try obtain rfl := Option.some.inj h
                            exact hP _ (hS.sel 4 [] (by decide))
                          · try simp only [W, reduceIte, Bool.false_eq_true, hc]
                            refine seq_n hK145 ?_
                            refine w_ret ?_
                            refine fin_r1 hK0 rfl ?_
                            try obtain rfl := Option.some.inj h
                            exact hP _ (hS.sel 4 [] (by decide))
                      · try simp only [W, hc]
                        refine seq_n hK145 ?_
                        refine w_ret ?_
                        refine fin_r1 hK0 rfl ?_
                        try obtain rfl := Option.some.inj h
                        exact hP _ (hS.sel 4 [] (by decide))
                    · try simp only [W, reduceIte, Bool.false_eq_true, hc]
                      refine seq_n hK145 ?_
                      refine w_ret ?_
                      refine fin_r1 hK0 rfl ?_
                      try obtain rfl := Option.some.inj h
                      exact hP _ (hS.sel 4 [] (by decide))
                · try simp only [W, hc]
                  refine seq_n hK145 ?_
                  refine w_ret ?_
                  refine fin_r1 hK0 rfl ?_
                  try obtain rfl := Option.some.inj h
                  exact hP _ (hS.sel 4 [] (by decide))
end Go.VxW
