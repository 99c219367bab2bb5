import Derived.Test.YtkmcnmjjfgahpaaVyGF
import Derived.Test.YtkmcnmjjfgahpaaProg
import Derived.Test.YtkmcnmjjfgahpaaVaD
import Derived.KernelRfl
open Go Go.VS
set_option maxRecDepth 8000
set_option maxHeartbeats 4000000
namespace Go.VxW
def e_L1Cur (x : L1Cur) : AV := .agg [.fz (x.Code.map (AV.int .u8)), .int .i64 x.At, .int .u64 x.Seed]
def E : TEnv := fun t => match t with
  | 3 => some { sz := 1, agg := false, zero := [AV.int IntKind.i64 0], bytes := 8, und := UD.it IntKind.i64, eqok := true }
  | 4 => some { sz := 1, agg := false, zero := [AV.bool false], bytes := 1, und := UD.bl, eqok := true }
  | 5 => some { sz := 1, agg := false, zero := [AV.int IntKind.u8 0], bytes := 1, und := UD.it IntKind.u8, eqok := true }
  | 9 => some { sz := 1, agg := false, zero := [AV.str []], bytes := 16, und := UD.str, eqok := true }
  | 48 => some { sz := 1, agg := false, zero := [AV.nil], bytes := 24, und := UD.sl 3, eqok := true }
  | 72 => some { sz := 1, agg := false, zero := [AV.nil], bytes := 24, und := UD.sl 5, eqok := true }
  | 150 => some { sz := 1, agg := false, zero := [AV.nilp], bytes := 8, und := UD.pt, eqok := true }
  | 151 => some { sz := 1, agg := false, zero := [AV.int IntKind.u64 0], bytes := 8, und := UD.it IntKind.u64, eqok := true }
  | 153 => some { sz := 3, agg := true, zero := [AV.nil, AV.int IntKind.i64 0, AV.int IntKind.u64 0], bytes := 40, und := UD.st [(0, 72), (1, 3), (2, 151)], eqok := true }
  | 165 => some { sz := 1, agg := false, zero := [AV.int IntKind.u64 0], bytes := 8, und := UD.it IntKind.u64, eqok := true }
  | _ => none
def pol : FuncId → FPol := fun f => match f with
  | 13 => { rsh := [[.sc]], frz := [(8, [], some [1, 5, 6, 7, 10, 11, 85]), (13, [], some [1, 130]), (18, [], some [1, 19, 20, 21, 22, 155]), (23, [], some [1, 190]), (28, [], some [30, 31, 32, 33, 34, 222])], cnds := [(86, [1]), (156, [1])] }
  | 63 => { rsh := [[.sc]] }
  | 64 => { rsh := [[.sc], [.sc]] }
  | 65 => { rsh := [[.sc], [.sc]] }
  | 66 => { rsh := [[.sc], [.sc]] }
  | 67 => { rsh := [[.sc], [.sc]] }
  | 68 => { rsh := [[.sc], [.sc], [.sc]], loops := [(0, { keep := [0, 1, 7, 8, 9] })], blocks := [(0, [1, 7, 8])], frz := [(11, [], some [1, 7, 8, 54])] }
  | 69 => { rsh := [[.sc], [.sc]], fz := [(2, [(4, [([11], [.sl [.sc]])])])] }
  | 70 => { rsh := [[.sc], [.sc]], frz := [(1, [], some [0, 1, 30])] }
  | 71 => { rsh := [[.sc], [.sc]], frz := [(1, [], some [0, 1, 30])] }
  | 72 => { rsh := [[.sc], [.sc]] }
  | 73 => { rsh := [[.sc], [.sc], [.sc]], frz := [(1, [], some [0, 1, 16])] }
  | 86 => { rsh := [[.sc]] }
  | 95 => { rsh := [[.sc]] }
  | 134 => { rsh := [[.sc]] }
  | 138 => { rsh := [[.sc]] }
  | 139 => { rsh := [[.sc]] }
  | 140 => { rsh := [[.sc]] }
  | 141 => { rsh := [[.sc]] }
  | 142 => { rsh := [[.sc]] }
  | 143 => { rsh := [[.sc]] }
  | 144 => { rsh := [[.sc]] }
  | 145 => { rsh := [[.sc]], fz := [(2, [(2, [([6], [.sl [.sc]])])]), (3, [(4, [([11], [.sl [.sc]])])])] }
  | 146 => { rsh := [[.sc]], loops := [(0, { keep := [0, 1, 5, 6] }), (2, { keep := [1, 5, 7] })], blocks := [(0, [1, 5]), (2, [5])] }
  | 147 => { rsh := [[.sc]], loops := [(0, { keep := [0, 1, 5, 6] })], blocks := [(0, [1, 5])], regs := [(7, [8], [])] }
  | 148 => { rsh := [[.sc]], loops := [(0, { keep := [0, 3, 7, 8, 9] })], blocks := [(1, [0, 3, 7, 8, 9]), (0, [0, 3])], cnds := [(14, [0, 3, 7, 8, 9]), (21, [3])] }
  | 149 => { rsh := [[.sc]], cnds := [(11, [1, 5])] }
  | 150 => { rsh := [[.sc], [.sc]], loops := [(0, { keep := [0, 1, 6, 7, 8] })], blocks := [(0, [1, 6, 7])], frz := [(11, [], some [1, 6, 7, 52])] }
  | 180 => { rsh := [[.sc]] }
  | 182 => { rsh := [[.sc]] }
  | 183 => { rsh := [[.sl [.sc]]], loops := [(0, { keep := [0, 3, 4] })], blocks := [(0, [0, 3])], cnds := [(17, [3])] }
  | 184 => { rsh := [[.sc]], loops := [(0, { keep := [0, 1, 2, 7] })], blocks := [(1, [0, 1, 2, 7]), (2, [0, 1, 2, 7]), (0, [1])], frz := [(2, [], some [0, 1, 2, 7, 18])], cnds := [(43, [0, 1, 2, 7]), (54, [0, 1, 2, 7])] }
  | 185 => { rsh := [[.sc]], cnds := [(13, [0, 3])] }
  | _ => {}
noncomputable def code : FuncId → Option Func := fun f => match f with
  | 13 => some Go.Proofs.Try.f13
  | 63 => some Go.Proofs.Try.f63
  | 64 => some Go.Proofs.Try.f64
  | 65 => some Go.Proofs.Try.f65
  | 66 => some Go.Proofs.Try.f66
  | 67 => some Go.Proofs.Try.f67
  | 68 => some Go.Proofs.Try.f68
  | 69 => some Go.Proofs.Try.f69
  | 70 => some Go.Proofs.Try.f70
  | 71 => some Go.Proofs.Try.f71
  | 72 => some Go.Proofs.Try.f72
  | 73 => some Go.Proofs.Try.f73
  | 86 => some Go.Proofs.Try.f86
  | 95 => some Go.Proofs.Try.f95
  | 134 => some Go.Proofs.Try.f134
  | 138 => some Go.Proofs.Try.f138
  | 139 => some Go.Proofs.Try.f139
  | 140 => some Go.Proofs.Try.f140
  | 141 => some Go.Proofs.Try.f141
  | 142 => some Go.Proofs.Try.f142
  | 143 => some Go.Proofs.Try.f143
  | 144 => some Go.Proofs.Try.f144
  | 145 => some Go.Proofs.Try.f145
  | 146 => some Go.Proofs.Try.f146
  | 147 => some Go.Proofs.Try.f147
  | 148 => some Go.Proofs.Try.f148
  | 149 => some Go.Proofs.Try.f149
  | 150 => some Go.Proofs.Try.f150
  | 180 => some Go.Proofs.Try.f180
  | 182 => some Go.Proofs.Try.f182
  | 183 => some Go.Proofs.Try.f183
  | 184 => some Go.Proofs.Try.f184
  | 185 => some Go.Proofs.Try.f185
  | _ => none
noncomputable def C : Ctx := ⟨E, pol, code, fun _ _ _ _ => False⟩
theorem gC : Good C := ⟨fun _ _ _ _ _ _ h => h, fun _ _ _ _ h => h.elim⟩
theorem cE : C.E = E := rfl
theorem E3 : E 3 = some { sz := 1, agg := false, zero := [AV.int IntKind.i64 0], bytes := 8, und := UD.it IntKind.i64, eqok := true } := rfl
theorem E4 : E 4 = some { sz := 1, agg := false, zero := [AV.bool false], bytes := 1, und := UD.bl, eqok := true } := rfl
theorem E5 : E 5 = some { sz := 1, agg := false, zero := [AV.int IntKind.u8 0], bytes := 1, und := UD.it IntKind.u8, eqok := true } := rfl
theorem E9 : E 9 = some { sz := 1, agg := false, zero := [AV.str []], bytes := 16, und := UD.str, eqok := true } := rfl
theorem E48 : E 48 = some { sz := 1, agg := false, zero := [AV.nil], bytes := 24, und := UD.sl 3, eqok := true } := rfl
theorem E72 : E 72 = some { sz := 1, agg := false, zero := [AV.nil], bytes := 24, und := UD.sl 5, eqok := true } := rfl
theorem E150 : E 150 = some { sz := 1, agg := false, zero := [AV.nilp], bytes := 8, und := UD.pt, eqok := true } := rfl
theorem E151 : E 151 = some { sz := 1, agg := false, zero := [AV.int IntKind.u64 0], bytes := 8, und := UD.it IntKind.u64, eqok := true } := rfl
theorem E153 : E 153 = some { sz := 3, agg := true, zero := [AV.nil, AV.int IntKind.i64 0, AV.int IntKind.u64 0], bytes := 40, und := UD.st [(0, 72), (1, 3), (2, 151)], eqok := true } := rfl
theorem E165 : E 165 = some { sz := 1, agg := false, zero := [AV.int IntKind.u64 0], bytes := 8, und := UD.it IntKind.u64, eqok := true } := rfl
theorem EE : type_of% (And.intro @cE <| And.intro @E3 <| And.intro @E4 <| And.intro @E5 <| And.intro @E9 <| And.intro @E48 <| And.intro @E72 <| And.intro @E150 <| And.intro @E151 <| And.intro @E153 @E165) := And.intro @cE <| And.intro @E3 <| And.intro @E4 <| And.intro @E5 <| And.intro @E9 <| And.intro @E48 <| And.intro @E72 <| And.intro @E150 <| And.intro @E151 <| And.intro @E153 @E165
theorem e_L1Cur_d (x : L1Cur) : e_L1Cur x = .agg [.fz (x.Code.map (AV.int .u8)), .int .i64 x.At, .int .u64 x.Seed] := rfl
theorem EN : type_of% (And.intro @e_L1Cur_d @killB_n) := And.intro @e_L1Cur_d @killB_n
theorem spec_l1Cur_next_w {a0 : L1Cur} {i0 : Nat} {w0 : Nat} {r : (Int × L1Cur)} (h : spec_l1Cur_next a0 = some r) {F : List It} {H : Heap} (hS : Own H (⟨.ptr i0 w0 0 0, 3, [.agg [.fz (a0.Code.map (AV.int .u8)), .int .i64 a0.At, .int .u64 a0.Seed]]⟩ :: F)) {P : AV → Heap → Prop} (hP : ∀ H', Own H' (⟨.ptr i0 w0 0 0, 3, [.agg [.fz (r.2.Code.map (AV.int .u8)), .int .i64 r.2.At, .int .u64 r.2.Seed]]⟩ :: F) → P (.int .i64 r.1) H') : ACall C 185 [.ptr i0 w0 0 0] H P := by
  refine acall_of gC (res := [.tmp 2]) (n := 62) rfl rfl rfl rfl fun K0 hK0 => ?_
  simp only [W, Nat.reduceSub, Nat.reduceAdd, List.replicate]
  unfold spec_l1Cur_next at h
  refine w_seq fun K1 hK1 => ?_
  refine w_reg gC ?_
  try simp only [W, Nat.reduceAdd]
  refine seq_n hK1 ?_
  refine w_seq fun K2 hK2 => ?_
  refine w_reg gC ?_
  try simp only [W, Nat.reduceAdd]
  refine seq_n hK2 ?_
  refine w_seq fun K3 hK3 => ?_
  refine w_seq fun K4 hK4 => ?_
  refine w_draw0 gC (by kernel_rfl) ?_
  try simp only [W, EE, Nat.reduceAdd, Nat.reduceBEq, hS.var 0 rfl]
  refine seq_n hK4 ?_
  obtain ⟨y6, h, g7⟩ := Option.bind_eq_some_iff.1 h
  refine w_join gC (fun s H => ∃ x5 : Int, y6 = (x5) ∧ s = [.ptr i0 w0 0 0, u, u, .int .i64 x5, u, u, u, u, u, u, u, u, u, u, u, u, u, u, u, u, u, u, u, u, u, u, u, u, u, u, u, u, u, u, u, u, u, u, u, u, u, u, u, u, u, u, u, u, u, u, u, u, u, u, u, u, u, u, u, u, u, u] ∧ Own H (⟨.ptr i0 w0 0 0, 3, [.agg [.fz (a0.Code.map (AV.int .u8)), .int .i64 a0.At, .int .u64 a0.Seed]]⟩ :: F)) (fun K8 hK8 => ?_) (fun s H hq => ?_)
  · refine w_seq fun K9 hK9 => ?_
    refine w_if ?_
    simp only [W]
    refine w_cnd h (fun hc h => ?_) (fun hc h => ?_)
    · refine w_draw0 gC (by kernel_rfl) ?_
      try simp only [W, EE, Nat.reduceAdd, Nat.reduceBEq, hS.var 0 rfl]
      refine w_fz rfl rfl rfl (fun _ => rfl) h fun b10 hb10 h => ?_
      try simp only [W, EE]
      refine seq_n hK9 ?_
      refine w_kill ?_
      exact cut_n hK8 ⟨_, (Option.some.inj h).symm, rfl, hS⟩
    · refine w_skip ?_
      refine seq_n hK9 ?_
      refine w_kill ?_
      exact cut_n hK8 ⟨_, (Option.some.inj h).symm, rfl, hS⟩
  · obtain ⟨x5, ey, rfl, hS⟩ := hq; obtain rfl := ey.symm
    replace h := g7
    try dsimp only at h
    refine seq_n hK3 ?_
    refine w_seq fun K11 hK11 => ?_
    refine w_reg gC ?_
    try simp only [W, EE, Nat.reduceAdd, Nat.reduceBEq, hS.var 0 rfl]
    refine w_stv (a := .int .i64 (IntKind.i64.wrap (a0.At + 1))) (y' := .agg [.fz (a0.Code.map (AV.int .u8)), .int .i64 (IntKind.i64.wrap (a0.At + 1)), .int .u64 a0.Seed]) 0 hS rfl rfl rfl rfl rfl rfl rfl rfl fun H hS => ?_
    try simp only [W]
    refine seq_n hK11 ?_
    refine w_seq fun K12 hK12 => ?_
    refine w_reg gC ?_
    try simp only [W, EE, Nat.reduceAdd, Nat.reduceBEq, hS.var 0 rfl]
    refine w_stv (a := .int .u64 (IntKind.u64.wrap ((IntKind.u64.wrap ((IntKind.u64.wrap (a0.Seed * 6364136223846793005)) + (IntKind.u64.wrap x5))) + 1442695040888963407))) (y' := .agg [.fz (a0.Code.map (AV.int .u8)), .int .i64 (IntKind.i64.wrap (a0.At + 1)), .int .u64 (IntKind.u64.wrap ((IntKind.u64.wrap ((IntKind.u64.wrap (a0.Seed * 6364136223846793005)) + (IntKind.u64.wrap x5))) + 1442695040888963407))]) 0 hS rfl rfl rfl rfl rfl rfl rfl rfl fun H hS => ?_
    try simp only [W]
    refine seq_n hK12 ?_
    refine w_seq fun K13 hK13 => ?_
    refine w_seq fun K14 hK14 => ?_
    refine w_draw0 gC (by kernel_rfl) ?_
    try simp only [W, EE, Nat.reduceAdd, Nat.reduceBEq, hS.var 0 rfl]
    refine seq_n hK14 ?_
    refine w_if ?_
    simp only [W]
    refine w_cnd h (fun hc h => ?_) (fun hc h => ?_)
    · refine w_seq fun K15 hK15 => ?_
      refine w_reg gC ?_
      try simp only [W, Nat.reduceAdd]
      refine seq_n hK15 ?_
      refine w_ret ?_
      refine seq_r hK13 ?_
      refine fin_r1 hK0 rfl ?_
      try obtain rfl := Option.some.inj h
      exact hP _ hS
    · refine w_skip ?_
      refine seq_n hK13 ?_
      refine w_seq fun K16 hK16 => ?_
      refine w_reg gC ?_
      try simp only [W, EE, Nat.reduceAdd, Nat.reduceBEq, hS.var 0 rfl]
      rw [sr_lit _ _ _ rfl, Option.map_some, resV_s]
      try simp only [W, EE]
      refine seq_n hK16 ?_
      refine w_ret ?_
      refine fin_r1 hK0 rfl ?_
      try obtain rfl := Option.some.inj h
      exact hP _ hS
theorem spec_l1Cur_pick_w {a0 : L1Cur} {a1 : Int} {i0 : Nat} {w0 : Nat} {r : (Int × L1Cur)} (h : spec_l1Cur_pick a0 a1 = some r) {F : List It} {H : Heap} (hS : Own H (⟨.ptr i0 w0 0 0, 3, [.agg [.fz (a0.Code.map (AV.int .u8)), .int .i64 a0.At, .int .u64 a0.Seed]]⟩ :: F)) {P : AV → Heap → Prop} (hP : ∀ H', Own H' (⟨.ptr i0 w0 0 0, 3, [.agg [.fz (r.2.Code.map (AV.int .u8)), .int .i64 r.2.At, .int .u64 r.2.Seed]]⟩ :: F) → P (.int .i64 r.1) H') : ACall C 149 [.ptr i0 w0 0 0, .int .i64 a1] H P := by
  refine acall_of gC (res := [.tmp 4]) (n := 20) rfl rfl rfl rfl fun K0 hK0 => ?_
  simp only [W, Nat.reduceSub, Nat.reduceAdd, List.replicate]
  unfold spec_l1Cur_pick at h
  refine w_seq fun K1 hK1 => ?_
  refine w_reg gC ?_
  try simp only [W, Nat.reduceAdd]
  refine seq_n hK1 ?_
  refine w_seq fun K2 hK2 => ?_
  refine w_seq fun K3 hK3 => ?_
  refine w_reg gC ?_
  try simp only [W, EE, Nat.reduceAdd]
  refine seq_n hK3 ?_
  refine w_if ?_
  simp only [W]
  refine w_cnd h (fun hc h => ?_) (fun hc h => ?_)
  · refine w_seq fun K4 hK4 => ?_
    refine w_reg gC ?_
    try simp only [W, Nat.reduceAdd]
    refine seq_n hK4 ?_
    refine w_ret ?_
    refine seq_r hK2 ?_
    refine fin_r1 hK0 rfl ?_
    try obtain rfl := Option.some.inj h
    exact hP _ hS
  · refine w_skip ?_
    refine seq_n hK2 ?_
    refine w_seq fun K5 hK5 => ?_
    refine w_reg gC ?_
    try simp only [W, Nat.reduceAdd]
    refine w_call h fun b6 hb6 h => ?_
    obtain ⟨b7, b8⟩ := b6
    try dsimp only at h
    refine spec_l1Cur_next_w hb6 hS fun H hS => ?_
    try simp only [W]
    refine seq_n hK5 ?_
    refine w_seq fun K9 hK9 => ?_
    refine w_seq fun K10 hK10 => ?_
    refine w_reg gC ?_
    try simp only [W, EE, Nat.reduceAdd]
    refine seq_n hK10 ?_
    obtain ⟨y15, h, g16⟩ := Option.bind_eq_some_iff.1 h
    refine w_join gC (fun s H => ∃ x11 : Int, ∃ x12 : List Int, ∃ x13 : Int, ∃ x14 : Int, y15 = (x11, x12, x13, x14) ∧ s = [u, .int .i64 a1, u, u, u, .int .i64 x11, u, u, u, u, u, u, u, u, u, u, u, u, u, u] ∧ Own H (⟨.ptr i0 w0 0 0, 3, [.agg [.fz (x12.map (AV.int .u8)), .int .i64 x13, .int .u64 x14]]⟩ :: F)) (fun K17 hK17 => ?_) (fun s H hq => ?_)
    · refine w_seq fun K18 hK18 => ?_
      refine w_if ?_
      simp only [W]
      refine w_cnd h (fun hc h => ?_) (fun hc h => ?_)
      · refine w_reg gC ?_
        try simp only [W, EE, Nat.reduceAdd]
        refine w_call h fun b19 hb19 h => ?_
        obtain ⟨b20, b21⟩ := b19
        try dsimp only at h
        refine spec_l1Cur_next_w hb19 hS fun H hS => ?_
        try simp only [W, EE]
        refine seq_n hK18 ?_
        refine w_kill ?_
        exact cut_n hK17 ⟨_, _, _, _, (Option.some.inj h).symm, rfl, hS⟩
      · refine w_skip ?_
        refine seq_n hK18 ?_
        refine w_kill ?_
        exact cut_n hK17 ⟨_, _, _, _, (Option.some.inj h).symm, rfl, hS⟩
    · obtain ⟨x11, x12, x13, x14, rfl, rfl, hS⟩ := hq
      replace h := g16
      try dsimp only at h
      refine seq_n hK9 ?_
      refine w_seq fun K22 hK22 => ?_
      refine w_reg gC ?_
      try simp only [W, EE, Nat.reduceAdd]
      refine w_num _ h fun x23 hx23 h => ?_
      try simp only [W]
      refine seq_n hK22 ?_
      refine w_ret ?_
      refine fin_r1 hK0 rfl ?_
      try obtain rfl := Option.some.inj h
      exact hP _ hS
theorem spec_l1Cur_one_w {a0 : L1Cur} {a1 : Int} {i0 : Nat} {w0 : Nat} {r : (Bool × L1Cur)} (h : spec_l1Cur_one a0 a1 = some r) {F : List It} {H : Heap} (hS : Own H (⟨.ptr i0 w0 0 0, 3, [.agg [.fz (a0.Code.map (AV.int .u8)), .int .i64 a0.At, .int .u64 a0.Seed]]⟩ :: F)) {P : AV → Heap → Prop} (hP : ∀ H', Own H' (⟨.ptr i0 w0 0 0, 3, [.agg [.fz (r.2.Code.map (AV.int .u8)), .int .i64 r.2.At, .int .u64 r.2.Seed]]⟩ :: F) → P (.bool r.1) H') : ACall C 180 [.ptr i0 w0 0 0, .int .i64 a1] H P := by
  refine acall_of gC (res := [.tmp 4]) (n := 9) rfl rfl rfl rfl fun K0 hK0 => ?_
  simp only [W, Nat.reduceSub, Nat.reduceAdd, List.replicate]
  unfold spec_l1Cur_one at h
  refine w_seq fun K1 hK1 => ?_
  refine w_reg gC ?_
  try simp only [W, Nat.reduceAdd]
  refine seq_n hK1 ?_
  refine w_seq fun K2 hK2 => ?_
  refine w_reg gC ?_
  try simp only [W, Nat.reduceAdd]
  refine w_call h fun b3 hb3 h => ?_
  obtain ⟨b4, b5⟩ := b3
  try dsimp only at h
  refine spec_l1Cur_pick_w hb3 hS fun H hS => ?_
  try simp only [W, EE]
  refine seq_n hK2 ?_
  refine w_ret ?_
  refine fin_r1 hK0 rfl ?_
  try obtain rfl := Option.some.inj h
  exact hP _ hS
theorem spec_l1Cur_among_w {a0 : L1Cur} {a1 : List Int} {i0 : Nat} {w0 : Nat} {r : (Int × L1Cur)} (h : spec_l1Cur_among a0 a1 = some r) {F : List It} {H : Heap} (hS : Own H (⟨.ptr i0 w0 0 0, 3, [.agg [.fz (a0.Code.map (AV.int .u8)), .int .i64 a0.At, .int .u64 a0.Seed]]⟩ :: F)) {P : AV → Heap → Prop} (hP : ∀ H', Own H' (⟨.ptr i0 w0 0 0, 3, [.agg [.fz (r.2.Code.map (AV.int .u8)), .int .i64 r.2.At, .int .u64 r.2.Seed]]⟩ :: F) → P (.int .i64 r.1) H') : ACall C 134 [.ptr i0 w0 0 0, .fz (a1.map (AV.int .i64))] H P := by
  refine acall_of gC (res := [.tmp 4]) (n := 12) rfl rfl rfl rfl fun K0 hK0 => ?_
  simp only [W, Nat.reduceSub, Nat.reduceAdd, List.replicate]
  unfold spec_l1Cur_among at h
  refine w_seq fun K1 hK1 => ?_
  refine w_reg gC ?_
  try simp only [W, Nat.reduceAdd]
  refine seq_n hK1 ?_
  refine w_seq fun K2 hK2 => ?_
  refine w_reg gC ?_
  try simp only [W, EE, Nat.reduceAdd]
  refine w_call h fun b3 hb3 h => ?_
  obtain ⟨b4, b5⟩ := b3
  try dsimp only at h
  refine spec_l1Cur_pick_w hb3 hS fun H hS => ?_
  try simp only [W, EE]
  refine w_fz rfl rfl rfl (fun _ => rfl) h fun b6 hb6 h => ?_
  try simp only [W, EE]
  refine seq_n hK2 ?_
  refine w_ret ?_
  refine fin_r1 hK0 rfl ?_
  try obtain rfl := Option.some.inj h
  exact hP _ hS
theorem spec_l1Cur_number_w {a0 : L1Cur} {i0 : Nat} {w0 : Nat} {r : (Int × L1Cur)} (h : spec_l1Cur_number a0 = some r) {F : List It} {H : Heap} (hS : Own H (⟨.ptr i0 w0 0 0, 3, [.agg [.fz (a0.Code.map (AV.int .u8)), .int .i64 a0.At, .int .u64 a0.Seed]]⟩ :: F)) {P : AV → Heap → Prop} (hP : ∀ H', Own H' (⟨.ptr i0 w0 0 0, 3, [.agg [.fz (r.2.Code.map (AV.int .u8)), .int .i64 r.2.At, .int .u64 r.2.Seed]]⟩ :: F) → P (.int .i64 r.1) H') : ACall C 145 [.ptr i0 w0 0 0] H P := by
  refine acall_of gC (res := [.tmp 2]) (n := 14) rfl rfl rfl rfl fun K0 hK0 => ?_
  simp only [W, Nat.reduceSub, Nat.reduceAdd, List.replicate]
  unfold spec_l1Cur_number at h
  refine w_seq fun K1 hK1 => ?_
  refine w_reg gC ?_
  try simp only [W, Nat.reduceAdd]
  refine seq_n hK1 ?_
  refine w_seq fun K2 hK2 => ?_
  refine w_seq fun K3 hK3 => ?_
  refine w_reg gC ?_
  try simp only [W, Nat.reduceAdd]
  refine w_call h fun b4 hb4 h => ?_
  obtain ⟨b5, b6⟩ := b4
  try dsimp only at h
  refine spec_l1Cur_one_w hb4 hS fun H hS => ?_
  try simp only [W]
  refine seq_n hK3 ?_
  refine w_if ?_
  simp only [W]
  refine w_cnd h (fun hc h => ?_) (fun hc h => ?_)
  · refine w_seq fun K7 hK7 => ?_
    refine w_regF (fz := [(2, [([6], [.sl [.sc]])])]) gC ?_
    try simp only [W, Nat.reduceAdd, Nat.reduceBEq]
    refine w_lit (el := ([0, 63, 64, 16383, 16384, 1073741823, 1073741824, 1152921504606846975, 1152921504606846976, -1] : List Int).map (AV.int .i64)) hS rfl rfl rfl rfl rfl rfl rfl fun v8 H qv8 hS => ?_
    try simp only [W, Nat.reduceAdd]
    refine FZ_own 0 hS rfl qv8 rfl (fun _ _ => by simp [takeE, takeT, plainA]) (fun _ => rfl) fun H hsame hS => ?_
    try simp only [W]
    refine w_call h fun b10 hb10 h => ?_
    obtain ⟨b11, b12⟩ := b10
    try dsimp only at h
    refine spec_l1Cur_among_w hb10 hS fun H hS => ?_
    try simp only [W, Nat.reduceAdd, Nat.reduceBEq]
    refine seq_n hK7 ?_
    refine w_ret ?_
    refine seq_r hK2 ?_
    refine fin_r1 hK0 rfl ?_
    try obtain rfl := Option.some.inj h
    exact hP _ hS
  · refine w_skip ?_
    refine seq_n hK2 ?_
    refine w_seq fun K13 hK13 => ?_
    refine w_regF (fz := [(4, [([11], [.sl [.sc]])])]) gC ?_
    try simp only [W, Nat.reduceAdd, Nat.reduceBEq]
    refine w_call h fun b14 hb14 h => ?_
    obtain ⟨b15, b16⟩ := b14
    try dsimp only at h
    refine spec_l1Cur_pick_w hb14 hS fun H hS => ?_
    try simp only [W, Nat.reduceAdd, Nat.reduceBEq]
    refine w_lit (el := ([1, 3, 1000, 99991] : List Int).map (AV.int .i64)) hS rfl rfl rfl rfl rfl rfl rfl fun v17 H qv17 hS => ?_
    try simp only [W, Nat.reduceAdd]
    refine FZ_own 0 hS rfl qv17 rfl (fun _ _ => by simp [takeE, takeT, plainA]) (fun _ => rfl) fun H hsame hS => ?_
    try simp only [W]
    refine w_call h fun b19 hb19 h => ?_
    obtain ⟨b20, b21⟩ := b19
    try dsimp only at h
    refine spec_l1Cur_among_w hb19 hS fun H hS => ?_
    try simp only [W, EE, Nat.reduceAdd, Nat.reduceBEq]
    refine seq_n hK13 ?_
    refine w_ret ?_
    refine fin_r1 hK0 rfl ?_
    try obtain rfl := Option.some.inj h
    exact hP _ hS
theorem spec_DrawSizeOf_w {a0 : List Int} {r : (Int)} (h : spec_DrawSizeOf a0 = some r) {F : List It} {H : Heap} (hS : Own H (F)) {P : AV → Heap → Prop} (hP : ∀ H', Own H' (F) → P (.int .i64 r) H') : ACall C 138 [.fz (a0.map (AV.int .u8))] H P := by
  refine acall_of gC (res := [.tmp 2]) (n := 9) rfl rfl rfl rfl fun K0 hK0 => ?_
  simp only [W, Nat.reduceSub, Nat.reduceAdd, List.replicate]
  unfold spec_DrawSizeOf at h
  refine w_seq fun K1 hK1 => ?_
  refine w_reg gC ?_
  try simp only [W, Nat.reduceAdd]
  refine seq_n hK1 ?_
  refine w_seq fun K2 hK2 => ?_
  refine w_reg gC ?_
  try simp only [W, EE, Nat.reduceAdd]
  refine w_bld rfl rfl rfl rfl rfl ?_
  try simp only [W]
  refine w_box hS rfl rfl rfl rfl fun ip3 wp3 H hS => ?_
  try simp only [W]
  refine seq_n hK2 ?_
  refine w_seq fun K5 hK5 => ?_
  refine w_reg gC ?_
  try simp only [W, Nat.reduceAdd]
  refine w_call h fun b6 hb6 h => ?_
  obtain ⟨b7, b8⟩ := b6
  try dsimp only at h
  refine spec_l1Cur_number_w hb6 hS fun H hS => ?_
  try simp only [W]
  refine seq_n hK5 ?_
  refine w_ret ?_
  refine fin_r1 hK0 rfl ?_
  try obtain rfl := Option.some.inj h
  exact hP _ (hS.sel 1 [] (by decide))
theorem spec_DrawPutNumber_w {a0 : List Int} {r : (Int)} (h : spec_DrawPutNumber a0 = some r) {F : List It} {H : Heap} (hS : Own H (F)) {P : AV → Heap → Prop} (hP : ∀ H', Own H' (F) → P (.int .i64 r) H') : ACall C 63 [.fz (a0.map (AV.int .u8))] H P := by
  refine acall_of gC (res := [.tmp 2]) (n := 5) rfl rfl rfl rfl fun K0 hK0 => ?_
  simp only [W, Nat.reduceSub, Nat.reduceAdd, List.replicate]
  unfold spec_DrawPutNumber at h
  refine w_seq fun K1 hK1 => ?_
  refine w_reg gC ?_
  try simp only [W, Nat.reduceAdd]
  refine seq_n hK1 ?_
  refine w_seq fun K2 hK2 => ?_
  refine w_reg gC ?_
  try simp only [W, Nat.reduceAdd]
  refine w_call h fun b3 hb3 h => ?_
  refine spec_DrawSizeOf_w hb3 hS fun H hS => ?_
  try simp only [W]
  refine seq_n hK2 ?_
  refine w_ret ?_
  refine fin_r1 hK0 rfl ?_
  try obtain rfl := Option.some.inj h
  exact hP _ hS
theorem impl_in_w {a0 : Int} {a1 : Int} {a2 : Int} {r : (Bool)} (h : impl_in a0 a1 a2 = some r) {F : List It} {H : Heap} (hS : Own H (F)) {P : AV → Heap → Prop} (hP : ∀ H', Own H' (F) → P (.bool r) H') : ACall C 95 [.int .i64 a0, .int .i64 a1, .int .i64 a2] H P := by
  refine acall_of gC (res := [.tmp 6]) (n := 15) rfl rfl rfl rfl fun K0 hK0 => ?_
  simp only [W, Nat.reduceSub, Nat.reduceAdd, List.replicate]
  unfold impl_in at h
  refine w_seq fun K1 hK1 => ?_
  refine w_reg gC ?_
  try simp only [W, Nat.reduceAdd]
  refine seq_n hK1 ?_
  refine w_seq fun K2 hK2 => ?_
  refine w_reg gC ?_
  try simp only [W, EE, Nat.reduceAdd]
  refine w_grdT h (fun hc h => ?_) (fun hc h => ?_)
  · try simp only [W, EE, reduceIte, hc]
    refine seq_n hK2 ?_
    refine w_ret ?_
    refine fin_r1 hK0 rfl ?_
    try obtain rfl := Option.some.inj h
    exact hP _ hS
  · try simp only [W, hc]
    refine seq_n hK2 ?_
    refine w_ret ?_
    refine fin_r1 hK0 rfl ?_
    try obtain rfl := Option.some.inj h
    exact hP _ hS
theorem impl_isNumber_w {a0 : Int} {r : (Bool)} (h : impl_isNumber a0 = some r) {F : List It} {H : Heap} (hS : Own H (F)) {P : AV → Heap → Prop} (hP : ∀ H', Own H' (F) → P (.bool r) H') : ACall C 139 [.int .i64 a0] H P := by
  refine acall_of gC (res := [.tmp 2]) (n := 5) rfl rfl rfl rfl fun K0 hK0 => ?_
  simp only [W, Nat.reduceSub, Nat.reduceAdd, List.replicate]
  unfold impl_isNumber at h
  refine w_seq fun K1 hK1 => ?_
  refine w_reg gC ?_
  try simp only [W, Nat.reduceAdd]
  refine seq_n hK1 ?_
  refine w_seq fun K2 hK2 => ?_
  refine w_reg gC ?_
  try simp only [W, Nat.reduceAdd]
  refine w_call h fun b3 hb3 h => ?_
  refine impl_in_w hb3 hS fun H hS => ?_
  try simp only [W]
  refine seq_n hK2 ?_
  refine w_ret ?_
  refine fin_r1 hK0 rfl ?_
  try obtain rfl := Option.some.inj h
  exact hP _ hS
theorem impl_sizeOf_w {a0 : Int} {r : (Int)} (h : impl_sizeOf a0 = some r) {F : List It} {H : Heap} (hS : Own H (F)) {P : AV → Heap → Prop} (hP : ∀ H', Own H' (F) → P (.int .i64 r) H') : ACall C 143 [.int .i64 a0] H P := by
  refine acall_of gC (res := [.tmp 2]) (n := 12) rfl rfl rfl rfl fun K0 hK0 => ?_
  simp only [W, Nat.reduceSub, Nat.reduceAdd, List.replicate]
  unfold impl_sizeOf at h
  refine w_seq fun K1 hK1 => ?_
  refine w_reg gC ?_
  try simp only [W, Nat.reduceAdd]
  refine seq_n hK1 ?_
  refine w_seq fun K2 hK2 => ?_
  refine w_blk fun K3 hK3 => ?_
  refine w_seq fun K4 hK4 => ?_
  refine w_reg gC ?_
  try simp only [W, EE, Nat.reduceAdd]
  refine seq_n hK4 ?_
  refine w_if ?_
  simp only [W]
  refine w_cnd h (fun hc h => ?_) (fun hc h => ?_)
  · refine w_seq fun K5 hK5 => ?_
    refine w_reg gC ?_
    try simp only [W, Nat.reduceAdd]
    refine seq_n hK5 ?_
    refine w_ret ?_
    refine blk_r hK3 ?_
    refine seq_r hK2 ?_
    refine fin_r1 hK0 rfl ?_
    try obtain rfl := Option.some.inj h
    exact hP _ hS
  · refine w_seq fun K6 hK6 => ?_
    refine w_reg gC ?_
    try simp only [W, EE, Nat.reduceAdd]
    refine seq_n hK6 ?_
    refine w_if ?_
    simp only [W]
    refine w_cnd h (fun hc h => ?_) (fun hc h => ?_)
    · refine w_seq fun K7 hK7 => ?_
      refine w_reg gC ?_
      try simp only [W, Nat.reduceAdd]
      refine seq_n hK7 ?_
      refine w_ret ?_
      refine blk_r hK3 ?_
      refine seq_r hK2 ?_
      refine fin_r1 hK0 rfl ?_
      try obtain rfl := Option.some.inj h
      exact hP _ hS
    · refine w_seq fun K8 hK8 => ?_
      refine w_reg gC ?_
      try simp only [W, EE, Nat.reduceAdd]
      refine seq_n hK8 ?_
      refine w_if ?_
      simp only [W]
      refine w_cnd h (fun hc h => ?_) (fun hc h => ?_)
      · refine w_seq fun K9 hK9 => ?_
        refine w_reg gC ?_
        try simp only [W, Nat.reduceAdd]
        refine seq_n hK9 ?_
        refine w_ret ?_
        refine blk_r hK3 ?_
        refine seq_r hK2 ?_
        refine fin_r1 hK0 rfl ?_
        try obtain rfl := Option.some.inj h
        exact hP _ hS
      · refine w_skip ?_
        refine blk_n0 hK3 ?_
        refine seq_n hK2 ?_
        refine w_seq fun K10 hK10 => ?_
        refine w_reg gC ?_
        try simp only [W, Nat.reduceAdd]
        refine seq_n hK10 ?_
        refine w_ret ?_
        refine fin_r1 hK0 rfl ?_
        try obtain rfl := Option.some.inj h
        exact hP _ hS
theorem impl_wide_w {a0 : Int} {a1 : Int} {r : (List UInt8)} (h : impl_wide a0 a1 = some r) {F : List It} {H : Heap} (hS : Own H (F)) {P : AV → Heap → Prop} (hP : ∀ H', Own H' (F) → P (.str r) H') : ACall C 146 [.int .i64 a0, .int .i64 a1] H P := by
  refine acall_of gC (res := [.tmp 4]) (n := 35) rfl rfl rfl rfl fun K0 hK0 => ?_
  simp only [W, Nat.reduceSub, Nat.reduceAdd, List.replicate]
  unfold impl_wide at h
  refine w_seq fun K1 hK1 => ?_
  refine w_reg gC ?_
  try simp only [W, Nat.reduceAdd]
  refine seq_n hK1 ?_
  refine w_seq fun K2 hK2 => ?_
  refine w_reg gC ?_
  try simp only [W, Nat.reduceAdd]
  refine w_make (c := (AV.int .u8)) hS rfl rfl rfl rfl rfl rfl h fun v3 H x5 qv3 hm h hS => ?_
  try simp only [W]
  refine seq_n hK2 ?_
  refine w_seq fun K6 hK6 => ?_
  refine w_seq fun K7 hK7 => ?_
  refine w_reg gC ?_
  try simp only [W, EE, Nat.reduceAdd]
  refine seq_n hK7 ?_
  obtain ⟨y12, hw13, g19⟩ := Option.bind_eq_some_iff.1 h
  refine w_join gC (fun s H => ∃ x11 : List Int, y12 = (x11) ∧ s = [u, .int .i64 a1, u, u, u, v3, u, u, u, u, u, u, u, u, u, u, u, u, u, u, u, u, u, u, u, u, u, u, u, u, u, u, u, u, u] ∧ Own H (⟨v3, 1, x11.map (AV.int .u8)⟩ :: F)) (fun K14 hK14 => ?_) (fun s H hq => ?_)
  · refine w_blk fun K15 hK15 => ?_
    refine w_loop gC hw13 (fun x s H => match x with | (x8, x9, x10) => s = [.int .i64 x8, .int .i64 a1, u, u, u, v3, .int .i64 x10, u, u, u, u, u, u, u, u, u, u, u, u, u, u, u, u, u, u, u, u, u, u, u, u, u, u, u, u] ∧ Own H (⟨v3, 1, x9.map (AV.int .u8)⟩ :: F)) ⟨rfl, hS⟩ (fun x y18 s H h hd17 hi K16 hK16 => ?_)
    obtain ⟨x8, x9, x10⟩ := x
    try dsimp only at hi
    obtain ⟨rfl, hS⟩ := hi
    simp only [impl_wide_l0] at h
    refine w_seq fun K20 hK20 => ?_
    refine w_seq fun K21 hK21 => ?_
    refine w_reg gC ?_
    try simp only [W, EE, Nat.reduceAdd]
    refine seq_n hK21 ?_
    refine w_if ?_
    simp only [W]
    refine w_cnd h (fun hc h => ?_) (fun hc h => ?_)
    · refine w_skip ?_
      refine seq_n hK20 ?_
      refine w_seq fun K22 hK22 => ?_
      refine w_blk fun K23 hK23 => ?_
      refine w_seq fun K24 hK24 => ?_
      refine w_reg gC ?_
      try simp only [W, EE, Nat.reduceAdd]
      refine w_ow 0 hS rfl rfl rfl rfl rfl h (fun b25 in26 wn26 on26 hb25 h en26 => ?_) qv3.ne
      obtain ⟨kn26, hbn26, hen26⟩ := hS.elem 0 rfl en26 hb25
      try simp only [W]
      refine w_ste (a := .int .u8 (IntKind.u8.wrap x8)) (y' := (IntKind.u8.wrap x8)) 0 hS rfl en26 hb25 rfl rfl rfl rfl rfl rfl rfl fun H hS => ?_
      try simp only [W]
      refine seq_n hK24 ?_
      refine w_reg gC ?_
      try simp only [W, EE, Nat.reduceAdd]
      rw [sr_lit _ _ _ rfl, Option.map_some, resV_s]
      try simp only [W]
      refine blk_n0 hK23 ?_
      refine seq_n hK22 ?_
      refine w_reg gC ?_
      try simp only [W, EE, Nat.reduceAdd]
      exact lp_n hK16 h ⟨rfl, hS⟩
    · refine w_exit ?_
      refine seq_x hK20 ?_
      try obtain rfl := Option.some.inj h
      obtain rfl := hd17 _ rfl
      have h : (some (x9) : Option ((List Int))) = some (x9) := rfl
      refine lp_x hK16 ?_
      refine blk_e hK15 ?_
      exact cut_n hK14 ⟨_, (Option.some.inj h).symm, rfl, hS⟩
  · obtain ⟨x11, ey, rfl, hS⟩ := hq; obtain rfl := ey.symm
    replace h := g19
    try dsimp only at h
    refine seq_n hK6 ?_
    refine w_seq fun K29 hK29 => ?_
    refine w_seq fun K30 hK30 => ?_
    refine w_reg gC ?_
    try simp only [W, Nat.reduceAdd]
    refine seq_n hK30 ?_
    obtain ⟨y34, hw35, g41⟩ := Option.bind_eq_some_iff.1 h
    refine w_join gC (fun s H => ∃ x33 : List Int, y34 = (x33) ∧ s = [u, u, u, u, u, v3, u, u, u, u, u, u, u, u, u, u, u, u, u, u, u, u, u, u, u, u, u, u, u, u, u, u, u, u, u] ∧ Own H (⟨v3, 1, x33.map (AV.int .u8)⟩ :: F)) (fun K36 hK36 => ?_) (fun s H hq => ?_)
    · refine w_blk fun K37 hK37 => ?_
      refine w_loop gC hw35 (fun x s H => match x with | (x31, x32) => s = [u, .int .i64 a1, u, u, u, v3, u, .int .i64 x32, u, u, u, u, u, u, u, u, u, u, u, u, u, u, u, u, u, u, u, u, u, u, u, u, u, u, u] ∧ Own H (⟨v3, 1, x31.map (AV.int .u8)⟩ :: F)) ⟨rfl, hS⟩ (fun x y40 s H h hd39 hi K38 hK38 => ?_)
      obtain ⟨x31, x32⟩ := x
      try dsimp only at hi
      obtain ⟨rfl, hS⟩ := hi
      simp only [impl_wide_l1] at h
      refine w_seq fun K42 hK42 => ?_
      refine w_seq fun K43 hK43 => ?_
      refine w_reg gC ?_
      try simp only [W, EE, Nat.reduceAdd]
      refine seq_n hK43 ?_
      refine w_if ?_
      simp only [W]
      refine w_cnd h (fun hc h => ?_) (fun hc h => ?_)
      · refine w_skip ?_
        refine seq_n hK42 ?_
        refine w_seq fun K44 hK44 => ?_
        refine w_blk fun K45 hK45 => ?_
        refine w_reg gC ?_
        try simp only [W, EE, Nat.reduceAdd]
        refine w_ow 0 hS rfl rfl rfl rfl rfl h (fun b46 in47 wn47 on47 hb46 h en47 => ?_) qv3.ne
        obtain ⟨kn47, hbn47, hen47⟩ := hS.elem 0 rfl en47 hb46
        try simp only [W, EE, hbn47, hen47]
        refine w_ow 0 hS rfl rfl rfl rfl rfl h (fun b48 in49 wn49 on49 hb48 h en49 => ?_) qv3.ne
        obtain ⟨kn49, hbn49, hen49⟩ := hS.elem 0 rfl en49 hb48
        try simp only [W]
        refine w_ste (a := .int .u8 (IntKind.u8.wrap (b46 + 64))) (y' := (IntKind.u8.wrap (b46 + 64))) 0 hS rfl en49 hb48 rfl rfl rfl rfl rfl rfl rfl fun H hS => ?_
        try simp only [W]
        refine blk_n0 hK45 ?_
        refine seq_n hK44 ?_
        refine w_reg gC ?_
        try simp only [W, EE, Nat.reduceAdd]
        exact lp_n hK38 h ⟨rfl, hS⟩
      · refine w_exit ?_
        refine seq_x hK42 ?_
        try obtain rfl := Option.some.inj h
        obtain rfl := hd39 _ rfl
        have h : (some (x31) : Option ((List Int))) = some (x31) := rfl
        refine lp_x hK38 ?_
        refine blk_e hK37 ?_
        exact cut_n hK36 ⟨_, (Option.some.inj h).symm, rfl, hS⟩
    · obtain ⟨x33, ey, rfl, hS⟩ := hq; obtain rfl := ey.symm
      replace h := g41
      try dsimp only at h
      refine seq_n hK29 ?_
      refine w_seq fun K52 hK52 => ?_
      refine w_reg gC ?_
      try simp only [W, EE, Nat.reduceAdd]
      refine w_b2s rfl rfl rfl rfl rfl rfl rfl (hS.elems 0 rfl qv3) (hS.notStr 0 rfl) ?_
      try simp only [W]
      refine seq_n hK52 ?_
      refine w_ret ?_
      refine fin_r1 hK0 rfl ?_
      try obtain rfl := Option.some.inj h
      exact hP _ (hS.sel 1 [] (by decide))
theorem impl_number_w {a0 : Int} {r : (List UInt8)} (h : impl_number a0 = some r) {F : List It} {H : Heap} (hS : Own H (F)) {P : AV → Heap → Prop} (hP : ∀ H', Own H' (F) → P (.str r) H') : ACall C 140 [.int .i64 a0] H P := by
  refine acall_of gC (res := [.tmp 2]) (n := 7) rfl rfl rfl rfl fun K0 hK0 => ?_
  simp only [W, Nat.reduceSub, Nat.reduceAdd, List.replicate]
  unfold impl_number at h
  refine w_seq fun K1 hK1 => ?_
  refine w_reg gC ?_
  try simp only [W, Nat.reduceAdd]
  refine seq_n hK1 ?_
  refine w_seq fun K2 hK2 => ?_
  refine w_reg gC ?_
  try simp only [W, Nat.reduceAdd]
  refine w_call h fun b3 hb3 h => ?_
  refine impl_sizeOf_w hb3 hS fun H hS => ?_
  try simp only [W]
  refine w_call h fun b4 hb4 h => ?_
  refine impl_wide_w hb4 hS fun H hS => ?_
  try simp only [W]
  refine seq_n hK2 ?_
  refine w_ret ?_
  refine fin_r1 hK0 rfl ?_
  try obtain rfl := Option.some.inj h
  exact hP _ hS
theorem impl_PutNumber_w {a0 : Int} {r : (List UInt8 × Bool)} (h : impl_PutNumber a0 = some r) {F : List It} {H : Heap} (hS : Own H (F)) {P : AV → Heap → Prop} (hP : ∀ H', Own H' (F) → P (.tup [.str r.1, .bool r.2]) H') : ACall C 64 [.int .i64 a0] H P := by
  refine acall_of gC (res := [.tmp 2, .tmp 3]) (n := 9) rfl rfl rfl rfl fun K0 hK0 => ?_
  simp only [W, Nat.reduceSub, Nat.reduceAdd, List.replicate]
  unfold impl_PutNumber at h
  refine w_seq fun K1 hK1 => ?_
  refine w_reg gC ?_
  try simp only [W, Nat.reduceAdd]
  refine seq_n hK1 ?_
  refine w_seq fun K2 hK2 => ?_
  refine w_seq fun K3 hK3 => ?_
  refine w_reg gC ?_
  try simp only [W, Nat.reduceAdd]
  refine w_call h fun b4 hb4 h => ?_
  refine impl_isNumber_w hb4 hS fun H hS => ?_
  try simp only [W]
  refine seq_n hK3 ?_
  refine w_if ?_
  simp only [W]
  refine w_cnd h (fun hc h => ?_) (fun hc h => ?_)
  · refine w_seq fun K5 hK5 => ?_
    refine w_reg gC ?_
    try simp only [W, Nat.reduceAdd]
    refine seq_n hK5 ?_
    refine w_ret ?_
    refine seq_r hK2 ?_
    refine fin_r2 hK0 rfl rfl ?_
    try obtain rfl := Option.some.inj h
    exact hP _ hS
  · refine w_skip ?_
    refine seq_n hK2 ?_
    refine w_seq fun K6 hK6 => ?_
    refine w_reg gC ?_
    try simp only [W, Nat.reduceAdd]
    refine w_call h fun b7 hb7 h => ?_
    refine impl_number_w hb7 hS fun H hS => ?_
    try simp only [W]
    refine seq_n hK6 ?_
    refine w_ret ?_
    refine fin_r2 hK0 rfl rfl ?_
    try obtain rfl := Option.some.inj h
    exact hP _ hS
theorem spec_l1In_w {a0 : Int} {a1 : Int} {a2 : Int} {r : (Bool)} (h : spec_l1In a0 a1 a2 = some r) {F : List It} {H : Heap} (hS : Own H (F)) {P : AV → Heap → Prop} (hP : ∀ H', Own H' (F) → P (.bool r) H') : ACall C 86 [.int .i64 a0, .int .i64 a1, .int .i64 a2] H P := by
  refine acall_of gC (res := [.tmp 6]) (n := 15) rfl rfl rfl rfl fun K0 hK0 => ?_
  simp only [W, Nat.reduceSub, Nat.reduceAdd, List.replicate]
  unfold spec_l1In at h
  refine w_seq fun K1 hK1 => ?_
  refine w_reg gC ?_
  try simp only [W, Nat.reduceAdd]
  refine seq_n hK1 ?_
  refine w_seq fun K2 hK2 => ?_
  refine w_reg gC ?_
  try simp only [W, EE, Nat.reduceAdd]
  refine w_grdT h (fun hc h => ?_) (fun hc h => ?_)
  · try simp only [W, EE, reduceIte, hc]
    refine seq_n hK2 ?_
    refine w_ret ?_
    refine fin_r1 hK0 rfl ?_
    try obtain rfl := Option.some.inj h
    exact hP _ hS
  · try simp only [W, hc]
    refine seq_n hK2 ?_
    refine w_ret ?_
    refine fin_r1 hK0 rfl ?_
    try obtain rfl := Option.some.inj h
    exact hP _ hS
theorem spec_l1Number_w {a0 : Int} {r : (Bool)} (h : spec_l1Number a0 = some r) {F : List It} {H : Heap} (hS : Own H (F)) {P : AV → Heap → Prop} (hP : ∀ H', Own H' (F) → P (.bool r) H') : ACall C 141 [.int .i64 a0] H P := by
  refine acall_of gC (res := [.tmp 2]) (n := 5) rfl rfl rfl rfl fun K0 hK0 => ?_
  simp only [W, Nat.reduceSub, Nat.reduceAdd, List.replicate]
  unfold spec_l1Number at h
  refine w_seq fun K1 hK1 => ?_
  refine w_reg gC ?_
  try simp only [W, Nat.reduceAdd]
  refine seq_n hK1 ?_
  refine w_seq fun K2 hK2 => ?_
  refine w_reg gC ?_
  try simp only [W, Nat.reduceAdd]
  refine w_call h fun b3 hb3 h => ?_
  refine spec_l1In_w hb3 hS fun H hS => ?_
  try simp only [W]
  refine seq_n hK2 ?_
  refine w_ret ?_
  refine fin_r1 hK0 rfl ?_
  try obtain rfl := Option.some.inj h
  exact hP _ hS
theorem spec_l1Size_w {a0 : Int} {r : (Int)} (h : spec_l1Size a0 = some r) {F : List It} {H : Heap} (hS : Own H (F)) {P : AV → Heap → Prop} (hP : ∀ H', Own H' (F) → P (.int .i64 r) H') : ACall C 144 [.int .i64 a0] H P := by
  refine acall_of gC (res := [.tmp 2]) (n := 12) rfl rfl rfl rfl fun K0 hK0 => ?_
  simp only [W, Nat.reduceSub, Nat.reduceAdd, List.replicate]
  unfold spec_l1Size at h
  refine w_seq fun K1 hK1 => ?_
  refine w_reg gC ?_
  try simp only [W, Nat.reduceAdd]
  refine seq_n hK1 ?_
  refine w_seq fun K2 hK2 => ?_
  refine w_blk fun K3 hK3 => ?_
  refine w_seq fun K4 hK4 => ?_
  refine w_reg gC ?_
  try simp only [W, EE, Nat.reduceAdd]
  refine seq_n hK4 ?_
  refine w_if ?_
  simp only [W]
  refine w_cnd h (fun hc h => ?_) (fun hc h => ?_)
  · refine w_seq fun K5 hK5 => ?_
    refine w_reg gC ?_
    try simp only [W, Nat.reduceAdd]
    refine seq_n hK5 ?_
    refine w_ret ?_
    refine blk_r hK3 ?_
    refine seq_r hK2 ?_
    refine fin_r1 hK0 rfl ?_
    try obtain rfl := Option.some.inj h
    exact hP _ hS
  · refine w_seq fun K6 hK6 => ?_
    refine w_reg gC ?_
    try simp only [W, EE, Nat.reduceAdd]
    refine seq_n hK6 ?_
    refine w_if ?_
    simp only [W]
    refine w_cnd h (fun hc h => ?_) (fun hc h => ?_)
    · refine w_seq fun K7 hK7 => ?_
      refine w_reg gC ?_
      try simp only [W, Nat.reduceAdd]
      refine seq_n hK7 ?_
      refine w_ret ?_
      refine blk_r hK3 ?_
      refine seq_r hK2 ?_
      refine fin_r1 hK0 rfl ?_
      try obtain rfl := Option.some.inj h
      exact hP _ hS
    · refine w_seq fun K8 hK8 => ?_
      refine w_reg gC ?_
      try simp only [W, EE, Nat.reduceAdd]
      refine seq_n hK8 ?_
      refine w_if ?_
      simp only [W]
      refine w_cnd h (fun hc h => ?_) (fun hc h => ?_)
      · refine w_seq fun K9 hK9 => ?_
        refine w_reg gC ?_
        try simp only [W, Nat.reduceAdd]
        refine seq_n hK9 ?_
        refine w_ret ?_
        refine blk_r hK3 ?_
        refine seq_r hK2 ?_
        refine fin_r1 hK0 rfl ?_
        try obtain rfl := Option.some.inj h
        exact hP _ hS
      · refine w_skip ?_
        refine blk_n0 hK3 ?_
        refine seq_n hK2 ?_
        refine w_seq fun K10 hK10 => ?_
        refine w_reg gC ?_
        try simp only [W, Nat.reduceAdd]
        refine seq_n hK10 ?_
        refine w_ret ?_
        refine fin_r1 hK0 rfl ?_
        try obtain rfl := Option.some.inj h
        exact hP _ hS
theorem spec_l1Mark_w {a0 : Int} {r : (Int)} (h : spec_l1Mark a0 = some r) {F : List It} {H : Heap} (hS : Own H (F)) {P : AV → Heap → Prop} (hP : ∀ H', Own H' (F) → P (.int .i64 r) H') : ACall C 182 [.int .i64 a0] H P := by
  refine acall_of gC (res := [.tmp 2]) (n := 10) rfl rfl rfl rfl fun K0 hK0 => ?_
  simp only [W, Nat.reduceSub, Nat.reduceAdd, List.replicate]
  unfold spec_l1Mark at h
  refine w_seq fun K1 hK1 => ?_
  refine w_reg gC ?_
  try simp only [W, Nat.reduceAdd]
  refine seq_n hK1 ?_
  refine w_seq fun K2 hK2 => ?_
  refine w_seq fun K3 hK3 => ?_
  refine w_reg gC ?_
  try simp only [W, Nat.reduceAdd]
  refine seq_n hK3 ?_
  refine w_blk fun K4 hK4 => ?_
  refine w_seq fun K5 hK5 => ?_
  refine w_reg gC ?_
  try simp only [W, EE, Nat.reduceAdd]
  refine seq_n hK5 ?_
  refine w_if ?_
  simp only [W]
  refine w_cnd h (fun hc h => ?_) (fun hc h => ?_)
  · refine w_seq fun K6 hK6 => ?_
    refine w_reg gC ?_
    try simp only [W, Nat.reduceAdd]
    refine seq_n hK6 ?_
    refine w_ret ?_
    refine blk_r hK4 ?_
    refine seq_r hK2 ?_
    refine fin_r1 hK0 rfl ?_
    try obtain rfl := Option.some.inj h
    exact hP _ hS
  · refine w_seq fun K7 hK7 => ?_
    refine w_reg gC ?_
    try simp only [W, EE, Nat.reduceAdd]
    refine seq_n hK7 ?_
    refine w_if ?_
    simp only [W]
    refine w_cnd h (fun hc h => ?_) (fun hc h => ?_)
    · refine w_seq fun K8 hK8 => ?_
      refine w_reg gC ?_
      try simp only [W, Nat.reduceAdd]
      refine seq_n hK8 ?_
      refine w_ret ?_
      refine blk_r hK4 ?_
      refine seq_r hK2 ?_
      refine fin_r1 hK0 rfl ?_
      try obtain rfl := Option.some.inj h
      exact hP _ hS
    · refine w_seq fun K9 hK9 => ?_
      refine w_reg gC ?_
      try simp only [W, EE, Nat.reduceAdd]
      refine seq_n hK9 ?_
      refine w_if ?_
      simp only [W]
      refine w_cnd h (fun hc h => ?_) (fun hc h => ?_)
      · refine w_seq fun K10 hK10 => ?_
        refine w_reg gC ?_
        try simp only [W, Nat.reduceAdd]
        refine seq_n hK10 ?_
        refine w_ret ?_
        refine blk_r hK4 ?_
        refine seq_r hK2 ?_
        refine fin_r1 hK0 rfl ?_
        try obtain rfl := Option.some.inj h
        exact hP _ hS
      · refine w_skip ?_
        refine blk_n0 hK4 ?_
        refine seq_n hK2 ?_
        refine w_seq fun K11 hK11 => ?_
        refine w_reg gC ?_
        try simp only [W, Nat.reduceAdd]
        refine seq_n hK11 ?_
        refine w_ret ?_
        refine fin_r1 hK0 rfl ?_
        try obtain rfl := Option.some.inj h
        exact hP _ hS
theorem spec_l1Wide_w {a0 : Int} {a1 : Int} {r : (List UInt8)} (h : spec_l1Wide a0 a1 = some r) {F : List It} {H : Heap} (hS : Own H (F)) {P : AV → Heap → Prop} (hP : ∀ H', Own H' (F) → P (.str r) H') : ACall C 147 [.int .i64 a0, .int .i64 a1] H P := by
  refine acall_of gC (res := [.tmp 4]) (n := 32) rfl rfl rfl rfl fun K0 hK0 => ?_
  simp only [W, Nat.reduceSub, Nat.reduceAdd, List.replicate]
  unfold spec_l1Wide at h
  refine w_seq fun K1 hK1 => ?_
  refine w_reg gC ?_
  try simp only [W, Nat.reduceAdd]
  refine seq_n hK1 ?_
  refine w_seq fun K2 hK2 => ?_
  refine w_reg gC ?_
  try simp only [W, Nat.reduceAdd]
  refine w_make (c := (AV.int .u8)) hS rfl rfl rfl rfl rfl rfl h fun v3 H x5 qv3 hm h hS => ?_
  try simp only [W]
  refine seq_n hK2 ?_
  refine w_seq fun K6 hK6 => ?_
  refine w_seq fun K7 hK7 => ?_
  refine w_reg gC ?_
  try simp only [W, EE, Nat.reduceAdd]
  refine seq_n hK7 ?_
  obtain ⟨y12, hw13, g19⟩ := Option.bind_eq_some_iff.1 h
  refine w_join gC (fun s H => ∃ x11 : List Int, y12 = (x11) ∧ s = [u, .int .i64 a1, u, u, u, v3, u, u, u, u, u, u, u, u, u, u, u, u, u, u, u, u, u, u, u, u, u, u, u, u, u, u] ∧ Own H (⟨v3, 1, x11.map (AV.int .u8)⟩ :: F)) (fun K14 hK14 => ?_) (fun s H hq => ?_)
  · refine w_blk fun K15 hK15 => ?_
    refine w_loop gC hw13 (fun x s H => match x with | (x8, x9, x10) => s = [.int .i64 x8, .int .i64 a1, u, u, u, v3, .int .i64 x10, u, u, u, u, u, u, u, u, u, u, u, u, u, u, u, u, u, u, u, u, u, u, u, u, u] ∧ Own H (⟨v3, 1, x9.map (AV.int .u8)⟩ :: F)) ⟨rfl, hS⟩ (fun x y18 s H h hd17 hi K16 hK16 => ?_)
    obtain ⟨x8, x9, x10⟩ := x
    try dsimp only at hi
    obtain ⟨rfl, hS⟩ := hi
    simp only [spec_l1Wide_l0] at h
    refine w_seq fun K20 hK20 => ?_
    refine w_seq fun K21 hK21 => ?_
    refine w_reg gC ?_
    try simp only [W, EE, Nat.reduceAdd]
    refine seq_n hK21 ?_
    refine w_if ?_
    simp only [W]
    refine w_cnd h (fun hc h => ?_) (fun hc h => ?_)
    · refine w_skip ?_
      refine seq_n hK20 ?_
      refine w_seq fun K22 hK22 => ?_
      refine w_blk fun K23 hK23 => ?_
      refine w_seq fun K24 hK24 => ?_
      refine w_reg gC ?_
      try simp only [W, EE, Nat.reduceAdd]
      refine w_ow 0 hS rfl rfl rfl rfl rfl h (fun b25 in26 wn26 on26 hb25 h en26 => ?_) qv3.ne
      obtain ⟨kn26, hbn26, hen26⟩ := hS.elem 0 rfl en26 hb25
      try simp only [W]
      refine w_ste (a := .int .u8 (IntKind.u8.wrap x8)) (y' := (IntKind.u8.wrap x8)) 0 hS rfl en26 hb25 rfl rfl rfl rfl rfl rfl rfl fun H hS => ?_
      try simp only [W]
      refine seq_n hK24 ?_
      refine w_reg gC ?_
      try simp only [W, EE, Nat.reduceAdd]
      rw [sr_lit _ _ _ rfl, Option.map_some, resV_s]
      try simp only [W]
      refine blk_n0 hK23 ?_
      refine seq_n hK22 ?_
      refine w_reg gC ?_
      try simp only [W, EE, Nat.reduceAdd]
      exact lp_n hK16 h ⟨rfl, hS⟩
    · refine w_exit ?_
      refine seq_x hK20 ?_
      try obtain rfl := Option.some.inj h
      obtain rfl := hd17 _ rfl
      have h : (some (x9) : Option ((List Int))) = some (x9) := rfl
      refine lp_x hK16 ?_
      refine blk_e hK15 ?_
      exact cut_n hK14 ⟨_, (Option.some.inj h).symm, rfl, hS⟩
  · obtain ⟨x11, ey, rfl, hS⟩ := hq; obtain rfl := ey.symm
    replace h := g19
    try dsimp only at h
    refine seq_n hK6 ?_
    refine w_seq fun K29 hK29 => ?_
    refine w_drawL gC [(8, [])] (by kernel_rfl) rfl (by kernel_rfl) ?_
    try simp only [W, EE, reduceIte, Nat.reduceAdd, tabAt, qAt, Nat.reduceEqDiff]
    refine w_ow 0 hS rfl rfl rfl rfl rfl h (fun b30 in31 wn31 on31 hb30 h en31 => ?_) qv3.ne
    obtain ⟨kn31, hbn31, hen31⟩ := hS.elem 0 rfl en31 hb30
    try simp only [W, EE, hbn31, hen31]
    refine w_callQ (rsh := [[.sc]]) (ys := [.int .i64 a1]) (lent := false) h rfl (by rfl) fun b32 hb32 h => ⟨_, spec_l1Mark_w hb32 (Own.nil _) fun H hS => ⟨[_], _, H, rfl, (by simp only [takeVals, takeE, takeT, plainA, if_true, List.headD_cons]; rfl), rfl⟩, .inl rfl, ?_⟩
    try simp only [W, EE, reduceIte, Bool.false_eq_true]
    refine w_ow 0 hS rfl rfl rfl rfl rfl h (fun b33 in34 wn34 on34 hb33 h en34 => ?_) qv3.ne
    obtain ⟨kn34, hbn34, hen34⟩ := hS.elem 0 rfl en34 hb33
    try simp only [W]
    refine w_ste (a := .int .u8 (IntKind.u8.wrap (b30 + (IntKind.u8.wrap b32)))) (y' := (IntKind.u8.wrap (b30 + (IntKind.u8.wrap b32)))) 0 hS rfl en34 hb33 rfl rfl rfl rfl rfl rfl rfl fun H hS => ?_
    try simp only [W]
    refine seq_n hK29 ?_
    refine w_seq fun K35 hK35 => ?_
    refine w_reg gC ?_
    try simp only [W, EE, Nat.reduceAdd]
    refine w_b2s rfl rfl rfl rfl rfl rfl rfl (hS.elems 0 rfl qv3) (hS.notStr 0 rfl) ?_
    try simp only [W]
    refine seq_n hK35 ?_
    refine w_ret ?_
    refine fin_r1 hK0 rfl ?_
    try obtain rfl := Option.some.inj h
    exact hP _ (hS.sel 1 [] (by decide))
theorem spec_l1Put_w {a0 : Int} {r : (List UInt8)} (h : spec_l1Put a0 = some r) {F : List It} {H : Heap} (hS : Own H (F)) {P : AV → Heap → Prop} (hP : ∀ H', Own H' (F) → P (.str r) H') : ACall C 142 [.int .i64 a0] H P := by
  refine acall_of gC (res := [.tmp 2]) (n := 7) rfl rfl rfl rfl fun K0 hK0 => ?_
  simp only [W, Nat.reduceSub, Nat.reduceAdd, List.replicate]
  unfold spec_l1Put at h
  refine w_seq fun K1 hK1 => ?_
  refine w_reg gC ?_
  try simp only [W, Nat.reduceAdd]
  refine seq_n hK1 ?_
  refine w_seq fun K2 hK2 => ?_
  refine w_reg gC ?_
  try simp only [W, Nat.reduceAdd]
  refine w_call h fun b3 hb3 h => ?_
  refine spec_l1Size_w hb3 hS fun H hS => ?_
  try simp only [W]
  refine w_call h fun b4 hb4 h => ?_
  refine spec_l1Wide_w hb4 hS fun H hS => ?_
  try simp only [W]
  refine seq_n hK2 ?_
  refine w_ret ?_
  refine fin_r1 hK0 rfl ?_
  try obtain rfl := Option.some.inj h
  exact hP _ hS
theorem spec_PutNumber_w {a0 : Int} {r : (List UInt8 × Bool)} (h : spec_PutNumber a0 = some r) {F : List It} {H : Heap} (hS : Own H (F)) {P : AV → Heap → Prop} (hP : ∀ H', Own H' (F) → P (.tup [.str r.1, .bool r.2]) H') : ACall C 65 [.int .i64 a0] H P := by
  refine acall_of gC (res := [.tmp 2, .tmp 3]) (n := 9) rfl rfl rfl rfl fun K0 hK0 => ?_
  simp only [W, Nat.reduceSub, Nat.reduceAdd, List.replicate]
  unfold spec_PutNumber at h
  refine w_seq fun K1 hK1 => ?_
  refine w_reg gC ?_
  try simp only [W, Nat.reduceAdd]
  refine seq_n hK1 ?_
  refine w_seq fun K2 hK2 => ?_
  refine w_seq fun K3 hK3 => ?_
  refine w_reg gC ?_
  try simp only [W, Nat.reduceAdd]
  refine w_call h fun b4 hb4 h => ?_
  refine spec_l1Number_w hb4 hS fun H hS => ?_
  try simp only [W]
  refine seq_n hK3 ?_
  refine w_if ?_
  simp only [W]
  refine w_cnd h (fun hc h => ?_) (fun hc h => ?_)
  · refine w_seq fun K5 hK5 => ?_
    refine w_reg gC ?_
    try simp only [W, Nat.reduceAdd]
    refine seq_n hK5 ?_
    refine w_ret ?_
    refine seq_r hK2 ?_
    refine fin_r2 hK0 rfl rfl ?_
    try obtain rfl := Option.some.inj h
    exact hP _ hS
  · refine w_skip ?_
    refine seq_n hK2 ?_
    refine w_seq fun K6 hK6 => ?_
    refine w_reg gC ?_
    try simp only [W, Nat.reduceAdd]
    refine w_call h fun b7 hb7 h => ?_
    refine spec_l1Put_w hb7 hS fun H hS => ?_
    try simp only [W]
    refine seq_n hK6 ?_
    refine w_ret ?_
    refine fin_r2 hK0 rfl rfl ?_
    try obtain rfl := Option.some.inj h
    exact hP _ hS
theorem impl_SizeOf_w {a0 : Int} {r : (Int × Bool)} (h : impl_SizeOf a0 = some r) {F : List It} {H : Heap} (hS : Own H (F)) {P : AV → Heap → Prop} (hP : ∀ H', Own H' (F) → P (.tup [.int .i64 r.1, .bool r.2]) H') : ACall C 66 [.int .i64 a0] H P := by
  refine acall_of gC (res := [.tmp 2, .tmp 3]) (n := 9) rfl rfl rfl rfl fun K0 hK0 => ?_
  simp only [W, Nat.reduceSub, Nat.reduceAdd, List.replicate]
  unfold impl_SizeOf at h
  refine w_seq fun K1 hK1 => ?_
  refine w_reg gC ?_
  try simp only [W, Nat.reduceAdd]
  refine seq_n hK1 ?_
  refine w_seq fun K2 hK2 => ?_
  refine w_seq fun K3 hK3 => ?_
  refine w_reg gC ?_
  try simp only [W, Nat.reduceAdd]
  refine w_call h fun b4 hb4 h => ?_
  refine impl_isNumber_w hb4 hS fun H hS => ?_
  try simp only [W]
  refine seq_n hK3 ?_
  refine w_if ?_
  simp only [W]
  refine w_cnd h (fun hc h => ?_) (fun hc h => ?_)
  · refine w_seq fun K5 hK5 => ?_
    refine w_reg gC ?_
    try simp only [W, Nat.reduceAdd]
    refine seq_n hK5 ?_
    refine w_ret ?_
    refine seq_r hK2 ?_
    refine fin_r2 hK0 rfl rfl ?_
    try obtain rfl := Option.some.inj h
    exact hP _ hS
  · refine w_skip ?_
    refine seq_n hK2 ?_
    refine w_seq fun K6 hK6 => ?_
    refine w_reg gC ?_
    try simp only [W, Nat.reduceAdd]
    refine w_call h fun b7 hb7 h => ?_
    refine impl_sizeOf_w hb7 hS fun H hS => ?_
    try simp only [W]
    refine seq_n hK6 ?_
    refine w_ret ?_
    refine fin_r2 hK0 rfl rfl ?_
    try obtain rfl := Option.some.inj h
    exact hP _ hS
theorem spec_SizeOf_w {a0 : Int} {r : (Int × Bool)} (h : spec_SizeOf a0 = some r) {F : List It} {H : Heap} (hS : Own H (F)) {P : AV → Heap → Prop} (hP : ∀ H', Own H' (F) → P (.tup [.int .i64 r.1, .bool r.2]) H') : ACall C 67 [.int .i64 a0] H P := by
  refine acall_of gC (res := [.tmp 2, .tmp 3]) (n := 9) rfl rfl rfl rfl fun K0 hK0 => ?_
  simp only [W, Nat.reduceSub, Nat.reduceAdd, List.replicate]
  unfold spec_SizeOf at h
  refine w_seq fun K1 hK1 => ?_
  refine w_reg gC ?_
  try simp only [W, Nat.reduceAdd]
  refine seq_n hK1 ?_
  refine w_seq fun K2 hK2 => ?_
  refine w_seq fun K3 hK3 => ?_
  refine w_reg gC ?_
  try simp only [W, Nat.reduceAdd]
  refine w_call h fun b4 hb4 h => ?_
  refine spec_l1Number_w hb4 hS fun H hS => ?_
  try simp only [W]
  refine seq_n hK3 ?_
  refine w_if ?_
  simp only [W]
  refine w_cnd h (fun hc h => ?_) (fun hc h => ?_)
  · refine w_seq fun K5 hK5 => ?_
    refine w_reg gC ?_
    try simp only [W, Nat.reduceAdd]
    refine seq_n hK5 ?_
    refine w_ret ?_
    refine seq_r hK2 ?_
    refine fin_r2 hK0 rfl rfl ?_
    try obtain rfl := Option.some.inj h
    exact hP _ hS
  · refine w_skip ?_
    refine seq_n hK2 ?_
    refine w_seq fun K6 hK6 => ?_
    refine w_reg gC ?_
    try simp only [W, Nat.reduceAdd]
    refine w_call h fun b7 hb7 h => ?_
    refine spec_l1Size_w hb7 hS fun H hS => ?_
    try simp only [W]
    refine seq_n hK6 ?_
    refine w_ret ?_
    refine fin_r2 hK0 rfl rfl ?_
    try obtain rfl := Option.some.inj h
    exact hP _ hS
theorem impl_GetNumber_w {a0 : List UInt8} {a1 : Int} {r : (Int × Int × Bool)} (h : impl_GetNumber a0 a1 = some r) {F : List It} {H : Heap} (hS : Own H (F)) {P : AV → Heap → Prop} (hP : ∀ H', Own H' (F) → P (.tup [.int .i64 r.1, .int .i64 r.2.1, .bool r.2.2]) H') : ACall C 68 [.str a0, .int .i64 a1] H P := by
  refine acall_of gC (res := [.tmp 4, .tmp 5, .tmp 6]) (n := 59) rfl rfl rfl rfl fun K0 hK0 => ?_
  simp only [W, Nat.reduceSub, Nat.reduceAdd, List.replicate]
  unfold impl_GetNumber at h
  refine w_seq fun K1 hK1 => ?_
  refine w_reg gC ?_
  try simp only [W, Nat.reduceAdd]
  refine seq_n hK1 ?_
  refine w_seq fun K2 hK2 => ?_
  refine w_seq fun K3 hK3 => ?_
  refine w_reg gC ?_
  try simp only [W, EE, Nat.reduceAdd]
  refine w_call h fun b4 hb4 h => ?_
  refine impl_in_w hb4 hS fun H hS => ?_
  try simp only [W]
  refine seq_n hK3 ?_
  refine w_if ?_
  simp only [W]
  refine w_cnd h (fun hc h => ?_) (fun hc h => ?_)
  · refine w_seq fun K5 hK5 => ?_
    refine w_reg gC ?_
    try simp only [W, Nat.reduceAdd]
    refine seq_n hK5 ?_
    refine w_ret ?_
    refine seq_r hK2 ?_
    refine fin_r3 hK0 rfl rfl rfl ?_
    try obtain rfl := Option.some.inj h
    exact hP _ hS
  · refine w_skip ?_
    refine seq_n hK2 ?_
    refine w_seq fun K6 hK6 => ?_
    refine w_reg gC ?_
    try simp only [W, EE, Nat.reduceAdd]
    refine w_sidx h fun b7 hb7 h => ?_
    try simp only [W, EE]
    rw [sr_lit _ _ _ rfl, Option.map_some, resV_s]
    try simp only [W, EE]
    refine w_num _ h fun x8 hx8 h => ?_
    try simp only [W]
    refine seq_n hK6 ?_
    refine w_seq fun K9 hK9 => ?_
    refine w_seq fun K10 hK10 => ?_
    refine w_reg gC ?_
    try simp only [W, EE, Nat.reduceAdd]
    refine seq_n hK10 ?_
    refine w_if ?_
    simp only [W]
    refine w_cnd h (fun hc h => ?_) (fun hc h => ?_)
    · refine w_seq fun K11 hK11 => ?_
      refine w_reg gC ?_
      try simp only [W, Nat.reduceAdd]
      refine seq_n hK11 ?_
      refine w_ret ?_
      refine seq_r hK9 ?_
      refine fin_r3 hK0 rfl rfl rfl ?_
      try obtain rfl := Option.some.inj h
      exact hP _ hS
    · refine w_skip ?_
      refine seq_n hK9 ?_
      refine w_seq fun K12 hK12 => ?_
      refine w_reg gC ?_
      try simp only [W, EE, Nat.reduceAdd]
      refine w_sidx h fun b13 hb13 h => ?_
      try simp only [W, EE]
      refine seq_n hK12 ?_
      refine w_seq fun K14 hK14 => ?_
      refine w_seq fun K15 hK15 => ?_
      refine w_reg gC ?_
      try simp only [W, Nat.reduceAdd]
      refine seq_n hK15 ?_
      obtain ⟨y19, hw20, g26⟩ := Option.bind_eq_some_iff.1 h
      refine w_join gC (fun s H => ∃ x18 : Int, y19 = (x18) ∧ s = [u, .int .i64 a1, u, u, u, u, u, .int .i64 x8, .int .i64 x18, u, u, u, u, u, u, u, u, u, u, u, u, u, u, u, u, u, u, u, u, u, u, u, u, u, u, u, u, u, u, u, u, u, u, u, u, u, u, u, u, u, u, u, u, u, u, u, u, u, u] ∧ Own H (F)) (fun K21 hK21 => ?_) (fun s H hq => ?_)
      · refine w_blk fun K22 hK22 => ?_
        refine w_loop gC hw20 (fun x s H => match x with | (x16, x17) => s = [.str a0, .int .i64 a1, u, u, u, u, u, .int .i64 x8, .int .i64 x16, .int .i64 x17, u, u, u, u, u, u, u, u, u, u, u, u, u, u, u, u, u, u, u, u, u, u, u, u, u, u, u, u, u, u, u, u, u, u, u, u, u, u, u, u, u, u, u, u, u, u, u, u, u] ∧ Own H (F)) ⟨rfl, hS⟩ (fun x y25 s H h hd24 hi K23 hK23 => ?_)
        obtain ⟨x16, x17⟩ := x
        try dsimp only at hi
        obtain ⟨rfl, hS⟩ := hi
        simp only [impl_GetNumber_l0] at h
        refine w_seq fun K27 hK27 => ?_
        refine w_seq fun K28 hK28 => ?_
        refine w_reg gC ?_
        try simp only [W, EE, Nat.reduceAdd]
        refine seq_n hK28 ?_
        refine w_if ?_
        simp only [W]
        refine w_cnd h (fun hc h => ?_) (fun hc h => ?_)
        · refine w_skip ?_
          refine seq_n hK27 ?_
          refine w_seq fun K29 hK29 => ?_
          refine w_blk fun K30 hK30 => ?_
          refine w_reg gC ?_
          try simp only [W, EE, Nat.reduceAdd]
          rw [sl_lit _ _ _ rfl, Option.map_some, resV_s]
          try simp only [W, EE]
          refine w_sidx h fun b31 hb31 h => ?_
          try simp only [W, EE]
          refine blk_n0 hK30 ?_
          refine seq_n hK29 ?_
          refine w_reg gC ?_
          try simp only [W, EE, Nat.reduceAdd]
          exact lp_n hK23 h ⟨rfl, hS⟩
        · refine w_exit ?_
          refine seq_x hK27 ?_
          try obtain rfl := Option.some.inj h
          obtain rfl := hd24 _ rfl
          have h : (some (x16) : Option (Int)) = some (x16) := rfl
          refine lp_x hK23 ?_
          refine blk_e hK22 ?_
          exact cut_n hK21 ⟨_, (Option.some.inj h).symm, rfl, hS⟩
      · obtain ⟨x18, ey, rfl, hS⟩ := hq; obtain rfl := ey.symm
        replace h := g26
        try dsimp only at h
        refine seq_n hK14 ?_
        refine w_seq fun K34 hK34 => ?_
        refine w_seq fun K35 hK35 => ?_
        obtain ⟨y37, h, g38⟩ := Option.bind_eq_some_iff.1 h
        refine w_join gC (fun s H => ∃ x36 : Bool, y37 = (x36) ∧ s = [u, .int .i64 a1, u, u, u, u, u, .int .i64 x8, .int .i64 x18, u, u, u, u, u, u, u, u, u, u, u, u, u, u, u, u, u, u, u, u, u, u, u, u, u, u, u, u, u, u, u, u, u, u, u, u, u, u, u, u, u, u, u, u, u, .bool x36, u, u, u, u] ∧ Own H (F)) (fun K39 hK39 => ?_) (fun s H hq => ?_)
        · refine w_seq fun K40 hK40 => ?_
          refine w_reg gC ?_
          try simp only [W, Nat.reduceAdd]
          refine w_call h fun b41 hb41 h => ?_
          refine impl_isNumber_w hb41 hS fun H hS => ?_
          try simp only [W]
          refine w_grdT h (fun hc h => ?_) (fun hc h => ?_)
          · try simp only [W, hc]
            refine seq_n hK40 ?_
            refine w_kill ?_
            exact cut_n hK39 ⟨_, (Option.some.inj h).symm, rfl, hS⟩
          · try simp only [W, hc]
            refine w_call h fun b42 hb42 h => ?_
            refine impl_sizeOf_w hb42 hS fun H hS => ?_
            try simp only [W, EE, reduceIte, Bool.false_eq_true]
            refine seq_n hK40 ?_
            refine w_kill ?_
            exact cut_n hK39 ⟨_, (Option.some.inj h).symm, rfl, hS⟩
        · obtain ⟨x36, ey, rfl, hS⟩ := hq; obtain rfl := ey.symm
          replace h := g38
          try dsimp only at h
          refine seq_n hK35 ?_
          refine w_if ?_
          simp only [W]
          refine w_cnd h (fun hc h => ?_) (fun hc h => ?_)
          · refine w_seq fun K43 hK43 => ?_
            refine w_reg gC ?_
            try simp only [W, Nat.reduceAdd]
            refine seq_n hK43 ?_
            refine w_ret ?_
            refine seq_r hK34 ?_
            refine fin_r3 hK0 rfl rfl rfl ?_
            try obtain rfl := Option.some.inj h
            exact hP _ hS
          · refine w_skip ?_
            refine seq_n hK34 ?_
            refine w_seq fun K44 hK44 => ?_
            refine w_reg gC ?_
            try simp only [W, EE, Nat.reduceAdd]
            refine seq_n hK44 ?_
            refine w_ret ?_
            refine fin_r3 hK0 rfl rfl rfl ?_
            try obtain rfl := Option.some.inj h
            exact hP _ hS
theorem spec_DrawPutWide_w {a0 : List Int} {r : (Int × Int)} (h : spec_DrawPutWide a0 = some r) {F : List It} {H : Heap} (hS : Own H (F)) {P : AV → Heap → Prop} (hP : ∀ H', Own H' (F) → P (.tup [.int .i64 r.1, .int .i64 r.2]) H') : ACall C 69 [.fz (a0.map (AV.int .u8))] H P := by
  refine acall_of gC (res := [.tmp 2, .tmp 3]) (n := 13) rfl rfl rfl rfl fun K0 hK0 => ?_
  simp only [W, Nat.reduceSub, Nat.reduceAdd, List.replicate]
  unfold spec_DrawPutWide at h
  refine w_seq fun K1 hK1 => ?_
  refine w_reg gC ?_
  try simp only [W, Nat.reduceAdd]
  refine seq_n hK1 ?_
  refine w_seq fun K2 hK2 => ?_
  refine w_reg gC ?_
  try simp only [W, EE, Nat.reduceAdd]
  refine w_bld rfl rfl rfl rfl rfl ?_
  try simp only [W]
  refine w_box hS rfl rfl rfl rfl fun ip3 wp3 H hS => ?_
  try simp only [W]
  refine seq_n hK2 ?_
  refine w_seq fun K5 hK5 => ?_
  refine w_regF (fz := [(4, [([11], [.sl [.sc]])])]) gC ?_
  try simp only [W, Nat.reduceAdd, Nat.reduceBEq]
  refine w_call h fun b6 hb6 h => ?_
  obtain ⟨b7, b8⟩ := b6
  try dsimp only at h
  refine spec_l1Cur_number_w hb6 hS fun H hS => ?_
  try simp only [W, Nat.reduceAdd, Nat.reduceBEq]
  refine w_lit (el := ([0, 1, 2, 3, 4, 8, 16] : List Int).map (AV.int .i64)) hS rfl rfl rfl rfl rfl rfl rfl fun v9 H qv9 hS => ?_
  try simp only [W, Nat.reduceAdd]
  refine FZ_own 0 hS rfl qv9 rfl (fun _ _ => by simp [takeE, takeT, plainA]) (fun _ => rfl) fun H hsame hS => ?_
  try simp only [W]
  refine w_call h fun b11 hb11 h => ?_
  obtain ⟨b12, b13⟩ := b11
  try dsimp only at h
  refine spec_l1Cur_among_w hb11 hS fun H hS => ?_
  try simp only [W, Nat.reduceAdd, Nat.reduceBEq]
  refine seq_n hK5 ?_
  refine w_ret ?_
  refine fin_r2 hK0 rfl rfl ?_
  try obtain rfl := Option.some.inj h
  exact hP _ (hS.sel 1 [] (by decide))
theorem impl_PutWide_w {a0 : Int} {a1 : Int} {r : (List UInt8 × Bool)} (h : impl_PutWide a0 a1 = some r) {F : List It} {H : Heap} (hS : Own H (F)) {P : AV → Heap → Prop} (hP : ∀ H', Own H' (F) → P (.tup [.str r.1, .bool r.2]) H') : ACall C 70 [.int .i64 a0, .int .i64 a1] H P := by
  refine acall_of gC (res := [.tmp 4, .tmp 5]) (n := 34) rfl rfl rfl rfl fun K0 hK0 => ?_
  simp only [W, Nat.reduceSub, Nat.reduceAdd, List.replicate]
  unfold impl_PutWide at h
  refine w_seq fun K1 hK1 => ?_
  refine w_reg gC ?_
  try simp only [W, Nat.reduceAdd]
  refine seq_n hK1 ?_
  refine w_seq fun K2 hK2 => ?_
  refine w_seq fun K3 hK3 => ?_
  obtain ⟨y5, h, g6⟩ := Option.bind_eq_some_iff.1 h
  refine w_join gC (fun s H => ∃ x4 : Bool, y5 = (x4) ∧ s = [.int .i64 a0, .int .i64 a1, u, u, u, u, u, u, u, u, u, u, u, u, u, u, u, u, u, u, u, u, u, u, u, u, u, u, u, u, .bool x4, u, u, u] ∧ Own H (F)) (fun K7 hK7 => ?_) (fun s H hq => ?_)
  · refine w_seq fun K8 hK8 => ?_
    refine w_reg gC ?_
    try simp only [W, Nat.reduceAdd]
    refine w_call h fun b9 hb9 h => ?_
    refine impl_isNumber_w hb9 hS fun H hS => ?_
    try simp only [W]
    refine w_grdT h (fun hc h => ?_) (fun hc h => ?_)
    · try simp only [W, hc]
      refine seq_n hK8 ?_
      refine w_kill ?_
      exact cut_n hK7 ⟨_, (Option.some.inj h).symm, rfl, hS⟩
    · try simp only [W, EE, hc]
      refine w_grdT h (fun hc h => ?_) (fun hc h => ?_)
      · try simp only [W, EE, reduceIte, hc]
        refine w_grdT h (fun hc h => ?_) (fun hc h => ?_)
        · try simp only [W, EE, reduceIte, hc]
          refine w_grdT h (fun hc h => ?_) (fun hc h => ?_)
          · try simp only [W, EE, reduceIte, Bool.false_eq_true, hc]
            refine w_grdT h (fun hc h => ?_) (fun hc h => ?_)
            · try simp only [W, hc]
              refine seq_n hK8 ?_
              refine w_kill ?_
              exact cut_n hK7 ⟨_, (Option.some.inj h).symm, rfl, hS⟩
            · try simp only [W, hc]
              refine w_call h fun b10 hb10 h => ?_
              refine impl_sizeOf_w hb10 hS fun H hS => ?_
              try simp only [W, EE, reduceIte, Bool.false_eq_true]
              refine seq_n hK8 ?_
              refine w_kill ?_
              exact cut_n hK7 ⟨_, (Option.some.inj h).symm, rfl, hS⟩
          · try simp only [W, reduceIte, Bool.false_eq_true, hc]
            refine w_call h fun b11 hb11 h => ?_
            refine impl_sizeOf_w hb11 hS fun H hS => ?_
            try simp only [W, EE, reduceIte, Bool.false_eq_true]
            refine seq_n hK8 ?_
            refine w_kill ?_
            exact cut_n hK7 ⟨_, (Option.some.inj h).symm, rfl, hS⟩
        · try simp only [W, reduceIte, Bool.false_eq_true, hc]
          refine w_call h fun b12 hb12 h => ?_
          refine impl_sizeOf_w hb12 hS fun H hS => ?_
          try simp only [W, EE, reduceIte, Bool.false_eq_true]
          refine seq_n hK8 ?_
          refine w_kill ?_
          exact cut_n hK7 ⟨_, (Option.some.inj h).symm, rfl, hS⟩
      · try simp only [W, reduceIte, Bool.false_eq_true, hc]
        refine w_call h fun b13 hb13 h => ?_
        refine impl_sizeOf_w hb13 hS fun H hS => ?_
        try simp only [W, EE, reduceIte, Bool.false_eq_true]
        refine seq_n hK8 ?_
        refine w_kill ?_
        exact cut_n hK7 ⟨_, (Option.some.inj h).symm, rfl, hS⟩
  · obtain ⟨x4, ey, rfl, hS⟩ := hq; obtain rfl := ey.symm
    replace h := g6
    try dsimp only at h
    refine seq_n hK3 ?_
    refine w_if ?_
    simp only [W]
    refine w_cnd h (fun hc h => ?_) (fun hc h => ?_)
    · refine w_seq fun K14 hK14 => ?_
      refine w_reg gC ?_
      try simp only [W, Nat.reduceAdd]
      refine seq_n hK14 ?_
      refine w_ret ?_
      refine seq_r hK2 ?_
      refine fin_r2 hK0 rfl rfl ?_
      try obtain rfl := Option.some.inj h
      exact hP _ hS
    · refine w_skip ?_
      refine seq_n hK2 ?_
      refine w_seq fun K15 hK15 => ?_
      refine w_reg gC ?_
      try simp only [W, Nat.reduceAdd]
      refine w_call h fun b16 hb16 h => ?_
      refine impl_wide_w hb16 hS fun H hS => ?_
      try simp only [W]
      refine seq_n hK15 ?_
      refine w_ret ?_
      refine fin_r2 hK0 rfl rfl ?_
      try obtain rfl := Option.some.inj h
      exact hP _ hS
theorem spec_PutWide_w {a0 : Int} {a1 : Int} {r : (List UInt8 × Bool)} (h : spec_PutWide a0 a1 = some r) {F : List It} {H : Heap} (hS : Own H (F)) {P : AV → Heap → Prop} (hP : ∀ H', Own H' (F) → P (.tup [.str r.1, .bool r.2]) H') : ACall C 71 [.int .i64 a0, .int .i64 a1] H P := by
  refine acall_of gC (res := [.tmp 4, .tmp 5]) (n := 34) rfl rfl rfl rfl fun K0 hK0 => ?_
  simp only [W, Nat.reduceSub, Nat.reduceAdd, List.replicate]
  unfold spec_PutWide at h
  refine w_seq fun K1 hK1 => ?_
  refine w_reg gC ?_
  try simp only [W, Nat.reduceAdd]
  refine seq_n hK1 ?_
  refine w_seq fun K2 hK2 => ?_
  refine w_seq fun K3 hK3 => ?_
  obtain ⟨y5, h, g6⟩ := Option.bind_eq_some_iff.1 h
  refine w_join gC (fun s H => ∃ x4 : Bool, y5 = (x4) ∧ s = [.int .i64 a0, .int .i64 a1, u, u, u, u, u, u, u, u, u, u, u, u, u, u, u, u, u, u, u, u, u, u, u, u, u, u, u, u, .bool x4, u, u, u] ∧ Own H (F)) (fun K7 hK7 => ?_) (fun s H hq => ?_)
  · refine w_seq fun K8 hK8 => ?_
    refine w_reg gC ?_
    try simp only [W, Nat.reduceAdd]
    refine w_call h fun b9 hb9 h => ?_
    refine spec_l1Number_w hb9 hS fun H hS => ?_
    try simp only [W]
    refine w_grdT h (fun hc h => ?_) (fun hc h => ?_)
    · try simp only [W, hc]
      refine seq_n hK8 ?_
      refine w_kill ?_
      exact cut_n hK7 ⟨_, (Option.some.inj h).symm, rfl, hS⟩
    · try simp only [W, EE, hc]
      refine w_grdT h (fun hc h => ?_) (fun hc h => ?_)
      · try simp only [W, EE, reduceIte, hc]
        refine w_grdT h (fun hc h => ?_) (fun hc h => ?_)
        · try simp only [W, EE, reduceIte, hc]
          refine w_grdT h (fun hc h => ?_) (fun hc h => ?_)
          · try simp only [W, EE, reduceIte, Bool.false_eq_true, hc]
            refine w_grdT h (fun hc h => ?_) (fun hc h => ?_)
            · try simp only [W, hc]
              refine seq_n hK8 ?_
              refine w_kill ?_
              exact cut_n hK7 ⟨_, (Option.some.inj h).symm, rfl, hS⟩
            · try simp only [W, hc]
              refine w_call h fun b10 hb10 h => ?_
              refine spec_l1Size_w hb10 hS fun H hS => ?_
              try simp only [W, EE, reduceIte, Bool.false_eq_true]
              refine seq_n hK8 ?_
              refine w_kill ?_
              exact cut_n hK7 ⟨_, (Option.some.inj h).symm, rfl, hS⟩
          · try simp only [W, reduceIte, Bool.false_eq_true, hc]
            refine w_call h fun b11 hb11 h => ?_
            refine spec_l1Size_w hb11 hS fun H hS => ?_
            try simp only [W, EE, reduceIte, Bool.false_eq_true]
            refine seq_n hK8 ?_
            refine w_kill ?_
            exact cut_n hK7 ⟨_, (Option.some.inj h).symm, rfl, hS⟩
        · try simp only [W, reduceIte, Bool.false_eq_true, hc]
          refine w_call h fun b12 hb12 h => ?_
          refine spec_l1Size_w hb12 hS fun H hS => ?_
          try simp only [W, EE, reduceIte, Bool.false_eq_true]
          refine seq_n hK8 ?_
          refine w_kill ?_
          exact cut_n hK7 ⟨_, (Option.some.inj h).symm, rfl, hS⟩
      · try simp only [W, reduceIte, Bool.false_eq_true, hc]
        refine w_call h fun b13 hb13 h => ?_
        refine spec_l1Size_w hb13 hS fun H hS => ?_
        try simp only [W, EE, reduceIte, Bool.false_eq_true]
        refine seq_n hK8 ?_
        refine w_kill ?_
        exact cut_n hK7 ⟨_, (Option.some.inj h).symm, rfl, hS⟩
  · obtain ⟨x4, ey, rfl, hS⟩ := hq; obtain rfl := ey.symm
    replace h := g6
    try dsimp only at h
    refine seq_n hK3 ?_
    refine w_if ?_
    simp only [W]
    refine w_cnd h (fun hc h => ?_) (fun hc h => ?_)
    · refine w_seq fun K14 hK14 => ?_
      refine w_reg gC ?_
      try simp only [W, Nat.reduceAdd]
      refine seq_n hK14 ?_
      refine w_ret ?_
      refine seq_r hK2 ?_
      refine fin_r2 hK0 rfl rfl ?_
      try obtain rfl := Option.some.inj h
      exact hP _ hS
    · refine w_skip ?_
      refine seq_n hK2 ?_
      refine w_seq fun K15 hK15 => ?_
      refine w_reg gC ?_
      try simp only [W, Nat.reduceAdd]
      refine w_call h fun b16 hb16 h => ?_
      refine spec_l1Wide_w hb16 hS fun H hS => ?_
      try simp only [W]
      refine seq_n hK15 ?_
      refine w_ret ?_
      refine fin_r2 hK0 rfl rfl ?_
      try obtain rfl := Option.some.inj h
      exact hP _ hS
theorem spec_l1Cur_numbers_w {a0 : L1Cur} {i0 : Nat} {w0 : Nat} {r : (List Int × L1Cur)} (h : spec_l1Cur_numbers a0 = some r) {F : List It} {H : Heap} (hS : Own H (⟨.ptr i0 w0 0 0, 3, [.agg [.fz (a0.Code.map (AV.int .u8)), .int .i64 a0.At, .int .u64 a0.Seed]]⟩ :: F)) {P : AV → Heap → Prop} (hP : ∀ v64 : AV, isSl v64 → ∀ H', Own H' (⟨v64, 1, r.1.map (AV.int .i64)⟩ :: ⟨.ptr i0 w0 0 0, 3, [.agg [.fz (r.2.Code.map (AV.int .u8)), .int .i64 r.2.At, .int .u64 r.2.Seed]]⟩ :: F) → P (v64) H') : ACall C 183 [.ptr i0 w0 0 0] H P := by
  refine acall_of gC (res := [.tmp 2]) (n := 23) rfl rfl rfl rfl fun K0 hK0 => ?_
  simp only [W, Nat.reduceSub, Nat.reduceAdd, List.replicate]
  unfold spec_l1Cur_numbers at h
  refine w_seq fun K1 hK1 => ?_
  refine w_reg gC ?_
  try simp only [W, Nat.reduceAdd]
  refine seq_n hK1 ?_
  refine w_seq fun K2 hK2 => ?_
  refine w_reg gC ?_
  try simp only [W, Nat.reduceAdd]
  refine seq_n hK2 ?_
  refine w_seq fun K3 hK3 => ?_
  refine w_seq fun K4 hK4 => ?_
  refine w_reg gC ?_
  try simp only [W, Nat.reduceAdd]
  refine w_call h fun b5 hb5 h => ?_
  obtain ⟨b6, b7⟩ := b5
  try dsimp only at h
  refine spec_l1Cur_pick_w hb5 hS fun H hS => ?_
  try simp only [W]
  refine seq_n hK4 ?_
  obtain ⟨y20, hw21, g27⟩ := Option.bind_eq_some_iff.1 h
  refine w_join gC (fun s H => ∃ x15 : List Int, ∃ x17 : List Int, ∃ x18 : Int, ∃ x19 : Int, y20 = (x15, x17, x18, x19) ∧ ∃ v16 : AV, isSl v16 ∧ s = [.ptr i0 w0 0 0, u, u, v16, u, u, u, u, u, u, u, u, u, u, u, u, u, u, u, u, u, u, u] ∧ Own H (⟨v16, 1, x15.map (AV.int .i64)⟩ :: ⟨.ptr i0 w0 0 0, 3, [.agg [.fz (x17.map (AV.int .u8)), .int .i64 x18, .int .u64 x19]]⟩ :: F)) (fun K22 hK22 => ?_) (fun s H hq => ?_)
  · refine w_blk fun K23 hK23 => ?_
    refine w_loop gC hw21 (fun x s H => match x with | (x8, x11, x12, x13, x14) => ∃ v9 : AV, isSl v9 ∧ s = [.ptr i0 w0 0 0, u, u, v9, .int .i64 x11, u, u, u, u, u, u, u, u, u, u, u, u, u, u, u, u, u, u] ∧ Own H (⟨v9, 1, x8.map (AV.int .i64)⟩ :: ⟨.ptr i0 w0 0 0, 3, [.agg [.fz (x12.map (AV.int .u8)), .int .i64 x13, .int .u64 x14]]⟩ :: F)) ⟨_, isSl_nil, rfl, (hS.nil_ 1)⟩ (fun x y26 s H h hd25 hi K24 hK24 => ?_)
    obtain ⟨x8, x11, x12, x13, x14⟩ := x
    try dsimp only at hi
    obtain ⟨v9, qv9, rfl, hS⟩ := hi
    simp only [spec_l1Cur_numbers_l0] at h
    refine w_seq fun K28 hK28 => ?_
    refine w_seq fun K29 hK29 => ?_
    refine w_reg gC ?_
    try simp only [W, EE, Nat.reduceAdd]
    refine seq_n hK29 ?_
    refine w_if ?_
    simp only [W]
    refine w_cnd h (fun hc h => ?_) (fun hc h => ?_)
    · refine w_skip ?_
      refine seq_n hK28 ?_
      refine w_seq fun K30 hK30 => ?_
      refine w_blk fun K31 hK31 => ?_
      refine w_reg gC ?_
      try simp only [W, Nat.reduceAdd]
      refine w_call h fun b32 hb32 h => ?_
      obtain ⟨b33, b34⟩ := b32
      try dsimp only at h
      refine spec_l1Cur_number_w hb32 (hS.sel 2 [1, 0] (by decide)) fun H hS => ?_
      try simp only [W]
      refine w_lit (el := ([b33] : List Int).map (AV.int .i64)) hS rfl rfl rfl rfl rfl rfl rfl fun v35 H qv35 hS => ?_
      try simp only [W, EE]
      refine w_appV (l := x8) (c := (AV.int .i64)) 2 hS rfl qv9 rfl rfl rfl (hS.elems 0 rfl qv35) (fun _ => rfl) rfl h fun v38 H x37 qv38 hm h hS => ?_
      try simp only [W]
      refine blk_n0 hK31 ?_
      refine seq_n hK30 ?_
      refine w_reg gC ?_
      try simp only [W, EE, Nat.reduceAdd]
      exact lp_n hK24 h ⟨_, qv38, rfl, (hS.sel 3 [2, 1] (by decide))⟩
    · refine w_exit ?_
      refine seq_x hK28 ?_
      try obtain rfl := Option.some.inj h
      obtain rfl := hd25 _ rfl
      have h : (some (x8, x12, x13, x14) : Option ((List Int) × (List Int) × Int × Int)) = some (x8, x12, x13, x14) := rfl
      refine lp_x hK24 ?_
      refine blk_e hK23 ?_
      exact cut_n hK22 ⟨_, _, _, _, (Option.some.inj h).symm, _, qv9, rfl, hS⟩
  · obtain ⟨x15, x17, x18, x19, rfl, v16, qv16, rfl, hS⟩ := hq
    replace h := g27
    try dsimp only at h
    refine seq_n hK3 ?_
    refine w_seq fun K42 hK42 => ?_
    refine w_seq fun K43 hK43 => ?_
    refine w_reg gC ?_
    try simp only [W, Nat.reduceAdd]
    refine w_call h fun b44 hb44 h => ?_
    obtain ⟨b45, b46⟩ := b44
    try dsimp only at h
    refine spec_l1Cur_one_w hb44 (hS.sel 2 [1, 0] (by decide)) fun H hS => ?_
    try simp only [W]
    refine seq_n hK43 ?_
    obtain ⟨y53, h, g54⟩ := Option.bind_eq_some_iff.1 h
    refine w_join gC (fun s H => ∃ x47 : List Int, ∃ x50 : List Int, ∃ x51 : Int, ∃ x52 : Int, y53 = (x47, x50, x51, x52) ∧ ∃ v48 : AV, isSl v48 ∧ s = [u, u, u, v48, u, u, u, u, u, u, u, u, u, u, u, u, u, u, u, u, u, u, u] ∧ Own H (⟨v48, 1, x47.map (AV.int .i64)⟩ :: ⟨.ptr i0 w0 0 0, 3, [.agg [.fz (x50.map (AV.int .u8)), .int .i64 x51, .int .u64 x52]]⟩ :: F)) (fun K55 hK55 => ?_) (fun s H hq => ?_)
    · refine w_seq fun K56 hK56 => ?_
      refine w_if ?_
      simp only [W]
      refine w_cnd h (fun hc h => ?_) (fun hc h => ?_)
      · refine w_reg gC ?_
        try simp only [W, Nat.reduceAdd]
        refine w_call h fun b57 hb57 h => ?_
        obtain ⟨b58, b59⟩ := b57
        try dsimp only at h
        refine spec_l1Cur_pick_w hb57 hS fun H hS => ?_
        try simp only [W, EE]
        refine w_make (c := (AV.int .i64)) hS rfl rfl rfl rfl rfl rfl h fun v60 H x62 qv60 hm h hS => ?_
        try simp only [W]
        refine seq_n hK56 ?_
        refine w_kill ?_
        exact cut_n hK55 ⟨_, _, _, _, (Option.some.inj h).symm, _, qv60, rfl, (hS.sel 3 [0, 1] (by decide))⟩
      · refine w_skip ?_
        refine seq_n hK56 ?_
        refine w_kill ?_
        exact cut_n hK55 ⟨_, _, _, _, (Option.some.inj h).symm, _, qv16, rfl, (hS.sel 2 [1, 0] (by decide))⟩
    · obtain ⟨x47, x50, x51, x52, rfl, v48, qv48, rfl, hS⟩ := hq
      replace h := g54
      try dsimp only at h
      refine seq_n hK42 ?_
      refine w_seq fun K63 hK63 => ?_
      refine w_reg gC ?_
      try simp only [W, Nat.reduceAdd]
      refine seq_n hK63 ?_
      refine w_ret ?_
      refine fin_r1 hK0 rfl ?_
      try obtain rfl := Option.some.inj h
      exact hP _ qv48 _ hS
theorem spec_l1Cur_spoilt_w {a0 : L1Cur} {a1 : List UInt8} {a2 : List UInt8} {i0 : Nat} {w0 : Nat} {r : (List UInt8 × L1Cur)} (h : spec_l1Cur_spoilt a0 a1 a2 = some r) {F : List It} {H : Heap} (hS : Own H (⟨.ptr i0 w0 0 0, 3, [.agg [.fz (a0.Code.map (AV.int .u8)), .int .i64 a0.At, .int .u64 a0.Seed]]⟩ :: F)) {P : AV → Heap → Prop} (hP : ∀ H', Own H' (⟨.ptr i0 w0 0 0, 3, [.agg [.fz (r.2.Code.map (AV.int .u8)), .int .i64 r.2.At, .int .u64 r.2.Seed]]⟩ :: F) → P (.str r.1) H') : ACall C 184 [.ptr i0 w0 0 0, .str a1, .str a2] H P := by
  refine acall_of gC (res := [.tmp 6]) (n := 67) rfl rfl rfl rfl fun K0 hK0 => ?_
  simp only [W, Nat.reduceSub, Nat.reduceAdd, List.replicate]
  unfold spec_l1Cur_spoilt at h
  refine w_seq fun K1 hK1 => ?_
  refine w_reg gC ?_
  try simp only [W, Nat.reduceAdd]
  refine seq_n hK1 ?_
  refine w_seq fun K2 hK2 => ?_
  refine w_seq fun K3 hK3 => ?_
  refine w_reg gC ?_
  try simp only [W, Nat.reduceAdd]
  refine w_call h fun b4 hb4 h => ?_
  obtain ⟨b5, b6⟩ := b4
  try dsimp only at h
  refine spec_l1Cur_pick_w hb4 hS fun H hS => ?_
  try simp only [W]
  refine seq_n hK3 ?_
  obtain ⟨y16, hw17, g23⟩ := Option.bind_eq_some_iff.1 h
  refine w_join gC (fun s H => ∃ x12 : List UInt8, ∃ x13 : List Int, ∃ x14 : Int, ∃ x15 : Int, y16 = (x12, x13, x14, x15) ∧ s = [u, .str x12, u, u, u, u, u, u, u, u, u, u, u, u, u, u, u, u, u, u, u, u, u, u, u, u, u, u, u, u, u, u, u, u, u, u, u, u, u, u, u, u, u, u, u, u, u, u, u, u, u, u, u, u, u, u, u, u, u, u, u, u, u, u, u, u, u] ∧ Own H (⟨.ptr i0 w0 0 0, 3, [.agg [.fz (x13.map (AV.int .u8)), .int .i64 x14, .int .u64 x15]]⟩ :: F)) (fun K18 hK18 => ?_) (fun s H hq => ?_)
  · refine w_blk fun K19 hK19 => ?_
    refine w_loop gC hw17 (fun x s H => match x with | (x7, x8, x9, x10, x11) => s = [.ptr i0 w0 0 0, .str x7, .str a2, u, u, u, u, .int .i64 x8, u, u, u, u, u, u, u, u, u, u, u, u, u, u, u, u, u, u, u, u, u, u, u, u, u, u, u, u, u, u, u, u, u, u, u, u, u, u, u, u, u, u, u, u, u, u, u, u, u, u, u, u, u, u, u, u, u, u, u] ∧ Own H (⟨.ptr i0 w0 0 0, 3, [.agg [.fz (x9.map (AV.int .u8)), .int .i64 x10, .int .u64 x11]]⟩ :: F)) ⟨rfl, hS⟩ (fun x y22 s H h hd21 hi K20 hK20 => ?_)
    obtain ⟨x7, x8, x9, x10, x11⟩ := x
    try dsimp only at hi
    obtain ⟨rfl, hS⟩ := hi
    simp only [spec_l1Cur_spoilt_l0] at h
    refine w_seq fun K24 hK24 => ?_
    refine w_seq fun K25 hK25 => ?_
    obtain ⟨y27, h, g28⟩ := Option.bind_eq_some_iff.1 h
    refine w_join gC (fun s H => ∃ x26 : Bool, y27 = (x26) ∧ s = [.ptr i0 w0 0 0, .str x7, .str a2, u, u, u, u, .int .i64 x8, u, u, u, u, u, u, u, u, u, u, .bool x26, u, u, u, u, u, u, u, u, u, u, u, u, u, u, u, u, u, u, u, u, u, u, u, u, u, u, u, u, u, u, u, u, u, u, u, u, u, u, u, u, u, u, u, u, u, u, u, u] ∧ Own H (⟨.ptr i0 w0 0 0, 3, [.agg [.fz (x9.map (AV.int .u8)), .int .i64 x10, .int .u64 x11]]⟩ :: F)) (fun K29 hK29 => ?_) (fun s H hq => ?_)
    · refine w_seq fun K30 hK30 => ?_
      refine w_reg gC ?_
      try simp only [W, EE, Nat.reduceAdd]
      refine w_grdT h (fun hc h => ?_) (fun hc h => ?_)
      · try simp only [W, EE, reduceIte, hc]
        refine seq_n hK30 ?_
        refine w_kill ?_
        exact cut_n hK29 ⟨_, (Option.some.inj h).symm, rfl, hS⟩
      · try simp only [W, hc]
        refine seq_n hK30 ?_
        refine w_kill ?_
        exact cut_n hK29 ⟨_, (Option.some.inj h).symm, rfl, hS⟩
    · obtain ⟨x26, ey, rfl, hS⟩ := hq; obtain rfl := ey.symm
      replace h := g28
      try dsimp only at h
      refine seq_n hK25 ?_
      refine w_if ?_
      simp only [W]
      refine w_cnd h (fun hc h => ?_) (fun hc h => ?_)
      · refine w_skip ?_
        refine seq_n hK24 ?_
        refine w_seq fun K31 hK31 => ?_
        obtain ⟨y37, h, g38⟩ := Option.bind_eq_some_iff.1 h
        refine w_join gC (fun s H => ∃ x33 : List UInt8, ∃ x34 : List Int, ∃ x35 : Int, ∃ x36 : Int, y37 = (x33, x34, x35, x36) ∧ s = [.ptr i0 w0 0 0, .str x33, .str a2, u, u, u, u, .int .i64 x8, u, u, u, u, u, u, u, u, u, u, u, u, u, u, u, u, u, u, u, u, u, u, u, u, u, u, u, u, u, u, u, u, u, u, u, u, u, u, u, u, u, u, u, u, u, u, u, u, u, u, u, u, u, u, u, u, u, u, u] ∧ Own H (⟨.ptr i0 w0 0 0, 3, [.agg [.fz (x34.map (AV.int .u8)), .int .i64 x35, .int .u64 x36]]⟩ :: F)) (fun K39 hK39 => ?_) (fun s H hq => ?_)
        · refine w_blk fun K32 hK32 => ?_
          refine w_seq fun K40 hK40 => ?_
          refine w_reg gC ?_
          try simp only [W, EE, Nat.reduceAdd]
          refine w_call h fun b41 hb41 h => ?_
          obtain ⟨b42, b43⟩ := b41
          try dsimp only at h
          refine spec_l1Cur_pick_w hb41 hS fun H hS => ?_
          try simp only [W]
          refine seq_n hK40 ?_
          refine w_seq fun K44 hK44 => ?_
          refine w_reg gC ?_
          try simp only [W, EE, Nat.reduceAdd]
          refine w_call h fun b45 hb45 h => ?_
          obtain ⟨b46, b47⟩ := b45
          try dsimp only at h
          refine spec_l1Cur_pick_w hb45 hS fun H hS => ?_
          try simp only [W, EE]
          refine w_sidx h fun b48 hb48 h => ?_
          try simp only [W]
          refine w_lit (el := ([(b48.toNat : Int)] : List Int).map (AV.int .u8)) hS rfl rfl rfl rfl rfl rfl rfl fun v49 H qv49 hS => ?_
          try simp only [W, EE]
          refine w_b2s rfl rfl rfl rfl rfl rfl rfl (hS.elems 0 rfl qv49) (hS.notStr 0 rfl) ?_
          try simp only [W]
          refine seq_n hK44 ?_
          refine w_seq fun K51 hK51 => ?_
          refine w_reg gC ?_
          try simp only [W, Nat.reduceAdd]
          refine w_call h fun b52 hb52 h => ?_
          obtain ⟨b53, b54⟩ := b52
          try dsimp only at h
          refine spec_l1Cur_pick_w hb52 (hS.sel 2 [1, 0] (by decide)) fun H hS => ?_
          try simp only [W]
          refine seq_n hK51 ?_
          obtain ⟨y57, h, g58⟩ := Option.bind_eq_some_iff.1 h
          refine w_join gC (fun s H => ∃ x56 : List UInt8, y57 = (x56) ∧ s = [.ptr i0 w0 0 0, .str x56, .str a2, u, u, u, u, .int .i64 x8, u, u, u, u, u, u, u, u, u, u, u, u, u, u, u, u, u, u, u, u, u, u, u, u, u, u, u, u, u, u, u, u, u, u, u, u, u, u, u, u, u, u, u, u, u, u, u, u, u, u, u, u, u, u, u, u, u, u, u] ∧ Own H (⟨.ptr i0 w0 0 0, 3, [.agg [.fz (b54.Code.map (AV.int .u8)), .int .i64 b54.At, .int .u64 b54.Seed]]⟩ :: F)) (fun K59 hK59 => ?_) (fun s H hq => ?_)
          · refine w_blk fun K55 hK55 => ?_
            refine w_seq fun K60 hK60 => ?_
            refine w_reg gC ?_
            try simp only [W, EE, Nat.reduceAdd]
            refine seq_n hK60 ?_
            obtain ⟨y62, h, g63⟩ := Option.bind_eq_some_iff.1 h
            refine w_join gC (fun s H => ∃ x61 : List UInt8, y62 = (x61) ∧ s = [.ptr i0 w0 0 0, .str x61, .str a2, u, u, u, u, .int .i64 x8, u, u, u, u, u, u, u, u, u, u, u, u, u, u, u, u, u, u, u, u, u, u, u, u, u, u, u, u, u, u, u, u, u, u, u, u, u, u, u, u, u, u, u, u, u, u, u, u, u, u, u, u, u, u, u, u, u, u, u] ∧ Own H (⟨.ptr i0 w0 0 0, 3, [.agg [.fz (b54.Code.map (AV.int .u8)), .int .i64 b54.At, .int .u64 b54.Seed]]⟩ :: F)) (fun K64 hK64 => ?_) (fun s H hq => ?_)
            · refine w_seq fun K65 hK65 => ?_
              refine w_if ?_
              simp only [W]
              refine w_cnd h (fun hc h => ?_) (fun hc h => ?_)
              · refine w_draw0 gC (by kernel_rfl) ?_
                try simp only [W, EE, Nat.reduceAdd]
                refine w_slS rfl rfl h fun x66 hx66 h => ?_
                try simp only [W, EE]
                refine w_cat h fun x67 hx67 h => ?_
                try simp only [W, EE]
                refine w_slS rfl rfl h fun x68 hx68 h => ?_
                try simp only [W, EE]
                refine w_cat h fun x69 hx69 h => ?_
                try simp only [W]
                refine seq_n hK65 ?_
                refine w_kill ?_
                exact cut_n hK64 ⟨_, (Option.some.inj h).symm, rfl, (hS.sel 2 [0] (by decide))⟩
              · refine w_seq fun K70 hK70 => ?_
                refine w_reg gC ?_
                try simp only [W, EE, Nat.reduceAdd]
                refine seq_n hK70 ?_
                obtain ⟨y72, h, g73⟩ := Option.bind_eq_some_iff.1 h
                refine w_join gC (fun s H => ∃ x71 : List UInt8, y72 = (x71) ∧ s = [.ptr i0 w0 0 0, .str x71, .str a2, u, u, u, u, .int .i64 x8, u, u, u, u, u, u, u, u, u, u, u, u, u, u, u, u, u, u, u, u, u, u, u, u, u, u, u, u, u, u, u, u, u, u, u, u, u, u, u, u, u, u, u, u, u, u, u, u, u, u, u, u, u, u, u, u, u, u, u] ∧ Own H (⟨.ptr i0 w0 0 0, 3, [.agg [.fz (b54.Code.map (AV.int .u8)), .int .i64 b54.At, .int .u64 b54.Seed]]⟩ :: F)) (fun K74 hK74 => ?_) (fun s H hq => ?_)
                · refine w_seq fun K75 hK75 => ?_
                  refine w_if ?_
                  simp only [W]
                  refine w_cnd h (fun hc h => ?_) (fun hc h => ?_)
                  · refine w_draw0 gC (by kernel_rfl) ?_
                    try simp only [W, EE, Nat.reduceAdd]
                    refine w_slS rfl rfl h fun x76 hx76 h => ?_
                    try simp only [W, EE]
                    refine w_cat h fun x77 hx77 h => ?_
                    try simp only [W, EE]
                    refine w_slS rfl rfl h fun x78 hx78 h => ?_
                    try simp only [W, EE]
                    refine w_cat h fun x79 hx79 h => ?_
                    try simp only [W]
                    refine seq_n hK75 ?_
                    refine w_kill ?_
                    exact cut_n hK74 ⟨_, (Option.some.inj h).symm, rfl, (hS.sel 2 [0] (by decide))⟩
                  · refine w_draw0 gC (by kernel_rfl) ?_
                    try simp only [W, EE, Nat.reduceAdd]
                    refine w_slS rfl rfl h fun x80 hx80 h => ?_
                    try simp only [W, EE]
                    refine w_slS rfl rfl h fun x81 hx81 h => ?_
                    try simp only [W, EE]
                    refine w_cat h fun x82 hx82 h => ?_
                    try simp only [W]
                    refine seq_n hK75 ?_
                    refine w_kill ?_
                    exact cut_n hK74 ⟨_, (Option.some.inj h).symm, rfl, (hS.sel 2 [0] (by decide))⟩
                · obtain ⟨x71, ey, rfl, hS⟩ := hq; obtain rfl := ey.symm
                  replace h := g73
                  try dsimp only at h
                  refine seq_n hK65 ?_
                  refine w_kill ?_
                  exact cut_n hK64 ⟨_, (Option.some.inj h).symm, rfl, hS⟩
            · obtain ⟨x61, ey, rfl, hS⟩ := hq; obtain rfl := ey.symm
              replace h := g63
              try dsimp only at h
              refine blk_n hK55 ?_
              exact cut_n hK59 ⟨_, (Option.some.inj h).symm, rfl, hS⟩
          · obtain ⟨x56, ey, rfl, hS⟩ := hq; obtain rfl := ey.symm
            replace h := g58
            try dsimp only at h
            refine blk_n hK32 ?_
            exact cut_n hK39 ⟨_, _, _, _, (Option.some.inj h).symm, rfl, hS⟩
        · obtain ⟨x33, x34, x35, x36, rfl, rfl, hS⟩ := hq
          replace h := g38
          try dsimp only at h
          refine seq_n hK31 ?_
          refine w_reg gC ?_
          try simp only [W, EE, Nat.reduceAdd]
          exact lp_n hK20 h ⟨rfl, hS⟩
      · refine w_exit ?_
        refine seq_x hK24 ?_
        try obtain rfl := Option.some.inj h
        obtain rfl := hd21 _ rfl
        have h : (some (x7, x9, x10, x11) : Option ((List UInt8) × (List Int) × Int × Int)) = some (x7, x9, x10, x11) := rfl
        refine lp_x hK20 ?_
        refine blk_e hK19 ?_
        exact cut_n hK18 ⟨_, _, _, _, (Option.some.inj h).symm, rfl, hS⟩
  · obtain ⟨x12, x13, x14, x15, rfl, rfl, hS⟩ := hq
    replace h := g23
    try dsimp only at h
    refine seq_n hK2 ?_
    refine w_seq fun K85 hK85 => ?_
    refine w_reg gC ?_
    try simp only [W, Nat.reduceAdd]
    refine seq_n hK85 ?_
    refine w_ret ?_
    refine fin_r1 hK0 rfl ?_
    try obtain rfl := Option.some.inj h
    exact hP _ hS
theorem spec_l1Cur_numberText_w {a0 : L1Cur} {i0 : Nat} {w0 : Nat} {r : (List UInt8 × L1Cur)} (h : spec_l1Cur_numberText a0 = some r) {F : List It} {H : Heap} (hS : Own H (⟨.ptr i0 w0 0 0, 3, [.agg [.fz (a0.Code.map (AV.int .u8)), .int .i64 a0.At, .int .u64 a0.Seed]]⟩ :: F)) {P : AV → Heap → Prop} (hP : ∀ H', Own H' (⟨.ptr i0 w0 0 0, 3, [.agg [.fz (r.2.Code.map (AV.int .u8)), .int .i64 r.2.At, .int .u64 r.2.Seed]]⟩ :: F) → P (.str r.1) H') : ACall C 148 [.ptr i0 w0 0 0] H P := by
  refine acall_of gC (res := [.tmp 2]) (n := 26) rfl rfl rfl rfl fun K0 hK0 => ?_
  simp only [W, Nat.reduceSub, Nat.reduceAdd, List.replicate]
  unfold spec_l1Cur_numberText at h
  refine w_seq fun K1 hK1 => ?_
  refine w_reg gC ?_
  try simp only [W, Nat.reduceAdd]
  refine seq_n hK1 ?_
  refine w_seq fun K2 hK2 => ?_
  refine w_reg gC ?_
  try simp only [W, Nat.reduceAdd]
  refine seq_n hK2 ?_
  refine w_seq fun K3 hK3 => ?_
  refine w_seq fun K4 hK4 => ?_
  refine w_reg gC ?_
  try simp only [W, Nat.reduceAdd]
  refine w_call h fun b5 hb5 h => ?_
  obtain ⟨b6, b7⟩ := b5
  try dsimp only at h
  refine spec_l1Cur_numbers_w hb5 hS fun v8 qv8 H hS => ?_
  try simp only [W, EE]
  refine w_len 0 hS rfl qv8 rfl ?_
  try simp only [W]
  refine seq_n hK4 ?_
  obtain ⟨y13, hw14, g20⟩ := Option.bind_eq_some_iff.1 h
  refine w_join gC (fun s H => ∃ x12 : List UInt8, y13 = (x12) ∧ s = [.ptr i0 w0 0 0, u, u, .str x12, u, u, u, u, u, u, u, u, u, u, u, u, u, u, u, u, u, u, u, u, u, u] ∧ Own H (⟨.ptr i0 w0 0 0, 3, [.agg [.fz (b7.Code.map (AV.int .u8)), .int .i64 b7.At, .int .u64 b7.Seed]]⟩ :: F)) (fun K15 hK15 => ?_) (fun s H hq => ?_)
  · refine w_blk fun K16 hK16 => ?_
    refine w_loop gC hw14 (fun x s H => match x with | (x10, x11) => s = [.ptr i0 w0 0 0, u, u, .str x10, u, u, u, v8, .int .i64 (b6.length : Int), .int .i64 x11, u, u, u, u, u, u, u, u, u, u, u, u, u, u, u, u] ∧ Own H (⟨v8, 1, b6.map (AV.int .i64)⟩ :: ⟨.ptr i0 w0 0 0, 3, [.agg [.fz (b7.Code.map (AV.int .u8)), .int .i64 b7.At, .int .u64 b7.Seed]]⟩ :: F)) ⟨rfl, hS⟩ (fun x y19 s H h hd18 hi K17 hK17 => ?_)
    obtain ⟨x10, x11⟩ := x
    try dsimp only at hi
    obtain ⟨rfl, hS⟩ := hi
    simp only [spec_l1Cur_numberText_l0] at h
    refine w_seq fun K21 hK21 => ?_
    refine w_reg gC ?_
    try simp only [W, EE, Nat.reduceAdd]
    refine seq_n hK21 ?_
    refine w_seq fun K22 hK22 => ?_
    refine w_if ?_
    simp only [W]
    refine w_cnd h (fun hc h => ?_) (fun hc h => ?_)
    · refine w_skip ?_
      refine seq_n hK22 ?_
      refine w_seq fun K23 hK23 => ?_
      obtain ⟨y26, h, g27⟩ := Option.bind_eq_some_iff.1 h
      refine w_join gC (fun s H => ∃ x25 : List UInt8, y26 = (x25) ∧ s = [.ptr i0 w0 0 0, u, u, .str x25, u, u, u, v8, .int .i64 (b6.length : Int), .int .i64 x11, u, u, u, u, u, u, u, u, u, u, u, u, u, u, u, u] ∧ Own H (⟨v8, 1, b6.map (AV.int .i64)⟩ :: ⟨.ptr i0 w0 0 0, 3, [.agg [.fz (b7.Code.map (AV.int .u8)), .int .i64 b7.At, .int .u64 b7.Seed]]⟩ :: F)) (fun K28 hK28 => ?_) (fun s H hq => ?_)
      · refine w_blk fun K24 hK24 => ?_
        refine w_seq fun K29 hK29 => ?_
        refine w_reg gC ?_
        try simp only [W, EE, Nat.reduceAdd]
        refine w_ow 0 hS rfl rfl rfl rfl rfl h (fun b30 in31 wn31 on31 hb30 h en31 => ?_) qv8.ne
        obtain ⟨kn31, hbn31, hen31⟩ := hS.elem 0 rfl en31 hb30
        try simp only [W, EE, hbn31, hen31]
        refine seq_n hK29 ?_
        refine w_seq fun K32 hK32 => ?_
        refine w_reg gC ?_
        try simp only [W, Nat.reduceAdd]
        refine w_call h fun b33 hb33 h => ?_
        refine spec_l1Number_w hb33 hS fun H hS => ?_
        try simp only [W]
        refine seq_n hK32 ?_
        obtain ⟨y35, h, g36⟩ := Option.bind_eq_some_iff.1 h
        refine w_join gC (fun s H => ∃ x34 : List UInt8, y35 = (x34) ∧ s = [.ptr i0 w0 0 0, u, u, .str x34, u, u, u, v8, .int .i64 (b6.length : Int), .int .i64 x11, u, u, u, u, u, u, u, u, u, u, u, u, u, u, u, u] ∧ Own H (⟨v8, 1, b6.map (AV.int .i64)⟩ :: ⟨.ptr i0 w0 0 0, 3, [.agg [.fz (b7.Code.map (AV.int .u8)), .int .i64 b7.At, .int .u64 b7.Seed]]⟩ :: F)) (fun K37 hK37 => ?_) (fun s H hq => ?_)
        · refine w_seq fun K38 hK38 => ?_
          refine w_if ?_
          simp only [W]
          refine w_cnd h (fun hc h => ?_) (fun hc h => ?_)
          · refine w_reg gC ?_
            try simp only [W, Nat.reduceAdd]
            refine w_call h fun b39 hb39 h => ?_
            refine spec_l1Put_w hb39 hS fun H hS => ?_
            try simp only [W, EE]
            refine w_cat h fun x40 hx40 h => ?_
            try simp only [W]
            refine seq_n hK38 ?_
            refine w_kill ?_
            exact cut_n hK37 ⟨_, (Option.some.inj h).symm, rfl, hS⟩
          · refine w_skip ?_
            refine seq_n hK38 ?_
            refine w_kill ?_
            exact cut_n hK37 ⟨_, (Option.some.inj h).symm, rfl, hS⟩
        · obtain ⟨x34, ey, rfl, hS⟩ := hq; obtain rfl := ey.symm
          replace h := g36
          try dsimp only at h
          refine blk_n hK24 ?_
          exact cut_n hK28 ⟨_, (Option.some.inj h).symm, rfl, hS⟩
      · obtain ⟨x25, ey, rfl, hS⟩ := hq; obtain rfl := ey.symm
        replace h := g27
        try dsimp only at h
        refine seq_n hK23 ?_
        refine w_reg gC ?_
        try simp only [W, EE, Nat.reduceAdd]
        exact lp_n hK17 h ⟨rfl, hS⟩
    · refine w_exit ?_
      refine seq_x hK22 ?_
      try obtain rfl := Option.some.inj h
      obtain rfl := hd18 _ rfl
      have h : (some (x10) : Option ((List UInt8))) = some (x10) := rfl
      refine lp_x hK17 ?_
      refine blk_e hK16 ?_
      exact cut_n hK15 ⟨_, (Option.some.inj h).symm, rfl, (hS.sel 2 [1] (by decide))⟩
  · obtain ⟨x12, ey, rfl, hS⟩ := hq; obtain rfl := ey.symm
    replace h := g20
    try dsimp only at h
    refine seq_n hK3 ?_
    refine w_seq fun K43 hK43 => ?_
    refine w_seq fun K44 hK44 => ?_
    refine w_reg gC ?_
    try simp only [W, Nat.reduceAdd]
    refine w_call h fun b45 hb45 h => ?_
    obtain ⟨b46, b47⟩ := b45
    try dsimp only at h
    refine spec_l1Cur_one_w hb45 hS fun H hS => ?_
    try simp only [W]
    refine seq_n hK44 ?_
    obtain ⟨y52, h, g53⟩ := Option.bind_eq_some_iff.1 h
    refine w_join gC (fun s H => ∃ x48 : List UInt8, ∃ x49 : List Int, ∃ x50 : Int, ∃ x51 : Int, y52 = (x48, x49, x50, x51) ∧ s = [u, u, u, .str x48, u, u, u, u, u, u, u, u, u, u, u, u, u, u, u, u, u, u, u, u, u, u] ∧ Own H (⟨.ptr i0 w0 0 0, 3, [.agg [.fz (x49.map (AV.int .u8)), .int .i64 x50, .int .u64 x51]]⟩ :: F)) (fun K54 hK54 => ?_) (fun s H hq => ?_)
    · refine w_seq fun K55 hK55 => ?_
      refine w_if ?_
      simp only [W]
      refine w_cnd h (fun hc h => ?_) (fun hc h => ?_)
      · refine w_reg gC ?_
        try simp only [W, Nat.reduceAdd]
        refine w_call h fun b56 hb56 h => ?_
        obtain ⟨b57, b58⟩ := b56
        try dsimp only at h
        refine spec_l1Cur_spoilt_w hb56 hS fun H hS => ?_
        try simp only [W]
        refine seq_n hK55 ?_
        refine w_kill ?_
        exact cut_n hK54 ⟨_, _, _, _, (Option.some.inj h).symm, rfl, hS⟩
      · refine w_skip ?_
        refine seq_n hK55 ?_
        refine w_kill ?_
        exact cut_n hK54 ⟨_, _, _, _, (Option.some.inj h).symm, rfl, hS⟩
    · obtain ⟨x48, x49, x50, x51, rfl, rfl, hS⟩ := hq
      replace h := g53
      try dsimp only at h
      refine seq_n hK43 ?_
      refine w_seq fun K59 hK59 => ?_
      refine w_reg gC ?_
      try simp only [W, Nat.reduceAdd]
      refine seq_n hK59 ?_
      refine w_ret ?_
      refine fin_r1 hK0 rfl ?_
      try obtain rfl := Option.some.inj h
      exact hP _ hS
theorem spec_DrawGetNumber_w {a0 : List Int} {r : (List UInt8 × Int)} (h : spec_DrawGetNumber a0 = some r) {F : List It} {H : Heap} (hS : Own H (F)) {P : AV → Heap → Prop} (hP : ∀ H', Own H' (F) → P (.tup [.str r.1, .int .i64 r.2]) H') : ACall C 72 [.fz (a0.map (AV.int .u8))] H P := by
  refine acall_of gC (res := [.tmp 2, .tmp 3]) (n := 18) rfl rfl rfl rfl fun K0 hK0 => ?_
  simp only [W, Nat.reduceSub, Nat.reduceAdd, List.replicate]
  unfold spec_DrawGetNumber at h
  refine w_seq fun K1 hK1 => ?_
  refine w_reg gC ?_
  try simp only [W, Nat.reduceAdd]
  refine seq_n hK1 ?_
  refine w_seq fun K2 hK2 => ?_
  refine w_reg gC ?_
  try simp only [W, EE, Nat.reduceAdd]
  refine w_bld rfl rfl rfl rfl rfl ?_
  try simp only [W]
  refine w_box hS rfl rfl rfl rfl fun ip3 wp3 H hS => ?_
  try simp only [W]
  refine seq_n hK2 ?_
  refine w_seq fun K5 hK5 => ?_
  refine w_reg gC ?_
  try simp only [W, Nat.reduceAdd]
  refine w_call h fun b6 hb6 h => ?_
  obtain ⟨b7, b8⟩ := b6
  try dsimp only at h
  refine spec_l1Cur_numberText_w hb6 hS fun H hS => ?_
  try simp only [W]
  refine seq_n hK5 ?_
  refine w_seq fun K9 hK9 => ?_
  refine w_reg gC ?_
  try simp only [W, EE, Nat.reduceAdd]
  refine w_call h fun b10 hb10 h => ?_
  obtain ⟨b11, b12⟩ := b10
  try dsimp only at h
  refine spec_l1Cur_pick_w hb10 hS fun H hS => ?_
  try simp only [W, EE]
  refine seq_n hK9 ?_
  refine w_ret ?_
  refine fin_r2 hK0 rfl rfl ?_
  try obtain rfl := Option.some.inj h
  exact hP _ (hS.sel 1 [] (by decide))
theorem spec_l1Get_w {a0 : List UInt8} {a1 : Int} {r : (Int × Int)} (h : spec_l1Get a0 a1 = some r) {F : List It} {H : Heap} (hS : Own H (F)) {P : AV → Heap → Prop} (hP : ∀ H', Own H' (F) → P (.tup [.int .i64 r.1, .int .i64 r.2]) H') : ACall C 150 [.str a0, .int .i64 a1] H P := by
  refine acall_of gC (res := [.tmp 4, .tmp 5]) (n := 57) rfl rfl rfl rfl fun K0 hK0 => ?_
  simp only [W, Nat.reduceSub, Nat.reduceAdd, List.replicate]
  unfold spec_l1Get at h
  refine w_seq fun K1 hK1 => ?_
  refine w_reg gC ?_
  try simp only [W, Nat.reduceAdd]
  refine seq_n hK1 ?_
  refine w_seq fun K2 hK2 => ?_
  refine w_seq fun K3 hK3 => ?_
  refine w_reg gC ?_
  try simp only [W, EE, Nat.reduceAdd]
  refine seq_n hK3 ?_
  refine w_if ?_
  simp only [W]
  refine w_cnd h (fun hc h => ?_) (fun hc h => ?_)
  · refine w_seq fun K4 hK4 => ?_
    refine w_reg gC ?_
    try simp only [W, Nat.reduceAdd]
    refine seq_n hK4 ?_
    refine w_ret ?_
    refine seq_r hK2 ?_
    refine fin_r2 hK0 rfl rfl ?_
    try obtain rfl := Option.some.inj h
    exact hP _ hS
  · refine w_skip ?_
    refine seq_n hK2 ?_
    refine w_seq fun K5 hK5 => ?_
    refine w_reg gC ?_
    try simp only [W, EE, Nat.reduceAdd]
    refine w_sidx h fun b6 hb6 h => ?_
    try simp only [W, EE]
    rw [sr_lit _ _ _ rfl, Option.map_some, resV_s]
    try simp only [W, EE]
    refine w_num _ h fun x7 hx7 h => ?_
    try simp only [W]
    refine seq_n hK5 ?_
    refine w_seq fun K8 hK8 => ?_
    refine w_seq fun K9 hK9 => ?_
    refine w_reg gC ?_
    try simp only [W, EE, Nat.reduceAdd]
    refine seq_n hK9 ?_
    refine w_if ?_
    simp only [W]
    refine w_cnd h (fun hc h => ?_) (fun hc h => ?_)
    · refine w_seq fun K10 hK10 => ?_
      refine w_reg gC ?_
      try simp only [W, Nat.reduceAdd]
      refine seq_n hK10 ?_
      refine w_ret ?_
      refine seq_r hK8 ?_
      refine fin_r2 hK0 rfl rfl ?_
      try obtain rfl := Option.some.inj h
      exact hP _ hS
    · refine w_skip ?_
      refine seq_n hK8 ?_
      refine w_seq fun K11 hK11 => ?_
      refine w_reg gC ?_
      try simp only [W, EE, Nat.reduceAdd]
      refine w_sidx h fun b12 hb12 h => ?_
      try simp only [W, EE]
      refine seq_n hK11 ?_
      refine w_seq fun K13 hK13 => ?_
      refine w_seq fun K14 hK14 => ?_
      refine w_reg gC ?_
      try simp only [W, Nat.reduceAdd]
      refine seq_n hK14 ?_
      obtain ⟨y18, hw19, g25⟩ := Option.bind_eq_some_iff.1 h
      refine w_join gC (fun s H => ∃ x17 : Int, y18 = (x17) ∧ s = [u, .int .i64 a1, u, u, u, u, .int .i64 x7, .int .i64 x17, u, u, u, u, u, u, u, u, u, u, u, u, u, u, u, u, u, u, u, u, u, u, u, u, u, u, u, u, u, u, u, u, u, u, u, u, u, u, u, u, u, u, u, u, u, u, u, u, u] ∧ Own H (F)) (fun K20 hK20 => ?_) (fun s H hq => ?_)
      · refine w_blk fun K21 hK21 => ?_
        refine w_loop gC hw19 (fun x s H => match x with | (x15, x16) => s = [.str a0, .int .i64 a1, u, u, u, u, .int .i64 x7, .int .i64 x15, .int .i64 x16, u, u, u, u, u, u, u, u, u, u, u, u, u, u, u, u, u, u, u, u, u, u, u, u, u, u, u, u, u, u, u, u, u, u, u, u, u, u, u, u, u, u, u, u, u, u, u, u] ∧ Own H (F)) ⟨rfl, hS⟩ (fun x y24 s H h hd23 hi K22 hK22 => ?_)
        obtain ⟨x15, x16⟩ := x
        try dsimp only at hi
        obtain ⟨rfl, hS⟩ := hi
        simp only [spec_l1Get_l0] at h
        refine w_seq fun K26 hK26 => ?_
        refine w_seq fun K27 hK27 => ?_
        refine w_reg gC ?_
        try simp only [W, EE, Nat.reduceAdd]
        refine seq_n hK27 ?_
        refine w_if ?_
        simp only [W]
        refine w_cnd h (fun hc h => ?_) (fun hc h => ?_)
        · refine w_skip ?_
          refine seq_n hK26 ?_
          refine w_seq fun K28 hK28 => ?_
          refine w_blk fun K29 hK29 => ?_
          refine w_reg gC ?_
          try simp only [W, EE, Nat.reduceAdd]
          rw [sl_lit _ _ _ rfl, Option.map_some, resV_s]
          try simp only [W, EE]
          refine w_sidx h fun b30 hb30 h => ?_
          try simp only [W, EE]
          refine blk_n0 hK29 ?_
          refine seq_n hK28 ?_
          refine w_reg gC ?_
          try simp only [W, EE, Nat.reduceAdd]
          exact lp_n hK22 h ⟨rfl, hS⟩
        · refine w_exit ?_
          refine seq_x hK26 ?_
          try obtain rfl := Option.some.inj h
          obtain rfl := hd23 _ rfl
          have h : (some (x15) : Option (Int)) = some (x15) := rfl
          refine lp_x hK22 ?_
          refine blk_e hK21 ?_
          exact cut_n hK20 ⟨_, (Option.some.inj h).symm, rfl, hS⟩
      · obtain ⟨x17, ey, rfl, hS⟩ := hq; obtain rfl := ey.symm
        replace h := g25
        try dsimp only at h
        refine seq_n hK13 ?_
        refine w_seq fun K33 hK33 => ?_
        refine w_seq fun K34 hK34 => ?_
        obtain ⟨y36, h, g37⟩ := Option.bind_eq_some_iff.1 h
        refine w_join gC (fun s H => ∃ x35 : Bool, y36 = (x35) ∧ s = [u, .int .i64 a1, u, u, u, u, .int .i64 x7, .int .i64 x17, u, u, u, u, u, u, u, u, u, u, u, u, u, u, u, u, u, u, u, u, u, u, u, u, u, u, u, u, u, u, u, u, u, u, u, u, u, u, u, u, u, u, u, u, .bool x35, u, u, u, u] ∧ Own H (F)) (fun K38 hK38 => ?_) (fun s H hq => ?_)
        · refine w_seq fun K39 hK39 => ?_
          refine w_reg gC ?_
          try simp only [W, Nat.reduceAdd]
          refine w_call h fun b40 hb40 h => ?_
          refine spec_l1Number_w hb40 hS fun H hS => ?_
          try simp only [W]
          refine w_grdT h (fun hc h => ?_) (fun hc h => ?_)
          · try simp only [W, hc]
            refine seq_n hK39 ?_
            refine w_kill ?_
            exact cut_n hK38 ⟨_, (Option.some.inj h).symm, rfl, hS⟩
          · try simp only [W, hc]
            refine w_call h fun b41 hb41 h => ?_
            refine spec_l1Size_w hb41 hS fun H hS => ?_
            try simp only [W, EE, reduceIte, Bool.false_eq_true]
            refine seq_n hK39 ?_
            refine w_kill ?_
            exact cut_n hK38 ⟨_, (Option.some.inj h).symm, rfl, hS⟩
        · obtain ⟨x35, ey, rfl, hS⟩ := hq; obtain rfl := ey.symm
          replace h := g37
          try dsimp only at h
          refine seq_n hK34 ?_
          refine w_if ?_
          simp only [W]
          refine w_cnd h (fun hc h => ?_) (fun hc h => ?_)
          · refine w_seq fun K42 hK42 => ?_
            refine w_reg gC ?_
            try simp only [W, Nat.reduceAdd]
            refine seq_n hK42 ?_
            refine w_ret ?_
            refine seq_r hK33 ?_
            refine fin_r2 hK0 rfl rfl ?_
            try obtain rfl := Option.some.inj h
            exact hP _ hS
          · refine w_skip ?_
            refine seq_n hK33 ?_
            refine w_seq fun K43 hK43 => ?_
            refine w_reg gC ?_
            try simp only [W, EE, Nat.reduceAdd]
            refine seq_n hK43 ?_
            refine w_ret ?_
            refine fin_r2 hK0 rfl rfl ?_
            try obtain rfl := Option.some.inj h
            exact hP _ hS
theorem spec_GetNumber_w {a0 : List UInt8} {a1 : Int} {r : (Int × Int × Bool)} (h : spec_GetNumber a0 a1 = some r) {F : List It} {H : Heap} (hS : Own H (F)) {P : AV → Heap → Prop} (hP : ∀ H', Own H' (F) → P (.tup [.int .i64 r.1, .int .i64 r.2.1, .bool r.2.2]) H') : ACall C 73 [.str a0, .int .i64 a1] H P := by
  refine acall_of gC (res := [.tmp 4, .tmp 5, .tmp 6]) (n := 27) rfl rfl rfl rfl fun K0 hK0 => ?_
  simp only [W, Nat.reduceSub, Nat.reduceAdd, List.replicate]
  unfold spec_GetNumber at h
  refine w_seq fun K1 hK1 => ?_
  refine w_reg gC ?_
  try simp only [W, Nat.reduceAdd]
  refine seq_n hK1 ?_
  refine w_seq fun K2 hK2 => ?_
  refine w_seq fun K3 hK3 => ?_
  obtain ⟨y5, h, g6⟩ := Option.bind_eq_some_iff.1 h
  refine w_join gC (fun s H => ∃ x4 : Bool, y5 = (x4) ∧ s = [.str a0, .int .i64 a1, u, u, u, u, u, u, u, u, u, u, u, u, u, u, .bool x4, u, u, u, u, u, u, u, u, u, u] ∧ Own H (F)) (fun K7 hK7 => ?_) (fun s H hq => ?_)
  · refine w_seq fun K8 hK8 => ?_
    refine w_reg gC ?_
    try simp only [W, EE, Nat.reduceAdd]
    refine w_grdT h (fun hc h => ?_) (fun hc h => ?_)
    · try simp only [W, hc]
      refine seq_n hK8 ?_
      refine w_kill ?_
      exact cut_n hK7 ⟨_, (Option.some.inj h).symm, rfl, hS⟩
    · try simp only [W, EE, reduceIte, Bool.false_eq_true, hc]
      refine seq_n hK8 ?_
      refine w_kill ?_
      exact cut_n hK7 ⟨_, (Option.some.inj h).symm, rfl, hS⟩
  · obtain ⟨x4, ey, rfl, hS⟩ := hq; obtain rfl := ey.symm
    replace h := g6
    try dsimp only at h
    refine seq_n hK3 ?_
    refine w_if ?_
    simp only [W]
    refine w_cnd h (fun hc h => ?_) (fun hc h => ?_)
    · refine w_seq fun K9 hK9 => ?_
      refine w_reg gC ?_
      try simp only [W, Nat.reduceAdd]
      refine seq_n hK9 ?_
      refine w_ret ?_
      refine seq_r hK2 ?_
      refine fin_r3 hK0 rfl rfl rfl ?_
      try obtain rfl := Option.some.inj h
      exact hP _ hS
    · refine w_skip ?_
      refine seq_n hK2 ?_
      refine w_seq fun K10 hK10 => ?_
      refine w_reg gC ?_
      try simp only [W, Nat.reduceAdd]
      refine w_call h fun b11 hb11 h => ?_
      obtain ⟨b12, b13⟩ := b11
      try dsimp only at h
      refine spec_l1Get_w hb11 hS fun H hS => ?_
      try simp only [W]
      refine seq_n hK10 ?_
      refine w_seq fun K14 hK14 => ?_
      refine w_seq fun K15 hK15 => ?_
      refine w_reg gC ?_
      try simp only [W, EE, Nat.reduceAdd]
      refine seq_n hK15 ?_
      refine w_if ?_
      simp only [W]
      refine w_cnd h (fun hc h => ?_) (fun hc h => ?_)
      · refine w_seq fun K16 hK16 => ?_
        refine w_reg gC ?_
        try simp only [W, Nat.reduceAdd]
        refine seq_n hK16 ?_
        refine w_ret ?_
        refine seq_r hK14 ?_
        refine fin_r3 hK0 rfl rfl rfl ?_
        try obtain rfl := Option.some.inj h
        exact hP _ hS
      · refine w_skip ?_
        refine seq_n hK14 ?_
        refine w_seq fun K17 hK17 => ?_
        refine w_reg gC ?_
        try simp only [W, Nat.reduceAdd]
        refine seq_n hK17 ?_
        refine w_ret ?_
        refine fin_r3 hK0 rfl rfl rfl ?_
        try obtain rfl := Option.some.inj h
        exact hP _ hS
theorem laws_FnNumbers_w {a0 : List Int} {a1 : List Int} {r : (Bool)} (h : laws_FnNumbers a0 a1 = some r) {F : List It} {H : Heap} (hS : Own H (F)) {P : AV → Heap → Prop} (hP : ∀ H', Own H' (F) → P (.bool r) H') : ACall C 13 [.fz (a0.map (AV.int .u8)), .fz (a1.map (AV.int .u8))] H P := by
  refine acall_of gC (res := [.tmp 4]) (n := 238) rfl rfl rfl rfl fun K0 hK0 => ?_
  simp only [W, Nat.reduceSub, Nat.reduceAdd, List.replicate]
  unfold laws_FnNumbers at h
  refine w_seq fun K1 hK1 => ?_
  refine w_reg gC ?_
  try simp only [W, Nat.reduceAdd]
  refine seq_n hK1 ?_
  refine w_seq fun K2 hK2 => ?_
  refine w_seq fun K3 hK3 => ?_
  refine w_reg gC ?_
  try simp only [W, EE, Nat.reduceAdd]
  refine seq_n hK3 ?_
  refine w_if ?_
  simp only [W]
  refine w_cnd h (fun hc h => ?_) (fun hc h => ?_)
  · refine w_seq fun K4 hK4 => ?_
    refine w_reg gC ?_
    try simp only [W, Nat.reduceAdd]
    refine seq_n hK4 ?_
    refine w_ret ?_
    refine seq_r hK2 ?_
    refine fin_r1 hK0 rfl ?_
    try obtain rfl := Option.some.inj h
    exact hP _ hS
  · refine w_skip ?_
    refine seq_n hK2 ?_
    refine w_seq fun K5 hK5 => ?_
    refine w_reg gC ?_
    try simp only [W, Nat.reduceAdd]
    refine w_call h fun b6 hb6 h => ?_
    refine spec_DrawPutNumber_w hb6 hS fun H hS => ?_
    try simp only [W]
    refine seq_n hK5 ?_
    refine w_seq fun K7 hK7 => ?_
    refine w_reg gC ?_
    try simp only [W, Nat.reduceAdd]
    refine w_call h fun b8 hb8 h => ?_
    obtain ⟨b9, b10⟩ := b8
    try dsimp only at h
    refine impl_PutNumber_w hb8 hS fun H hS => ?_
    try simp only [W]
    refine seq_n hK7 ?_
    refine w_seq fun K11 hK11 => ?_
    refine w_reg gC ?_
    try simp only [W, Nat.reduceAdd]
    refine w_call h fun b12 hb12 h => ?_
    obtain ⟨b13, b14⟩ := b12
    try dsimp only at h
    refine spec_PutNumber_w hb12 hS fun H hS => ?_
    try simp only [W]
    refine seq_n hK11 ?_
    refine w_seq fun K15 hK15 => ?_
    refine w_reg gC ?_
    try simp only [W, Nat.reduceAdd]
    refine w_call h fun b16 hb16 h => ?_
    obtain ⟨b17, b18⟩ := b16
    try dsimp only at h
    refine impl_SizeOf_w hb16 hS fun H hS => ?_
    try simp only [W]
    refine seq_n hK15 ?_
    refine w_seq fun K19 hK19 => ?_
    refine w_reg gC ?_
    try simp only [W, Nat.reduceAdd]
    refine w_call h fun b20 hb20 h => ?_
    obtain ⟨b21, b22⟩ := b20
    try dsimp only at h
    refine spec_SizeOf_w hb20 hS fun H hS => ?_
    try simp only [W]
    refine seq_n hK19 ?_
    refine w_seq fun K23 hK23 => ?_
    refine w_seq fun K24 hK24 => ?_
    obtain ⟨y26, h, g27⟩ := Option.bind_eq_some_iff.1 h
    refine w_join gC (fun s H => ∃ x25 : Bool, y26 = (x25) ∧ s = [u, .fz (a1.map (AV.int .u8)), u, u, u, .int .i64 b6, .str b9, .bool b10, u, u, .int .i64 b17, .bool b18, u, u, u, u, u, u, u, u, u, u, u, u, u, u, u, u, u, u, u, u, u, u, u, u, u, u, u, u, u, u, u, u, u, u, u, u, u, u, u, u, u, u, u, u, u, u, u, u, u, u, u, u, u, u, u, u, u, u, u, u, u, u, u, u, u, u, u, u, u, u, u, u, u, .bool x25, u, u, u, u, u, u, u, u, u, u, u, u, u, u, u, u, u, u, u, u, u, u, u, u, u, u, u, u, u, u, u, u, u, u, u, u, u, u, u, u, u, u, u, u, u, u, u, u, u, u, u, u, u, u, u, u, u, u, u, u, u, u, u, u, u, u, u, u, u, u, u, u, u, u, u, u, u, u, u, u, u, u, u, u, u, u, u, u, u, u, u, u, u, u, u, u, u, u, u, u, u, u, u, u, u, u, u, u, u, u, u, u, u, u, u, u, u, u, u, u, u, u, u, u, u, u, u, u, u, u, u, u, u, u, u, u, u, u, u, u, u, u, u, u, u, u, u, u, u, u, u, u] ∧ Own H (F)) (fun K28 hK28 => ?_) (fun s H hq => ?_)
    · refine w_seq fun K29 hK29 => ?_
      refine w_reg gC ?_
      try simp only [W, EE, Nat.reduceAdd]
      rw [b_bneq _ _ _ _ (h := rfl) rfl, resV_s]
      try simp only [W]
      refine w_grdT h (fun hc h => ?_) (fun hc h => ?_)
      · try simp only [W, hc]
        refine seq_n hK29 ?_
        refine w_kill ?_
        exact cut_n hK28 ⟨_, (Option.some.inj h).symm, rfl, hS⟩
      · try simp only [W, EE, reduceIte, Bool.false_eq_true, hc]
        refine w_grdT h (fun hc h => ?_) (fun hc h => ?_)
        · try simp only [W, hc]
          refine seq_n hK29 ?_
          refine w_kill ?_
          exact cut_n hK28 ⟨_, (Option.some.inj h).symm, rfl, hS⟩
        · try simp only [W, EE, hc]
          rw [b_bneq _ _ _ _ (h := rfl) rfl, resV_s]
          try simp only [W, reduceIte, Bool.false_eq_true]
          refine w_grdT h (fun hc h => ?_) (fun hc h => ?_)
          · try simp only [W, hc]
            refine seq_n hK29 ?_
            refine w_kill ?_
            exact cut_n hK28 ⟨_, (Option.some.inj h).symm, rfl, hS⟩
          · try simp only [W, EE, reduceIte, Bool.false_eq_true, hc]
            refine seq_n hK29 ?_
            refine w_kill ?_
            exact cut_n hK28 ⟨_, (Option.some.inj h).symm, rfl, hS⟩
    · obtain ⟨x25, ey, rfl, hS⟩ := hq; obtain rfl := ey.symm
      replace h := g27
      try dsimp only at h
      refine seq_n hK24 ?_
      refine w_if ?_
      simp only [W]
      refine w_cnd h (fun hc h => ?_) (fun hc h => ?_)
      · refine w_seq fun K30 hK30 => ?_
        refine w_reg gC ?_
        try simp only [W, Nat.reduceAdd]
        refine seq_n hK30 ?_
        refine w_ret ?_
        refine seq_r hK23 ?_
        refine fin_r1 hK0 rfl ?_
        try obtain rfl := Option.some.inj h
        exact hP _ hS
      · refine w_skip ?_
        refine seq_n hK23 ?_
        refine w_seq fun K31 hK31 => ?_
        refine w_seq fun K32 hK32 => ?_
        refine w_reg gC ?_
        try simp only [W, Nat.reduceAdd]
        refine seq_n hK32 ?_
        obtain ⟨y33, h, g34⟩ := Option.bind_eq_some_iff.1 h
        refine w_join gC (fun s H => y33 = LR.next () ∧ s = [u, .fz (a1.map (AV.int .u8)), u, u, u, u, u, u, u, u, u, u, u, u, u, u, u, u, u, u, u, u, u, u, u, u, u, u, u, u, u, u, u, u, u, u, u, u, u, u, u, u, u, u, u, u, u, u, u, u, u, u, u, u, u, u, u, u, u, u, u, u, u, u, u, u, u, u, u, u, u, u, u, u, u, u, u, u, u, u, u, u, u, u, u, u, u, u, u, u, u, u, u, u, u, u, u, u, u, u, u, u, u, u, u, u, u, u, u, u, u, u, u, u, u, u, u, u, u, u, u, u, u, u, u, u, u, u, u, u, u, u, u, u, u, u, u, u, u, u, u, u, u, u, u, u, u, u, u, u, u, u, u, u, u, u, u, u, u, u, u, u, u, u, u, u, u, u, u, u, u, u, u, u, u, u, u, u, u, u, u, u, u, u, u, u, u, u, u, u, u, u, u, u, u, u, u, u, u, u, u, u, u, u, u, u, u, u, u, u, u, u, u, u, u, u, u, u, u, u, u, u, u, u, u, u, u, u, u, u, u, u, u, u, u, u, u, u] ∧ Own H (F)) (fun K35 hK35 => ?_) (fun s H hq => ?_)
        · refine w_seq fun K36 hK36 => ?_
          refine w_if ?_
          simp only [W]
          refine w_cnd h (fun hc h => ?_) (fun hc h => ?_)
          · refine w_seq fun K37 hK37 => ?_
            refine w_reg gC ?_
            try simp only [W, Nat.reduceAdd]
            refine w_call h fun b38 hb38 h => ?_
            obtain ⟨b39, b40, b41⟩ := b38
            try dsimp only at h
            refine impl_GetNumber_w hb38 hS fun H hS => ?_
            try simp only [W]
            refine seq_n hK37 ?_
            refine w_seq fun K42 hK42 => ?_
            refine w_reg gC ?_
            try simp only [W, EE, Nat.reduceAdd]
            rw [dv_lit _ _ _ rfl, Option.map_some, resV_s]
            try simp only [W]
            refine w_call h fun b43 hb43 h => ?_
            obtain ⟨b44, b45⟩ := b43
            try dsimp only at h
            refine impl_SizeOf_w hb43 hS fun H hS => ?_
            try simp only [W]
            refine seq_n hK42 ?_
            refine w_seq fun K46 hK46 => ?_
            obtain ⟨y48, h, g49⟩ := Option.bind_eq_some_iff.1 h
            refine w_join gC (fun s H => ∃ x47 : Bool, y48 = (x47) ∧ s = [u, .fz (a1.map (AV.int .u8)), u, u, u, u, u, u, u, u, u, u, u, u, u, u, u, u, u, u, u, u, u, u, u, u, u, u, u, u, u, u, u, u, u, u, u, u, u, u, u, u, u, u, u, u, u, u, u, u, u, u, u, u, u, u, u, u, u, u, u, u, u, u, u, u, u, u, u, u, u, u, u, u, u, u, u, u, u, u, u, u, u, u, u, u, u, u, u, u, u, u, u, u, u, u, u, u, u, u, u, u, u, u, u, u, u, u, u, u, u, u, u, u, u, u, u, u, u, u, u, u, u, u, u, u, u, u, u, u, .bool x47, u, u, u, u, u, u, u, u, u, u, u, u, u, u, u, u, u, u, u, u, u, u, u, u, u, u, u, u, u, u, u, u, u, u, u, u, u, u, u, u, u, u, u, u, u, u, u, u, u, u, u, u, u, u, u, u, u, u, u, u, u, u, u, u, u, u, u, u, u, u, u, u, u, u, u, u, u, u, u, u, u, u, u, u, u, u, u, u, u, u, u, u, u, u, u, u, u, u, u, u, u, u, u, u, u, u, u] ∧ Own H (F)) (fun K50 hK50 => ?_) (fun s H hq => ?_)
            · refine w_seq fun K51 hK51 => ?_
              refine w_reg gC ?_
              try simp only [W, Nat.reduceAdd]
              refine w_grdT h (fun hc h => ?_) (fun hc h => ?_)
              · try simp only [W, hc]
                refine seq_n hK51 ?_
                refine w_kill ?_
                exact cut_n hK50 ⟨_, (Option.some.inj h).symm, rfl, hS⟩
              · try simp only [W, EE, reduceIte, Bool.false_eq_true, hc]
                refine w_grdT h (fun hc h => ?_) (fun hc h => ?_)
                · try simp only [W, hc]
                  refine seq_n hK51 ?_
                  refine w_kill ?_
                  exact cut_n hK50 ⟨_, (Option.some.inj h).symm, rfl, hS⟩
                · try simp only [W, EE, reduceIte, Bool.false_eq_true, hc]
                  refine w_grdT h (fun hc h => ?_) (fun hc h => ?_)
                  · try simp only [W, hc]
                    refine seq_n hK51 ?_
                    refine w_kill ?_
                    exact cut_n hK50 ⟨_, (Option.some.inj h).symm, rfl, hS⟩
                  · try simp only [W, reduceIte, Bool.false_eq_true, hc]
                    refine w_grdT h (fun hc h => ?_) (fun hc h => ?_)
                    · try simp only [W, hc]
                      refine seq_n hK51 ?_
                      refine w_kill ?_
                      exact cut_n hK50 ⟨_, (Option.some.inj h).symm, rfl, hS⟩
                    · try simp only [W, EE, reduceIte, Bool.false_eq_true, hc]
                      refine w_grdT h (fun hc h => ?_) (fun hc h => ?_)
                      · try simp only [W, hc]
                        refine seq_n hK51 ?_
                        refine w_kill ?_
                        exact cut_n hK50 ⟨_, (Option.some.inj h).symm, rfl, hS⟩
                      · try simp only [W, reduceIte, Bool.false_eq_true, hc]
                        refine w_grdT h (fun hc h => ?_) (fun hc h => ?_)
                        · try simp only [W, hc]
                          refine seq_n hK51 ?_
                          refine w_kill ?_
                          exact cut_n hK50 ⟨_, (Option.some.inj h).symm, rfl, hS⟩
                        · try simp only [W, EE, reduceIte, Bool.false_eq_true, hc]
                          refine seq_n hK51 ?_
                          refine w_kill ?_
                          exact cut_n hK50 ⟨_, (Option.some.inj h).symm, rfl, hS⟩
            · obtain ⟨x47, ey, rfl, hS⟩ := hq; obtain rfl := ey.symm
              replace h := g49
              try dsimp only at h
              refine seq_n hK46 ?_
              refine w_if ?_
              simp only [W]
              refine w_cnd h (fun hc h => ?_) (fun hc h => ?_)
              · refine w_seq fun K52 hK52 => ?_
                refine w_reg gC ?_
                try simp only [W, Nat.reduceAdd]
                refine seq_n hK52 ?_
                refine w_ret ?_
                refine seq_r hK36 ?_
                try obtain rfl := Option.some.inj h
                obtain rfl := Option.some.inj g34
                have h : (some false : Option (Bool)) = some false := rfl
                refine cut_r hK35 ?_
                refine seq_r hK31 ?_
                refine fin_r1 hK0 rfl ?_
                try obtain rfl := Option.some.inj h
                exact hP _ hS
              · refine w_skip ?_
                refine seq_n hK36 ?_
                refine w_kill ?_
                exact cut_n hK35 ⟨(Option.some.inj h).symm, rfl, hS⟩
          · refine w_skip ?_
            refine seq_n hK36 ?_
            refine w_kill ?_
            exact cut_n hK35 ⟨(Option.some.inj h).symm, rfl, hS⟩
        · obtain ⟨rfl, rfl, hS⟩ := hq
          replace h := g34
          try dsimp only at h
          refine seq_n hK31 ?_
          refine w_seq fun K55 hK55 => ?_
          refine w_reg gC ?_
          try simp only [W, Nat.reduceAdd]
          refine w_call h fun b56 hb56 h => ?_
          obtain ⟨b57, b58⟩ := b56
          try dsimp only at h
          refine spec_DrawPutWide_w hb56 hS fun H hS => ?_
          try simp only [W]
          refine seq_n hK55 ?_
          refine w_seq fun K59 hK59 => ?_
          refine w_reg gC ?_
          try simp only [W, Nat.reduceAdd]
          refine w_call h fun b60 hb60 h => ?_
          obtain ⟨b61, b62⟩ := b60
          try dsimp only at h
          refine impl_PutWide_w hb60 hS fun H hS => ?_
          try simp only [W]
          refine seq_n hK59 ?_
          refine w_seq fun K63 hK63 => ?_
          refine w_reg gC ?_
          try simp only [W, Nat.reduceAdd]
          refine w_call h fun b64 hb64 h => ?_
          obtain ⟨b65, b66⟩ := b64
          try dsimp only at h
          refine spec_PutWide_w hb64 hS fun H hS => ?_
          try simp only [W]
          refine seq_n hK63 ?_
          refine w_seq fun K67 hK67 => ?_
          refine w_seq fun K68 hK68 => ?_
          obtain ⟨y70, h, g71⟩ := Option.bind_eq_some_iff.1 h
          refine w_join gC (fun s H => ∃ x69 : Bool, y70 = (x69) ∧ s = [u, .fz (a1.map (AV.int .u8)), u, u, u, u, u, u, u, u, u, u, u, u, u, u, u, u, u, .int .i64 b57, .int .i64 b58, .str b61, .bool b62, u, u, u, u, u, u, u, u, u, u, u, u, u, u, u, u, u, u, u, u, u, u, u, u, u, u, u, u, u, u, u, u, u, u, u, u, u, u, u, u, u, u, u, u, u, u, u, u, u, u, u, u, u, u, u, u, u, u, u, u, u, u, u, u, u, u, u, u, u, u, u, u, u, u, u, u, u, u, u, u, u, u, u, u, u, u, u, u, u, u, u, u, u, u, u, u, u, u, u, u, u, u, u, u, u, u, u, u, u, u, u, u, u, u, u, u, u, u, u, u, u, u, u, u, u, u, u, u, u, u, u, u, .bool x69, u, u, u, u, u, u, u, u, u, u, u, u, u, u, u, u, u, u, u, u, u, u, u, u, u, u, u, u, u, u, u, u, u, u, u, u, u, u, u, u, u, u, u, u, u, u, u, u, u, u, u, u, u, u, u, u, u, u, u, u, u, u, u, u, u, u, u, u, u, u, u, u, u, u, u, u, u, u, u, u, u, u] ∧ Own H (F)) (fun K72 hK72 => ?_) (fun s H hq => ?_)
          · refine w_seq fun K73 hK73 => ?_
            refine w_reg gC ?_
            try simp only [W, EE, Nat.reduceAdd]
            rw [b_bneq _ _ _ _ (h := rfl) rfl, resV_s]
            try simp only [W]
            refine w_grdT h (fun hc h => ?_) (fun hc h => ?_)
            · try simp only [W, hc]
              refine seq_n hK73 ?_
              refine w_kill ?_
              exact cut_n hK72 ⟨_, (Option.some.inj h).symm, rfl, hS⟩
            · try simp only [W, EE, reduceIte, Bool.false_eq_true, hc]
              refine seq_n hK73 ?_
              refine w_kill ?_
              exact cut_n hK72 ⟨_, (Option.some.inj h).symm, rfl, hS⟩
          · obtain ⟨x69, ey, rfl, hS⟩ := hq; obtain rfl := ey.symm
            replace h := g71
            try dsimp only at h
            refine seq_n hK68 ?_
            refine w_if ?_
            simp only [W]
            refine w_cnd h (fun hc h => ?_) (fun hc h => ?_)
            · refine w_seq fun K74 hK74 => ?_
              refine w_reg gC ?_
              try simp only [W, Nat.reduceAdd]
              refine seq_n hK74 ?_
              refine w_ret ?_
              refine seq_r hK67 ?_
              refine fin_r1 hK0 rfl ?_
              try obtain rfl := Option.some.inj h
              exact hP _ hS
            · refine w_skip ?_
              refine seq_n hK67 ?_
              refine w_seq fun K75 hK75 => ?_
              refine w_seq fun K76 hK76 => ?_
              refine w_reg gC ?_
              try simp only [W, Nat.reduceAdd]
              refine seq_n hK76 ?_
              obtain ⟨y77, h, g78⟩ := Option.bind_eq_some_iff.1 h
              refine w_join gC (fun s H => y77 = LR.next () ∧ s = [u, .fz (a1.map (AV.int .u8)), u, u, u, u, u, u, u, u, u, u, u, u, u, u, u, u, u, u, u, u, u, u, u, u, u, u, u, u, u, u, u, u, u, u, u, u, u, u, u, u, u, u, u, u, u, u, u, u, u, u, u, u, u, u, u, u, u, u, u, u, u, u, u, u, u, u, u, u, u, u, u, u, u, u, u, u, u, u, u, u, u, u, u, u, u, u, u, u, u, u, u, u, u, u, u, u, u, u, u, u, u, u, u, u, u, u, u, u, u, u, u, u, u, u, u, u, u, u, u, u, u, u, u, u, u, u, u, u, u, u, u, u, u, u, u, u, u, u, u, u, u, u, u, u, u, u, u, u, u, u, u, u, u, u, u, u, u, u, u, u, u, u, u, u, u, u, u, u, u, u, u, u, u, u, u, u, u, u, u, u, u, u, u, u, u, u, u, u, u, u, u, u, u, u, u, u, u, u, u, u, u, u, u, u, u, u, u, u, u, u, u, u, u, u, u, u, u, u, u, u, u, u, u, u, u, u, u, u, u, u, u, u, u, u, u, u] ∧ Own H (F)) (fun K79 hK79 => ?_) (fun s H hq => ?_)
              · refine w_seq fun K80 hK80 => ?_
                refine w_if ?_
                simp only [W]
                refine w_cnd h (fun hc h => ?_) (fun hc h => ?_)
                · refine w_seq fun K81 hK81 => ?_
                  refine w_reg gC ?_
                  try simp only [W, Nat.reduceAdd]
                  refine w_call h fun b82 hb82 h => ?_
                  obtain ⟨b83, b84, b85⟩ := b82
                  try dsimp only at h
                  refine impl_GetNumber_w hb82 hS fun H hS => ?_
                  try simp only [W]
                  refine seq_n hK81 ?_
                  refine w_seq fun K86 hK86 => ?_
                  refine w_reg gC ?_
                  try simp only [W, Nat.reduceAdd]
                  refine w_call h fun b87 hb87 h => ?_
                  obtain ⟨b88, b89⟩ := b87
                  try dsimp only at h
                  refine impl_SizeOf_w hb87 hS fun H hS => ?_
                  try simp only [W]
                  refine seq_n hK86 ?_
                  refine w_seq fun K90 hK90 => ?_
                  obtain ⟨y92, h, g93⟩ := Option.bind_eq_some_iff.1 h
                  refine w_join gC (fun s H => ∃ x91 : Bool, y92 = (x91) ∧ s = [u, .fz (a1.map (AV.int .u8)), u, u, u, u, u, u, u, u, u, u, u, u, u, u, u, u, u, u, u, u, u, u, u, u, u, u, u, u, u, u, u, u, u, u, u, u, u, u, u, u, u, u, u, u, u, u, u, u, u, u, u, u, u, u, u, u, u, u, u, u, u, u, u, u, u, u, u, u, u, u, u, u, u, u, u, u, u, u, u, u, u, u, u, u, u, u, u, u, u, u, u, u, u, u, u, u, u, u, u, u, u, u, u, u, u, u, u, u, u, u, u, u, u, u, u, u, u, u, u, u, u, u, u, u, u, u, u, u, u, u, u, u, u, u, u, u, u, u, u, u, u, u, u, u, u, u, u, u, u, u, u, u, u, u, u, u, u, u, u, u, u, u, u, u, u, u, u, u, u, u, u, u, u, u, u, u, u, u, u, u, u, u, u, u, u, u, u, u, .bool x91, u, u, u, u, u, u, u, u, u, u, u, u, u, u, u, u, u, u, u, u, u, u, u, u, u, u, u, u, u, u, u, u, u, u, u, u, u, u, u, u, u, u, u, u, u, u, u] ∧ Own H (F)) (fun K94 hK94 => ?_) (fun s H hq => ?_)
                  · refine w_seq fun K95 hK95 => ?_
                    refine w_reg gC ?_
                    try simp only [W, EE, Nat.reduceAdd]
                    refine w_grdT h (fun hc h => ?_) (fun hc h => ?_)
                    · try simp only [W, hc]
                      refine seq_n hK95 ?_
                      refine w_kill ?_
                      exact cut_n hK94 ⟨_, (Option.some.inj h).symm, rfl, hS⟩
                    · try simp only [W, reduceIte, Bool.false_eq_true, hc]
                      refine w_grdT h (fun hc h => ?_) (fun hc h => ?_)
                      · try simp only [W, hc]
                        refine seq_n hK95 ?_
                        refine w_kill ?_
                        exact cut_n hK94 ⟨_, (Option.some.inj h).symm, rfl, hS⟩
                      · try simp only [W, EE, hc]
                        rw [b_bneq _ _ _ _ (h := rfl) rfl, resV_s]
                        try simp only [W, reduceIte, Bool.false_eq_true]
                        refine w_grdT h (fun hc h => ?_) (fun hc h => ?_)
                        · try simp only [W, hc]
                          refine seq_n hK95 ?_
                          refine w_kill ?_
                          exact cut_n hK94 ⟨_, (Option.some.inj h).symm, rfl, hS⟩
                        · try simp only [W, hc]
                          refine w_grdT h (fun hc h => ?_) (fun hc h => ?_)
                          · try simp only [W, EE, reduceIte, Bool.false_eq_true, hc]
                            refine seq_n hK95 ?_
                            refine w_kill ?_
                            exact cut_n hK94 ⟨_, (Option.some.inj h).symm, rfl, hS⟩
                          · try simp only [W, reduceIte, Bool.false_eq_true, hc]
                            refine seq_n hK95 ?_
                            refine w_kill ?_
                            exact cut_n hK94 ⟨_, (Option.some.inj h).symm, rfl, hS⟩
                  · obtain ⟨x91, ey, rfl, hS⟩ := hq; obtain rfl := ey.symm
                    replace h := g93
                    try dsimp only at h
                    refine seq_n hK90 ?_
                    refine w_if ?_
                    simp only [W]
                    refine w_cnd h (fun hc h => ?_) (fun hc h => ?_)
                    · refine w_seq fun K96 hK96 => ?_
                      refine w_reg gC ?_
                      try simp only [W, Nat.reduceAdd]
                      refine seq_n hK96 ?_
                      refine w_ret ?_
                      refine seq_r hK80 ?_
                      try obtain rfl := Option.some.inj h
                      obtain rfl := Option.some.inj g78
                      have h : (some false : Option (Bool)) = some false := rfl
                      refine cut_r hK79 ?_
                      refine seq_r hK75 ?_
                      refine fin_r1 hK0 rfl ?_
                      try obtain rfl := Option.some.inj h
                      exact hP _ hS
                    · refine w_skip ?_
                      refine seq_n hK80 ?_
                      refine w_kill ?_
                      exact cut_n hK79 ⟨(Option.some.inj h).symm, rfl, hS⟩
                · refine w_skip ?_
                  refine seq_n hK80 ?_
                  refine w_kill ?_
                  exact cut_n hK79 ⟨(Option.some.inj h).symm, rfl, hS⟩
              · obtain ⟨rfl, rfl, hS⟩ := hq
                replace h := g78
                try dsimp only at h
                refine seq_n hK75 ?_
                refine w_seq fun K99 hK99 => ?_
                refine w_reg gC ?_
                try simp only [W, Nat.reduceAdd]
                refine w_call h fun b100 hb100 h => ?_
                obtain ⟨b101, b102⟩ := b100
                try dsimp only at h
                refine spec_DrawGetNumber_w hb100 hS fun H hS => ?_
                try simp only [W]
                refine seq_n hK99 ?_
                refine w_seq fun K103 hK103 => ?_
                refine w_reg gC ?_
                try simp only [W, Nat.reduceAdd]
                refine w_call h fun b104 hb104 h => ?_
                obtain ⟨b105, b106, b107⟩ := b104
                try dsimp only at h
                refine impl_GetNumber_w hb104 hS fun H hS => ?_
                try simp only [W]
                refine seq_n hK103 ?_
                refine w_seq fun K108 hK108 => ?_
                refine w_reg gC ?_
                try simp only [W, Nat.reduceAdd]
                refine w_call h fun b109 hb109 h => ?_
                obtain ⟨b110, b111, b112⟩ := b109
                try dsimp only at h
                refine spec_GetNumber_w hb109 hS fun H hS => ?_
                try simp only [W]
                refine seq_n hK108 ?_
                refine w_seq fun K113 hK113 => ?_
                refine w_seq fun K114 hK114 => ?_
                obtain ⟨y116, h, g117⟩ := Option.bind_eq_some_iff.1 h
                refine w_join gC (fun s H => ∃ x115 : Bool, y116 = (x115) ∧ s = [u, u, u, u, u, u, u, u, u, u, u, u, u, u, u, u, u, u, u, u, u, u, u, u, u, u, u, u, u, u, .str b101, .int .i64 b102, .int .i64 b105, .int .i64 b106, .bool b107, u, u, u, u, u, u, u, u, u, u, u, u, u, u, u, u, u, u, u, u, u, u, u, u, u, u, u, u, u, u, u, u, u, u, u, u, u, u, u, u, u, u, u, u, u, u, u, u, u, u, u, u, u, u, u, u, u, u, u, u, u, u, u, u, u, u, u, u, u, u, u, u, u, u, u, u, u, u, u, u, u, u, u, u, u, u, u, u, u, u, u, u, u, u, u, u, u, u, u, u, u, u, u, u, u, u, u, u, u, u, u, u, u, u, u, u, u, u, u, u, u, u, u, u, u, u, u, u, u, u, u, u, u, u, u, u, u, u, u, u, u, u, u, u, u, u, u, u, u, u, u, u, u, u, u, u, u, u, u, u, u, u, u, u, u, u, u, u, u, u, u, u, u, u, u, u, u, u, u, u, u, u, u, u, u, u, u, .bool x115, u, u, u, u, u, u, u, u, u, u, u, u, u, u, u] ∧ Own H (F)) (fun K118 hK118 => ?_) (fun s H hq => ?_)
                · refine w_seq fun K119 hK119 => ?_
                  refine w_reg gC ?_
                  try simp only [W, EE, Nat.reduceAdd]
                  rw [b_bneq _ _ _ _ (h := rfl) rfl, resV_s]
                  try simp only [W]
                  refine w_grdT h (fun hc h => ?_) (fun hc h => ?_)
                  · try simp only [W, hc]
                    refine seq_n hK119 ?_
                    refine w_kill ?_
                    exact cut_n hK118 ⟨_, (Option.some.inj h).symm, rfl, hS⟩
                  · try simp only [W, EE, reduceIte, Bool.false_eq_true, hc]
                    refine w_grdT h (fun hc h => ?_) (fun hc h => ?_)
                    · try simp only [W, hc]
                      refine seq_n hK119 ?_
                      refine w_kill ?_
                      exact cut_n hK118 ⟨_, (Option.some.inj h).symm, rfl, hS⟩
                    · try simp only [W, EE, reduceIte, Bool.false_eq_true, hc]
                      refine seq_n hK119 ?_
                      refine w_kill ?_
                      exact cut_n hK118 ⟨_, (Option.some.inj h).symm, rfl, hS⟩
                · obtain ⟨x115, ey, rfl, hS⟩ := hq; obtain rfl := ey.symm
                  replace h := g117
                  try dsimp only at h
                  refine seq_n hK114 ?_
                  refine w_if ?_
                  simp only [W]
                  refine w_cnd h (fun hc h => ?_) (fun hc h => ?_)
                  · refine w_seq fun K120 hK120 => ?_
                    refine w_reg gC ?_
                    try simp only [W, Nat.reduceAdd]
                    refine seq_n hK120 ?_
                    refine w_ret ?_
                    refine seq_r hK113 ?_
                    refine fin_r1 hK0 rfl ?_
                    try obtain rfl := Option.some.inj h
                    exact hP _ hS
                  · refine w_skip ?_
                    refine seq_n hK113 ?_
                    refine w_seq fun K121 hK121 => ?_
                    refine w_seq fun K122 hK122 => ?_
                    refine w_reg gC ?_
                    try simp only [W, Nat.reduceAdd]
                    refine seq_n hK122 ?_
                    refine w_if ?_
                    simp only [W]
                    refine w_cnd h (fun hc h => ?_) (fun hc h => ?_)
                    · refine w_seq fun K123 hK123 => ?_
                      refine w_reg gC ?_
                      try simp only [W, Nat.reduceAdd]
                      refine w_call h fun b124 hb124 h => ?_
                      obtain ⟨b125, b126⟩ := b124
                      try dsimp only at h
                      refine impl_PutNumber_w hb124 hS fun H hS => ?_
                      try simp only [W]
                      refine seq_n hK123 ?_
                      refine w_seq fun K127 hK127 => ?_
                      refine w_reg gC ?_
                      try simp only [W, Nat.reduceAdd]
                      refine w_grdT h (fun hc h => ?_) (fun hc h => ?_)
                      · try simp only [W, EE, hc]
                        refine w_slS rfl rfl h fun x128 hx128 h => ?_
                        try simp only [W, EE, reduceIte]
                        refine seq_n hK127 ?_
                        refine w_ret ?_
                        refine seq_r hK121 ?_
                        refine fin_r1 hK0 rfl ?_
                        try obtain rfl := Option.some.inj h
                        exact hP _ hS
                      · try simp only [W, hc]
                        refine seq_n hK127 ?_
                        refine w_ret ?_
                        refine seq_r hK121 ?_
                        refine fin_r1 hK0 rfl ?_
                        try obtain rfl := Option.some.inj h
                        exact hP _ hS
                    · refine w_skip ?_
                      refine seq_n hK121 ?_
                      refine w_seq fun K129 hK129 => ?_
                      refine w_reg gC ?_
                      try simp only [W, Nat.reduceAdd]
                      refine seq_n hK129 ?_
                      refine w_ret ?_
                      refine fin_r1 hK0 rfl ?_
                      try obtain rfl := Option.some.inj h
                      exact hP _ hS
end Go.VxW
