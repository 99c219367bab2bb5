import Derived.Test.YtkmcnmjjfgahpaaVyGF
import Derived.Test.YtkmcnmjjfgahpaaProg
import Derived.Test.YtkmcnmjjfgahpaaVaE
import Derived.KernelRfl
open Go Go.VS
set_option maxRecDepth 8000
set_option maxHeartbeats 4000000
namespace Go.VxW
def e_Again (x : Again) : AV := .agg [.int .i64 x.Need, .int .i64 x.Every]
def e_L1Cur (x : L1Cur) : AV := .agg [.fz (x.Code.map (AV.int .u8)), .int .i64 x.At, .int .u64 x.Seed]
def E : TEnv := fun t => match t with
  | 3 => some { sz := 1, agg := false, zero := [AV.int IntKind.i64 0], bytes := 8, und := UD.it IntKind.i64, eqok := true }
  | 4 => some { sz := 1, agg := false, zero := [AV.bool false], bytes := 1, und := UD.bl, eqok := true }
  | 5 => some { sz := 1, agg := false, zero := [AV.int IntKind.u8 0], bytes := 1, und := UD.it IntKind.u8, eqok := true }
  | 48 => some { sz := 1, agg := false, zero := [AV.nil], bytes := 24, und := UD.sl 3, eqok := true }
  | 72 => some { sz := 1, agg := false, zero := [AV.nil], bytes := 24, und := UD.sl 5, eqok := true }
  | 102 => some { sz := 1, agg := false, zero := [AV.nil], bytes := 24, und := UD.sl 111, eqok := true }
  | 111 => some { sz := 2, agg := true, zero := [AV.int IntKind.i64 0, AV.int IntKind.i64 0], bytes := 16, und := UD.st [(0, 3), (1, 3)], eqok := true }
  | 150 => some { sz := 1, agg := false, zero := [AV.nilp], bytes := 8, und := UD.pt, eqok := true }
  | 151 => some { sz := 1, agg := false, zero := [AV.int IntKind.u64 0], bytes := 8, und := UD.it IntKind.u64, eqok := true }
  | 153 => some { sz := 3, agg := true, zero := [AV.nil, AV.int IntKind.i64 0, AV.int IntKind.u64 0], bytes := 40, und := UD.st [(0, 72), (1, 3), (2, 151)], eqok := true }
  | 175 => some { sz := 1, agg := false, zero := [AV.undef], bytes := 8, und := UD.ot, eqok := true }
  | _ => none
def pol : FuncId → FPol := fun f => match f with
  | 14 => { rsh := [[.sc]], loops := [(0, { keep := [21, 149, 150, 151] }), (2, { keep := [21, 25, 26, 27, 149, 150, 151, 156, 157, 158] })], blocks := [(2, [21, 149, 150, 151]), (0, [])], regs := [(13, [], [2]), (14, [], [2])], frz := [(8, [], some [1, 7, 8, 9, 13, 14, 15, 103]), (10, [], some [1, 121]), (15, [], some [19, 21, 22, 147])], cnds := [(148, []), (165, [21, 25, 26, 27, 28, 149, 150, 151, 156, 157, 158])] }
  | 74 => { rsh := [[.sl [.sc, .sc]], [.sc]] }
  | 75 => { rsh := [[.sc], [.sc], [.sc]] }
  | 76 => { rsh := [[.sc], [.sc], [.sc]] }
  | 77 => { rsh := [[.sc], [.sc], [.sc]], loops := [(0, { keep := [1, 7, 20, 21, 22] })], blocks := [(1, [1, 7, 20, 21, 22]), (0, [])] }
  | 78 => { rsh := [[.sc], [.sc], [.sc]], loops := [(0, { keep := [0, 1, 7, 15, 16, 17] })], blocks := [(0, [])] }
  | 79 => { rsh := [[.sc]] }
  | 80 => { rsh := [[.sc]], loops := [(0, { keep := [0, 5, 6, 7] })], blocks := [(0, [0])], frz := [(4, [], some [0, 5, 6, 7, 22])] }
  | 81 => { rsh := [[.sl [.sc, .sc]], [.sc]], fz := [(2, [(4, [([11], [.sl [.sc]])])])] }
  | 82 => { rsh := [[.sl [.sc]], [.sc]], frz := [(1, [], some [0, 1, 13])] }
  | 83 => { rsh := [[.sl [.sc]], [.sc]], frz := [(1, [], some [0, 1, 13])] }
  | 84 => { rsh := [[.sc]], loops := [(0, { keep := [0, 1, 12, 13] })], blocks := [(0, [])] }
  | 86 => { rsh := [[.sc]] }
  | 94 => { rsh := [[.sc]] }
  | 95 => { rsh := [[.sc]] }
  | 134 => { rsh := [[.sc]] }
  | 149 => { rsh := [[.sc]], cnds := [(11, [1, 5])] }
  | 151 => { rsh := [[.sl [.sc, .sc]]], loops := [(0, { keep := [0, 3, 4] })], blocks := [(0, [0, 3])], regs := [(8, [3, 7], [])], frz := [(10, [], some [0, 3, 38])], fz := [(11, [(3, [([41], [.sl [.sc]])]), (6, [([44], [.sl [.sc]])])])], cnds := [(9, [0, 3, 4]), (38, [3])] }
  | 152 => { rsh := [[.sc]] }
  | 153 => { rsh := [[.sc], [.sc]], loops := [(0, { keep := [0, 1, 6] }), (2, { keep := [0, 1, 6, 7, 24, 25, 26] })], blocks := [(2, [0, 1, 6, 7]), (0, [])] }
  | 154 => { rsh := [[.sc]] }
  | 155 => { rsh := [[.sc]], loops := [(0, { keep := [0, 1, 5] }), (2, { keep := [0, 1, 5, 6, 23, 24, 25] })], blocks := [(2, [0, 1, 5, 6]), (0, [])] }
  | 156 => { rsh := [[.sl [.sc]]], loops := [(0, { keep := [0, 5, 6, 15, 16] }), (2, { keep := [0, 5, 6, 7, 8, 15, 16, 19, 20, 21] })], blocks := [(3, [0, 5, 6, 7, 8, 15, 16, 19, 20, 21]), (2, [0, 5, 6, 8, 15, 16]), (0, [5])], regs := [(10, [8], [])], frz := [(11, [], some [0, 5, 6, 7, 8, 9, 15, 16, 19, 20, 21, 47])], cnds := [(30, [0, 5, 6, 7, 8, 9, 15, 16, 19, 20, 21]), (47, [0, 5, 6, 7, 8, 15, 16, 19, 20, 21]), (51, [0, 5, 6, 8, 15, 16])] }
  | 157 => { rsh := [[.sl [.sc]]], loops := [(0, { keep := [0, 1, 5, 6, 7] }), (2, { keep := [0, 1, 5, 6, 7, 8, 19, 20, 21] })], blocks := [(3, [0, 1, 5, 6, 7, 8, 19, 20, 21]), (2, [0, 1, 5, 6, 7, 8]), (0, [6])], regs := [(11, [8], [])], frz := [(12, [], some [0, 1, 5, 6, 7, 8, 9, 19, 20, 21, 47])], cnds := [(30, [0, 1, 5, 6, 7, 8, 9, 19, 20, 21]), (47, [0, 1, 5, 6, 7, 8, 19, 20, 21]), (51, [0, 1, 5, 6, 7, 8])] }
  | 158 => { rsh := [[.sc]] }
  | 159 => { rsh := [[.sc]] }
  | 180 => { rsh := [[.sc]] }
  | 181 => { rsh := [[.sc]] }
  | 185 => { rsh := [[.sc]], cnds := [(13, [0, 3])] }
  | 186 => { rsh := [[.sc]], loops := [(0, { keep := [0, 1, 7, 8] })], blocks := [(0, [])] }
  | _ => {}
noncomputable def code : FuncId → Option Func := fun f => match f with
  | 14 => some Go.Proofs.Try.f14
  | 74 => some Go.Proofs.Try.f74
  | 75 => some Go.Proofs.Try.f75
  | 76 => some Go.Proofs.Try.f76
  | 77 => some Go.Proofs.Try.f77
  | 78 => some Go.Proofs.Try.f78
  | 79 => some Go.Proofs.Try.f79
  | 80 => some Go.Proofs.Try.f80
  | 81 => some Go.Proofs.Try.f81
  | 82 => some Go.Proofs.Try.f82
  | 83 => some Go.Proofs.Try.f83
  | 84 => some Go.Proofs.Try.f84
  | 86 => some Go.Proofs.Try.f86
  | 94 => some Go.Proofs.Try.f94
  | 95 => some Go.Proofs.Try.f95
  | 134 => some Go.Proofs.Try.f134
  | 149 => some Go.Proofs.Try.f149
  | 151 => some Go.Proofs.Try.f151
  | 152 => some Go.Proofs.Try.f152
  | 153 => some Go.Proofs.Try.f153
  | 154 => some Go.Proofs.Try.f154
  | 155 => some Go.Proofs.Try.f155
  | 156 => some Go.Proofs.Try.f156
  | 157 => some Go.Proofs.Try.f157
  | 158 => some Go.Proofs.Try.f158
  | 159 => some Go.Proofs.Try.f159
  | 180 => some Go.Proofs.Try.f180
  | 181 => some Go.Proofs.Try.f181
  | 185 => some Go.Proofs.Try.f185
  | 186 => some Go.Proofs.Try.f186
  | _ => none
noncomputable def C : Ctx := ⟨E, pol, code, fun _ _ _ _ => False⟩
theorem gC : Good C := ⟨fun _ _ _ _ _ _ h => h, fun _ _ _ _ h => h.elim⟩
theorem cE : C.E = E := rfl
theorem E3 : E 3 = some { sz := 1, agg := false, zero := [AV.int IntKind.i64 0], bytes := 8, und := UD.it IntKind.i64, eqok := true } := rfl
theorem E4 : E 4 = some { sz := 1, agg := false, zero := [AV.bool false], bytes := 1, und := UD.bl, eqok := true } := rfl
theorem E5 : E 5 = some { sz := 1, agg := false, zero := [AV.int IntKind.u8 0], bytes := 1, und := UD.it IntKind.u8, eqok := true } := rfl
theorem E48 : E 48 = some { sz := 1, agg := false, zero := [AV.nil], bytes := 24, und := UD.sl 3, eqok := true } := rfl
theorem E72 : E 72 = some { sz := 1, agg := false, zero := [AV.nil], bytes := 24, und := UD.sl 5, eqok := true } := rfl
theorem E102 : E 102 = some { sz := 1, agg := false, zero := [AV.nil], bytes := 24, und := UD.sl 111, eqok := true } := rfl
theorem E111 : E 111 = some { sz := 2, agg := true, zero := [AV.int IntKind.i64 0, AV.int IntKind.i64 0], bytes := 16, und := UD.st [(0, 3), (1, 3)], eqok := true } := rfl
theorem E150 : E 150 = some { sz := 1, agg := false, zero := [AV.nilp], bytes := 8, und := UD.pt, eqok := true } := rfl
theorem E151 : E 151 = some { sz := 1, agg := false, zero := [AV.int IntKind.u64 0], bytes := 8, und := UD.it IntKind.u64, eqok := true } := rfl
theorem E153 : E 153 = some { sz := 3, agg := true, zero := [AV.nil, AV.int IntKind.i64 0, AV.int IntKind.u64 0], bytes := 40, und := UD.st [(0, 72), (1, 3), (2, 151)], eqok := true } := rfl
theorem E175 : E 175 = some { sz := 1, agg := false, zero := [AV.undef], bytes := 8, und := UD.ot, eqok := true } := rfl
theorem EE : type_of% (And.intro @cE <| And.intro @E3 <| And.intro @E4 <| And.intro @E5 <| And.intro @E48 <| And.intro @E72 <| And.intro @E102 <| And.intro @E111 <| And.intro @E150 <| And.intro @E151 <| And.intro @E153 @E175) := And.intro @cE <| And.intro @E3 <| And.intro @E4 <| And.intro @E5 <| And.intro @E48 <| And.intro @E72 <| And.intro @E102 <| And.intro @E111 <| And.intro @E150 <| And.intro @E151 <| And.intro @E153 @E175
theorem e_Again_d (x : Again) : e_Again x = .agg [.int .i64 x.Need, .int .i64 x.Every] := rfl
theorem e_L1Cur_d (x : L1Cur) : e_L1Cur x = .agg [.fz (x.Code.map (AV.int .u8)), .int .i64 x.At, .int .u64 x.Seed] := rfl
theorem EN : type_of% (And.intro @e_Again_d <| And.intro @e_L1Cur_d @killB_n) := And.intro @e_Again_d <| And.intro @e_L1Cur_d @killB_n
theorem spec_l1Cur_next_w {a0 : L1Cur} {i0 : Nat} {w0 : Nat} {r : (Int × L1Cur)} (h : spec_l1Cur_next a0 = some r) {F : List It} {H : Heap} (hS : Own H (⟨.ptr i0 w0 0 0, 3, [.agg [.fz (a0.Code.map (AV.int .u8)), .int .i64 a0.At, .int .u64 a0.Seed]]⟩ :: F)) {P : AV → Heap → Prop} (hP : ∀ H', Own H' (⟨.ptr i0 w0 0 0, 3, [.agg [.fz (r.2.Code.map (AV.int .u8)), .int .i64 r.2.At, .int .u64 r.2.Seed]]⟩ :: F) → P (.int .i64 r.1) H') : ACall C 185 [.ptr i0 w0 0 0] H P := by
  refine acall_of gC (res := [.tmp 2]) (n := 62) rfl rfl rfl rfl fun K0 hK0 => ?_
  simp only [W, Nat.reduceSub, Nat.reduceAdd, List.replicate]
  unfold spec_l1Cur_next at h
  refine w_seq fun K1 hK1 => ?_
  refine w_reg gC ?_
  try simp only [W, Nat.reduceAdd]
  refine seq_n hK1 ?_
  refine w_seq fun K2 hK2 => ?_
  refine w_reg gC ?_
  try simp only [W, Nat.reduceAdd]
  refine seq_n hK2 ?_
  refine w_seq fun K3 hK3 => ?_
  refine w_seq fun K4 hK4 => ?_
  refine w_draw0 gC (by kernel_rfl) ?_
  try simp only [W, EE, Nat.reduceAdd, Nat.reduceBEq, hS.var 0 rfl]
  refine seq_n hK4 ?_
  obtain ⟨y6, h, g7⟩ := Option.bind_eq_some_iff.1 h
  refine w_join gC (fun s H => ∃ x5 : Int, y6 = (x5) ∧ s = [.ptr i0 w0 0 0, u, u, .int .i64 x5, u, u, u, u, u, u, u, u, u, u, u, u, u, u, u, u, u, u, u, u, u, u, u, u, u, u, u, u, u, u, u, u, u, u, u, u, u, u, u, u, u, u, u, u, u, u, u, u, u, u, u, u, u, u, u, u, u, u] ∧ Own H (⟨.ptr i0 w0 0 0, 3, [.agg [.fz (a0.Code.map (AV.int .u8)), .int .i64 a0.At, .int .u64 a0.Seed]]⟩ :: F)) (fun K8 hK8 => ?_) (fun s H hq => ?_)
  · refine w_seq fun K9 hK9 => ?_
    refine w_if ?_
    simp only [W]
    refine w_cnd h (fun hc h => ?_) (fun hc h => ?_)
    · refine w_draw0 gC (by kernel_rfl) ?_
      try simp only [W, EE, Nat.reduceAdd, Nat.reduceBEq, hS.var 0 rfl]
      refine w_fz rfl rfl rfl (fun _ => rfl) h fun b10 hb10 h => ?_
      try simp only [W, EE]
      refine seq_n hK9 ?_
      refine w_kill ?_
      exact cut_n hK8 ⟨_, (Option.some.inj h).symm, rfl, hS⟩
    · refine w_skip ?_
      refine seq_n hK9 ?_
      refine w_kill ?_
      exact cut_n hK8 ⟨_, (Option.some.inj h).symm, rfl, hS⟩
  · obtain ⟨x5, ey, rfl, hS⟩ := hq; obtain rfl := ey.symm
    replace h := g7
    try dsimp only at h
    refine seq_n hK3 ?_
    refine w_seq fun K11 hK11 => ?_
    refine w_reg gC ?_
    try simp only [W, EE, Nat.reduceAdd, Nat.reduceBEq, hS.var 0 rfl]
    refine w_stv (a := .int .i64 (IntKind.i64.wrap (a0.At + 1))) (y' := .agg [.fz (a0.Code.map (AV.int .u8)), .int .i64 (IntKind.i64.wrap (a0.At + 1)), .int .u64 a0.Seed]) 0 hS rfl rfl rfl rfl rfl rfl rfl rfl fun H hS => ?_
    try simp only [W]
    refine seq_n hK11 ?_
    refine w_seq fun K12 hK12 => ?_
    refine w_reg gC ?_
    try simp only [W, EE, Nat.reduceAdd, Nat.reduceBEq, hS.var 0 rfl]
    refine w_stv (a := .int .u64 (IntKind.u64.wrap ((IntKind.u64.wrap ((IntKind.u64.wrap (a0.Seed * 6364136223846793005)) + (IntKind.u64.wrap x5))) + 1442695040888963407))) (y' := .agg [.fz (a0.Code.map (AV.int .u8)), .int .i64 (IntKind.i64.wrap (a0.At + 1)), .int .u64 (IntKind.u64.wrap ((IntKind.u64.wrap ((IntKind.u64.wrap (a0.Seed * 6364136223846793005)) + (IntKind.u64.wrap x5))) + 1442695040888963407))]) 0 hS rfl rfl rfl rfl rfl rfl rfl rfl fun H hS => ?_
    try simp only [W]
    refine seq_n hK12 ?_
    refine w_seq fun K13 hK13 => ?_
    refine w_seq fun K14 hK14 => ?_
    refine w_draw0 gC (by kernel_rfl) ?_
    try simp only [W, EE, Nat.reduceAdd, Nat.reduceBEq, hS.var 0 rfl]
    refine seq_n hK14 ?_
    refine w_if ?_
    simp only [W]
    refine w_cnd h (fun hc h => ?_) (fun hc h => ?_)
    · refine w_seq fun K15 hK15 => ?_
      refine w_reg gC ?_
      try simp only [W, Nat.reduceAdd]
      refine seq_n hK15 ?_
      refine w_ret ?_
      refine seq_r hK13 ?_
      refine fin_r1 hK0 rfl ?_
      try obtain rfl := Option.some.inj h
      exact hP _ hS
    · refine w_skip ?_
      refine seq_n hK13 ?_
      refine w_seq fun K16 hK16 => ?_
      refine w_reg gC ?_
      try simp only [W, EE, Nat.reduceAdd, Nat.reduceBEq, hS.var 0 rfl]
      rw [sr_lit _ _ _ rfl, Option.map_some, resV_s]
      try simp only [W, EE]
      refine seq_n hK16 ?_
      refine w_ret ?_
      refine fin_r1 hK0 rfl ?_
      try obtain rfl := Option.some.inj h
      exact hP _ hS
theorem spec_l1Cur_pick_w {a0 : L1Cur} {a1 : Int} {i0 : Nat} {w0 : Nat} {r : (Int × L1Cur)} (h : spec_l1Cur_pick a0 a1 = some r) {F : List It} {H : Heap} (hS : Own H (⟨.ptr i0 w0 0 0, 3, [.agg [.fz (a0.Code.map (AV.int .u8)), .int .i64 a0.At, .int .u64 a0.Seed]]⟩ :: F)) {P : AV → Heap → Prop} (hP : ∀ H', Own H' (⟨.ptr i0 w0 0 0, 3, [.agg [.fz (r.2.Code.map (AV.int .u8)), .int .i64 r.2.At, .int .u64 r.2.Seed]]⟩ :: F) → P (.int .i64 r.1) H') : ACall C 149 [.ptr i0 w0 0 0, .int .i64 a1] H P := by
  refine acall_of gC (res := [.tmp 4]) (n := 20) rfl rfl rfl rfl fun K0 hK0 => ?_
  simp only [W, Nat.reduceSub, Nat.reduceAdd, List.replicate]
  unfold spec_l1Cur_pick at h
  refine w_seq fun K1 hK1 => ?_
  refine w_reg gC ?_
  try simp only [W, Nat.reduceAdd]
  refine seq_n hK1 ?_
  refine w_seq fun K2 hK2 => ?_
  refine w_seq fun K3 hK3 => ?_
  refine w_reg gC ?_
  try simp only [W, EE, Nat.reduceAdd]
  refine seq_n hK3 ?_
  refine w_if ?_
  simp only [W]
  refine w_cnd h (fun hc h => ?_) (fun hc h => ?_)
  · refine w_seq fun K4 hK4 => ?_
    refine w_reg gC ?_
    try simp only [W, Nat.reduceAdd]
    refine seq_n hK4 ?_
    refine w_ret ?_
    refine seq_r hK2 ?_
    refine fin_r1 hK0 rfl ?_
    try obtain rfl := Option.some.inj h
    exact hP _ hS
  · refine w_skip ?_
    refine seq_n hK2 ?_
    refine w_seq fun K5 hK5 => ?_
    refine w_reg gC ?_
    try simp only [W, Nat.reduceAdd]
    refine w_call h fun b6 hb6 h => ?_
    obtain ⟨b7, b8⟩ := b6
    try dsimp only at h
    refine spec_l1Cur_next_w hb6 hS fun H hS => ?_
    try simp only [W]
    refine seq_n hK5 ?_
    refine w_seq fun K9 hK9 => ?_
    refine w_seq fun K10 hK10 => ?_
    refine w_reg gC ?_
    try simp only [W, EE, Nat.reduceAdd]
    refine seq_n hK10 ?_
    obtain ⟨y15, h, g16⟩ := Option.bind_eq_some_iff.1 h
    refine w_join gC (fun s H => ∃ x11 : Int, ∃ x12 : List Int, ∃ x13 : Int, ∃ x14 : Int, y15 = (x11, x12, x13, x14) ∧ s = [u, .int .i64 a1, u, u, u, .int .i64 x11, u, u, u, u, u, u, u, u, u, u, u, u, u, u] ∧ Own H (⟨.ptr i0 w0 0 0, 3, [.agg [.fz (x12.map (AV.int .u8)), .int .i64 x13, .int .u64 x14]]⟩ :: F)) (fun K17 hK17 => ?_) (fun s H hq => ?_)
    · refine w_seq fun K18 hK18 => ?_
      refine w_if ?_
      simp only [W]
      refine w_cnd h (fun hc h => ?_) (fun hc h => ?_)
      · refine w_reg gC ?_
        try simp only [W, EE, Nat.reduceAdd]
        refine w_call h fun b19 hb19 h => ?_
        obtain ⟨b20, b21⟩ := b19
        try dsimp only at h
        refine spec_l1Cur_next_w hb19 hS fun H hS => ?_
        try simp only [W, EE]
        refine seq_n hK18 ?_
        refine w_kill ?_
        exact cut_n hK17 ⟨_, _, _, _, (Option.some.inj h).symm, rfl, hS⟩
      · refine w_skip ?_
        refine seq_n hK18 ?_
        refine w_kill ?_
        exact cut_n hK17 ⟨_, _, _, _, (Option.some.inj h).symm, rfl, hS⟩
    · obtain ⟨x11, x12, x13, x14, rfl, rfl, hS⟩ := hq
      replace h := g16
      try dsimp only at h
      refine seq_n hK9 ?_
      refine w_seq fun K22 hK22 => ?_
      refine w_reg gC ?_
      try simp only [W, EE, Nat.reduceAdd]
      refine w_num _ h fun x23 hx23 h => ?_
      try simp only [W]
      refine seq_n hK22 ?_
      refine w_ret ?_
      refine fin_r1 hK0 rfl ?_
      try obtain rfl := Option.some.inj h
      exact hP _ hS
theorem spec_l1Cur_one_w {a0 : L1Cur} {a1 : Int} {i0 : Nat} {w0 : Nat} {r : (Bool × L1Cur)} (h : spec_l1Cur_one a0 a1 = some r) {F : List It} {H : Heap} (hS : Own H (⟨.ptr i0 w0 0 0, 3, [.agg [.fz (a0.Code.map (AV.int .u8)), .int .i64 a0.At, .int .u64 a0.Seed]]⟩ :: F)) {P : AV → Heap → Prop} (hP : ∀ H', Own H' (⟨.ptr i0 w0 0 0, 3, [.agg [.fz (r.2.Code.map (AV.int .u8)), .int .i64 r.2.At, .int .u64 r.2.Seed]]⟩ :: F) → P (.bool r.1) H') : ACall C 180 [.ptr i0 w0 0 0, .int .i64 a1] H P := by
  refine acall_of gC (res := [.tmp 4]) (n := 9) rfl rfl rfl rfl fun K0 hK0 => ?_
  simp only [W, Nat.reduceSub, Nat.reduceAdd, List.replicate]
  unfold spec_l1Cur_one at h
  refine w_seq fun K1 hK1 => ?_
  refine w_reg gC ?_
  try simp only [W, Nat.reduceAdd]
  refine seq_n hK1 ?_
  refine w_seq fun K2 hK2 => ?_
  refine w_reg gC ?_
  try simp only [W, Nat.reduceAdd]
  refine w_call h fun b3 hb3 h => ?_
  obtain ⟨b4, b5⟩ := b3
  try dsimp only at h
  refine spec_l1Cur_pick_w hb3 hS fun H hS => ?_
  try simp only [W, EE]
  refine seq_n hK2 ?_
  refine w_ret ?_
  refine fin_r1 hK0 rfl ?_
  try obtain rfl := Option.some.inj h
  exact hP _ hS
theorem spec_l1Least_w {a0 : Int} {a1 : Int} {r : (Int)} (h : spec_l1Least a0 a1 = some r) {F : List It} {H : Heap} (hS : Own H (F)) {P : AV → Heap → Prop} (hP : ∀ H', Own H' (F) → P (.int .i64 r) H') : ACall C 181 [.int .i64 a0, .int .i64 a1] H P := by
  refine acall_of gC (res := [.tmp 4]) (n := 10) rfl rfl rfl rfl fun K0 hK0 => ?_
  simp only [W, Nat.reduceSub, Nat.reduceAdd, List.replicate]
  unfold spec_l1Least at h
  refine w_seq fun K1 hK1 => ?_
  refine w_reg gC ?_
  try simp only [W, Nat.reduceAdd]
  refine seq_n hK1 ?_
  refine w_seq fun K2 hK2 => ?_
  refine w_seq fun K3 hK3 => ?_
  refine w_reg gC ?_
  try simp only [W, EE, Nat.reduceAdd]
  refine seq_n hK3 ?_
  refine w_if ?_
  simp only [W]
  refine w_cnd h (fun hc h => ?_) (fun hc h => ?_)
  · refine w_seq fun K4 hK4 => ?_
    refine w_reg gC ?_
    try simp only [W, Nat.reduceAdd]
    refine seq_n hK4 ?_
    refine w_ret ?_
    refine seq_r hK2 ?_
    refine fin_r1 hK0 rfl ?_
    try obtain rfl := Option.some.inj h
    exact hP _ hS
  · refine w_skip ?_
    refine seq_n hK2 ?_
    refine w_seq fun K5 hK5 => ?_
    refine w_reg gC ?_
    try simp only [W, Nat.reduceAdd]
    refine seq_n hK5 ?_
    refine w_ret ?_
    refine fin_r1 hK0 rfl ?_
    try obtain rfl := Option.some.inj h
    exact hP _ hS
theorem spec_l1Cur_among_w {a0 : L1Cur} {a1 : List Int} {i0 : Nat} {w0 : Nat} {r : (Int × L1Cur)} (h : spec_l1Cur_among a0 a1 = some r) {F : List It} {H : Heap} (hS : Own H (⟨.ptr i0 w0 0 0, 3, [.agg [.fz (a0.Code.map (AV.int .u8)), .int .i64 a0.At, .int .u64 a0.Seed]]⟩ :: F)) {P : AV → Heap → Prop} (hP : ∀ H', Own H' (⟨.ptr i0 w0 0 0, 3, [.agg [.fz (r.2.Code.map (AV.int .u8)), .int .i64 r.2.At, .int .u64 r.2.Seed]]⟩ :: F) → P (.int .i64 r.1) H') : ACall C 134 [.ptr i0 w0 0 0, .fz (a1.map (AV.int .i64))] H P := by
  refine acall_of gC (res := [.tmp 4]) (n := 12) rfl rfl rfl rfl fun K0 hK0 => ?_
  simp only [W, Nat.reduceSub, Nat.reduceAdd, List.replicate]
  unfold spec_l1Cur_among at h
  refine w_seq fun K1 hK1 => ?_
  refine w_reg gC ?_
  try simp only [W, Nat.reduceAdd]
  refine seq_n hK1 ?_
  refine w_seq fun K2 hK2 => ?_
  refine w_reg gC ?_
  try simp only [W, EE, Nat.reduceAdd]
  refine w_call h fun b3 hb3 h => ?_
  obtain ⟨b4, b5⟩ := b3
  try dsimp only at h
  refine spec_l1Cur_pick_w hb3 hS fun H hS => ?_
  try simp only [W, EE]
  refine w_fz rfl rfl rfl (fun _ => rfl) h fun b6 hb6 h => ?_
  try simp only [W, EE]
  refine seq_n hK2 ?_
  refine w_ret ?_
  refine fin_r1 hK0 rfl ?_
  try obtain rfl := Option.some.inj h
  exact hP _ hS
theorem spec_l1Cur_again_w {a0 : L1Cur} {i0 : Nat} {w0 : Nat} {r : (List Again × L1Cur)} (h : spec_l1Cur_again a0 = some r) {F : List It} {H : Heap} (hS : Own H (⟨.ptr i0 w0 0 0, 3, [.agg [.fz (a0.Code.map (AV.int .u8)), .int .i64 a0.At, .int .u64 a0.Seed]]⟩ :: F)) {P : AV → Heap → Prop} (hP : ∀ v100 : AV, isSl v100 → ∀ H', Own H' (⟨v100, 2, r.1.map e_Again⟩ :: ⟨.ptr i0 w0 0 0, 3, [.agg [.fz (r.2.Code.map (AV.int .u8)), .int .i64 r.2.At, .int .u64 r.2.Seed]]⟩ :: F) → P (v100) H') : ACall C 151 [.ptr i0 w0 0 0] H P := by
  refine acall_of gC (res := [.tmp 2]) (n := 49) rfl rfl rfl rfl fun K0 hK0 => ?_
  simp only [W, Nat.reduceSub, Nat.reduceAdd, List.replicate]
  unfold spec_l1Cur_again at h
  refine w_seq fun K1 hK1 => ?_
  refine w_reg gC ?_
  try simp only [W, Nat.reduceAdd]
  refine seq_n hK1 ?_
  refine w_seq fun K2 hK2 => ?_
  refine w_reg gC ?_
  try simp only [W, Nat.reduceAdd]
  refine seq_n hK2 ?_
  refine w_seq fun K3 hK3 => ?_
  refine w_reg gC ?_
  try simp only [W, Nat.reduceAdd]
  refine w_call h fun b4 hb4 h => ?_
  obtain ⟨b5, b6⟩ := b4
  try dsimp only at h
  refine spec_l1Cur_pick_w hb4 hS fun H hS => ?_
  try simp only [W]
  refine seq_n hK3 ?_
  refine w_seq fun K7 hK7 => ?_
  refine w_seq fun K8 hK8 => ?_
  refine w_reg gC ?_
  try simp only [W, Nat.reduceAdd]
  refine w_call h fun b9 hb9 h => ?_
  obtain ⟨b10, b11⟩ := b9
  try dsimp only at h
  refine spec_l1Cur_one_w hb9 hS fun H hS => ?_
  try simp only [W]
  refine seq_n hK8 ?_
  obtain ⟨y16, h, g17⟩ := Option.bind_eq_some_iff.1 h
  refine w_join gC (fun s H => ∃ x12 : Int, ∃ x13 : List Int, ∃ x14 : Int, ∃ x15 : Int, y16 = (x12, x13, x14, x15) ∧ s = [.ptr i0 w0 0 0, u, u, .nil, .int .i64 x12, u, u, u, u, u, u, u, u, u, u, u, u, u, u, u, u, u, u, u, u, u, u, u, u, u, u, u, u, u, u, u, u, u, u, u, u, u, u, u, u, u, u, u, u] ∧ Own H (⟨.ptr i0 w0 0 0, 3, [.agg [.fz (x13.map (AV.int .u8)), .int .i64 x14, .int .u64 x15]]⟩ :: F)) (fun K18 hK18 => ?_) (fun s H hq => ?_)
  · refine w_seq fun K19 hK19 => ?_
    refine w_if ?_
    simp only [W]
    refine w_cnd h (fun hc h => ?_) (fun hc h => ?_)
    · refine w_reg gC ?_
      try simp only [W, Nat.reduceAdd]
      refine w_call h fun b20 hb20 h => ?_
      obtain ⟨b21, b22⟩ := b20
      try dsimp only at h
      refine spec_l1Cur_pick_w hb20 hS fun H hS => ?_
      try simp only [W, EE]
      refine seq_n hK19 ?_
      refine w_kill ?_
      exact cut_n hK18 ⟨_, _, _, _, (Option.some.inj h).symm, rfl, hS⟩
    · refine w_skip ?_
      refine seq_n hK19 ?_
      refine w_kill ?_
      exact cut_n hK18 ⟨_, _, _, _, (Option.some.inj h).symm, rfl, hS⟩
  · obtain ⟨x12, x13, x14, x15, rfl, rfl, hS⟩ := hq
    replace h := g17
    try dsimp only at h
    refine seq_n hK7 ?_
    refine w_seq fun K23 hK23 => ?_
    obtain ⟨y36, hw37, g43⟩ := Option.bind_eq_some_iff.1 h
    refine w_join gC (fun s H => ∃ x31 : List Again, ∃ x33 : List Int, ∃ x34 : Int, ∃ x35 : Int, y36 = (x31, x33, x34, x35) ∧ ∃ v32 : AV, isSl v32 ∧ s = [.ptr i0 w0 0 0, u, u, v32, u, u, u, u, u, u, u, u, u, u, u, u, u, u, u, u, u, u, u, u, u, u, u, u, u, u, u, u, u, u, u, u, u, u, u, u, u, u, u, u, u, u, u, u, u] ∧ Own H (⟨v32, 2, x31.map e_Again⟩ :: ⟨.ptr i0 w0 0 0, 3, [.agg [.fz (x33.map (AV.int .u8)), .int .i64 x34, .int .u64 x35]]⟩ :: F)) (fun K38 hK38 => ?_) (fun s H hq => ?_)
    · refine w_blk fun K39 hK39 => ?_
      refine w_loop gC hw37 (fun x s H => match x with | (x24, x27, x28, x29, x30) => ∃ v25 : AV, isSl v25 ∧ s = [.ptr i0 w0 0 0, u, u, v25, .int .i64 x27, u, u, u, u, u, u, u, u, u, u, u, u, u, u, u, u, u, u, u, u, u, u, u, u, u, u, u, u, u, u, u, u, u, u, u, u, u, u, u, u, u, u, u, u] ∧ Own H (⟨v25, 2, x24.map e_Again⟩ :: ⟨.ptr i0 w0 0 0, 3, [.agg [.fz (x28.map (AV.int .u8)), .int .i64 x29, .int .u64 x30]]⟩ :: F)) ⟨_, isSl_nil, rfl, (hS.nil_ 2)⟩ (fun x y42 s H h hd41 hi K40 hK40 => ?_)
      obtain ⟨x24, x27, x28, x29, x30⟩ := x
      try dsimp only at hi
      obtain ⟨v25, qv25, rfl, hS⟩ := hi
      simp only [spec_l1Cur_again_l0] at h
      refine w_seq fun K44 hK44 => ?_
      refine w_seq fun K45 hK45 => ?_
      refine w_reg gC ?_
      try simp only [W, EE, Nat.reduceAdd]
      refine seq_n hK45 ?_
      refine w_if ?_
      simp only [W]
      refine w_cnd h (fun hc h => ?_) (fun hc h => ?_)
      · refine w_skip ?_
        refine seq_n hK44 ?_
        refine w_seq fun K46 hK46 => ?_
        refine w_blk fun K47 hK47 => ?_
        refine w_seq fun K48 hK48 => ?_
        refine w_reg gC ?_
        try simp only [W, Nat.reduceAdd]
        refine w_call h fun b49 hb49 h => ?_
        obtain ⟨b50, b51⟩ := b49
        try dsimp only at h
        refine spec_l1Cur_pick_w hb49 (hS.sel 2 [1, 0] (by decide)) fun H hS => ?_
        try simp only [W, EE]
        refine w_bld rfl rfl rfl rfl rfl ?_
        try simp only [W]
        refine w_alloc hS rfl rfl fun ip52 wp52 H hS => ?_
        try simp only [W]
        refine w_stv (a := .agg [.int .i64 (IntKind.i64.wrap (1 + b50)), .int .i64 0]) (y' := .agg [.int .i64 (IntKind.i64.wrap (1 + b50)), .int .i64 0]) 0 hS rfl rfl rfl rfl rfl rfl rfl rfl fun H hS => ?_
        try simp only [W]
        refine seq_n hK48 ?_
        refine w_seq fun K54 hK54 => ?_
        refine w_drawL gC [(3, [0, 1]), (7, [])] (by kernel_rfl) rfl (by kernel_rfl) ?_
        try simp only [W, EE, reduceIte, Nat.reduceAdd, Nat.reduceBEq, hS.var 0 rfl, tabAt, qAt, Nat.reduceEqDiff]
        refine w_call h fun b55 hb55 h => ?_
        obtain ⟨b56, b57⟩ := b55
        try dsimp only at h
        refine spec_l1Cur_pick_w hb55 (hS.sel 3 [1, 0, 2] (by decide)) fun H hS => ?_
        refine goK_late ?_
        refine lateG_s (by first | rfl | (simp [evalOp, W, EE, AV.cells, hS.var 1 rfl]; done)) ?_
        refine lateG_s (by first | rfl | (simp [evalOp, W, EE, rdAt, mkT, subL, AV.cells, hS.var 1 rfl]; done)) ?_
        refine lateG_n ?_
        try simp only [W, EE]
        refine w_callS (rsh := [[.sc]]) (ys := [.int .i64 40, .int .i64 (IntKind.i64.wrap ((IntKind.i64.wrap (1 + b50)) + b56))]) h rfl (by rfl) fun b58 hb58 h => ⟨.int .i64 b58, spec_l1Least_w hb58 (Own.nil _) fun H hS => TV_ok rfl (TV_p rfl (TV_n rfl)), ⟨rfl, rfl, fun _ => rfl⟩, ?_⟩
        try simp only [W, EE, Nat.reduceAdd, Nat.reduceBEq, hS.var 1 rfl]
        refine w_stv (a := .int .i64 b58) (y' := .agg [.int .i64 (IntKind.i64.wrap (1 + b50)), .int .i64 b58]) 1 hS rfl rfl rfl rfl rfl rfl rfl rfl fun H hS => ?_
        try simp only [W]
        refine seq_n hK54 ?_
        refine w_reg gC ?_
        try simp only [W, EE, reduceIte, Nat.reduceAdd, Nat.reduceLeDiff, hS.var 1 rfl]
        refine w_lit (el := ([(⟨(IntKind.i64.wrap (1 + b50)), b58⟩ : Again)] : List Again).map e_Again) hS rfl rfl rfl rfl rfl rfl rfl fun v59 H qv59 hS => ?_
        try simp only [W, EE]
        refine w_appV (l := x24) (c := e_Again) 3 hS rfl qv25 rfl rfl rfl (hS.elems 0 rfl qv59) (fun _ => rfl) rfl h fun v62 H x61 qv62 hm h hS => ?_
        try simp only [W]
        refine blk_n0 hK47 ?_
        refine seq_n hK46 ?_
        refine w_reg gC ?_
        try simp only [W, EE, Nat.reduceAdd]
        exact lp_n hK40 h ⟨_, qv62, rfl, (hS.sel 4 [3, 1] (by decide))⟩
      · refine w_exit ?_
        refine seq_x hK44 ?_
        try obtain rfl := Option.some.inj h
        obtain rfl := hd41 _ rfl
        have h : (some (x24, x28, x29, x30) : Option ((List Again) × (List Int) × Int × Int)) = some (x24, x28, x29, x30) := rfl
        refine lp_x hK40 ?_
        refine blk_e hK39 ?_
        exact cut_n hK38 ⟨_, _, _, _, (Option.some.inj h).symm, _, qv25, rfl, hS⟩
    · obtain ⟨x31, x33, x34, x35, rfl, v32, qv32, rfl, hS⟩ := hq
      replace h := g43
      try dsimp only at h
      refine seq_n hK23 ?_
      refine w_seq fun K66 hK66 => ?_
      refine w_seq fun K67 hK67 => ?_
      obtain ⟨y72, h, g73⟩ := Option.bind_eq_some_iff.1 h
      refine w_join gC (fun s H => ∃ x68 : Bool, ∃ x69 : List Int, ∃ x70 : Int, ∃ x71 : Int, y72 = (x68, x69, x70, x71) ∧ s = [.ptr i0 w0 0 0, u, u, v32, u, u, u, u, u, u, u, u, u, u, u, u, u, u, u, u, u, u, u, u, u, u, u, u, u, u, u, u, u, u, u, u, u, u, .bool x68, u, u, u, u, u, u, u, u, u, u] ∧ Own H (⟨v32, 2, x31.map e_Again⟩ :: ⟨.ptr i0 w0 0 0, 3, [.agg [.fz (x69.map (AV.int .u8)), .int .i64 x70, .int .u64 x71]]⟩ :: F)) (fun K74 hK74 => ?_) (fun s H hq => ?_)
      · refine w_seq fun K75 hK75 => ?_
        refine w_reg gC ?_
        try simp only [W, EE, Nat.reduceAdd]
        refine w_len 0 hS rfl qv32 rfl ?_
        try simp only [W, EE]
        refine w_grdT h (fun hc h => ?_) (fun hc h => ?_)
        · try simp only [W, hc]
          refine w_call h fun b76 hb76 h => ?_
          obtain ⟨b77, b78⟩ := b76
          try dsimp only at h
          refine spec_l1Cur_one_w hb76 (hS.sel 2 [1, 0] (by decide)) fun H hS => ?_
          try simp only [W, reduceIte]
          refine seq_n hK75 ?_
          refine w_kill ?_
          exact cut_n hK74 ⟨_, _, _, _, (Option.some.inj h).symm, rfl, (hS.sel 2 [1, 0] (by decide))⟩
        · try simp only [W, hc]
          refine seq_n hK75 ?_
          refine w_kill ?_
          exact cut_n hK74 ⟨_, _, _, _, (Option.some.inj h).symm, rfl, hS⟩
      · obtain ⟨x68, x69, x70, x71, rfl, rfl, hS⟩ := hq
        replace h := g73
        try dsimp only at h
        refine seq_n hK67 ?_
        obtain ⟨y83, h, g84⟩ := Option.bind_eq_some_iff.1 h
        refine w_join gC (fun s H => ∃ x79 : List Again, ∃ x80 : List Int, ∃ x81 : Int, ∃ x82 : Int, y83 = (x79, x80, x81, x82) ∧ s = [u, u, u, v32, u, u, u, u, u, u, u, u, u, u, u, u, u, u, u, u, u, u, u, u, u, u, u, u, u, u, u, u, u, u, u, u, u, u, u, u, u, u, u, u, u, u, u, u, u] ∧ Own H (⟨v32, 2, x79.map e_Again⟩ :: ⟨.ptr i0 w0 0 0, 3, [.agg [.fz (x80.map (AV.int .u8)), .int .i64 x81, .int .u64 x82]]⟩ :: F)) (fun K85 hK85 => ?_) (fun s H hq => ?_)
        · refine w_seq fun K86 hK86 => ?_
          refine w_if ?_
          simp only [W]
          refine w_cnd h (fun hc h => ?_) (fun hc h => ?_)
          · refine w_regF (fz := [(3, [([41], [.sl [.sc]])]), (6, [([44], [.sl [.sc]])])]) gC ?_
            try simp only [W, Nat.reduceAdd, Nat.reduceBEq]
            refine w_lit (el := ([0, 10, 11] : List Int).map (AV.int .i64)) hS rfl rfl rfl rfl rfl rfl rfl fun v87 H qv87 hS => ?_
            try simp only [W, Nat.reduceAdd]
            refine FZ_own 0 hS rfl qv87 rfl (fun _ _ => by simp [takeE, takeT, plainA]) (fun _ => rfl) fun H hsame hS => ?_
            try simp only [W]
            refine w_call h fun b89 hb89 h => ?_
            obtain ⟨b90, b91⟩ := b89
            try dsimp only at h
            refine spec_l1Cur_among_w hb89 (hS.sel 2 [1, 0] (by decide)) fun H hS => ?_
            try simp only [W, Nat.reduceAdd, Nat.reduceBEq]
            refine w_lit (el := ([5, 40, 41] : List Int).map (AV.int .i64)) hS rfl rfl rfl rfl rfl rfl rfl fun v92 H qv92 hS => ?_
            try simp only [W, Nat.reduceAdd, Nat.reduceBEq]
            refine FZ_own 0 hS rfl qv92 rfl (fun _ _ => by simp [takeE, takeT, plainA]) (fun _ => rfl) fun H hsame hS => ?_
            try simp only [W]
            refine w_call h fun b94 hb94 h => ?_
            obtain ⟨b95, b96⟩ := b94
            try dsimp only at h
            refine spec_l1Cur_among_w hb94 hS fun H hS => ?_
            try simp only [W, EE, Nat.reduceAdd, Nat.reduceBEq]
            refine w_bld rfl rfl rfl rfl rfl ?_
            try simp only [W, EE, Nat.reduceAdd, Nat.reduceBEq]
            refine w_ow 1 hS rfl rfl rfl rfl rfl h (fun b97 in98 wn98 on98 hb97 h en98 => ?_) qv32.ne
            obtain ⟨kn98, hbn98, hen98⟩ := hS.elem 1 rfl en98 hb97
            try simp only [W, Nat.reduceAdd, Nat.reduceBEq]
            refine w_ste (a := .agg [.int .i64 b90, .int .i64 b95]) (y' := (⟨b90, b95⟩ : Again)) 1 hS rfl en98 hb97 rfl rfl rfl rfl rfl rfl rfl fun H hS => ?_
            try simp only [W, Nat.reduceAdd]
            refine seq_n hK86 ?_
            refine w_kill ?_
            exact cut_n hK85 ⟨_, _, _, _, (Option.some.inj h).symm, rfl, (hS.sel 2 [1, 0] (by decide))⟩
          · refine w_skip ?_
            refine seq_n hK86 ?_
            refine w_kill ?_
            exact cut_n hK85 ⟨_, _, _, _, (Option.some.inj h).symm, rfl, hS⟩
        · obtain ⟨x79, x80, x81, x82, rfl, rfl, hS⟩ := hq
          replace h := g84
          try dsimp only at h
          refine seq_n hK66 ?_
          refine w_seq fun K99 hK99 => ?_
          refine w_reg gC ?_
          try simp only [W, Nat.reduceAdd]
          refine seq_n hK99 ?_
          refine w_ret ?_
          refine fin_r1 hK0 rfl ?_
          try obtain rfl := Option.some.inj h
          exact hP _ qv32 _ hS
theorem spec_DrawLongestOf_w {a0 : List Int} {r : (List Again × Int)} (h : spec_DrawLongestOf a0 = some r) {F : List It} {H : Heap} (hS : Own H (F)) {P : AV → Heap → Prop} (hP : ∀ v15 : AV, isSl v15 → ∀ H', Own H' (⟨v15, 2, r.1.map e_Again⟩ :: F) → P (.tup [v15, .int .i64 r.2]) H') : ACall C 74 [.fz (a0.map (AV.int .u8))] H P := by
  refine acall_of gC (res := [.tmp 2, .tmp 3]) (n := 18) rfl rfl rfl rfl fun K0 hK0 => ?_
  simp only [W, Nat.reduceSub, Nat.reduceAdd, List.replicate]
  unfold spec_DrawLongestOf at h
  refine w_seq fun K1 hK1 => ?_
  refine w_reg gC ?_
  try simp only [W, Nat.reduceAdd]
  refine seq_n hK1 ?_
  refine w_seq fun K2 hK2 => ?_
  refine w_reg gC ?_
  try simp only [W, EE, Nat.reduceAdd]
  refine w_bld rfl rfl rfl rfl rfl ?_
  try simp only [W]
  refine w_box hS rfl rfl rfl rfl fun ip3 wp3 H hS => ?_
  try simp only [W]
  refine seq_n hK2 ?_
  refine w_seq fun K5 hK5 => ?_
  refine w_reg gC ?_
  try simp only [W, Nat.reduceAdd]
  refine w_call h fun b6 hb6 h => ?_
  obtain ⟨b7, b8⟩ := b6
  try dsimp only at h
  refine spec_l1Cur_again_w hb6 hS fun v9 qv9 H hS => ?_
  try simp only [W]
  refine seq_n hK5 ?_
  refine w_seq fun K11 hK11 => ?_
  refine w_reg gC ?_
  try simp only [W, EE, Nat.reduceAdd]
  refine w_len 0 hS rfl qv9 rfl ?_
  try simp only [W, EE]
  refine w_call h fun b12 hb12 h => ?_
  obtain ⟨b13, b14⟩ := b12
  try dsimp only at h
  refine spec_l1Cur_pick_w hb12 (hS.sel 2 [1, 0] (by decide)) fun H hS => ?_
  try simp only [W, EE]
  refine seq_n hK11 ?_
  refine w_ret ?_
  refine fin_r2 hK0 rfl rfl ?_
  try obtain rfl := Option.some.inj h
  exact hP _ qv9 _ (hS.sel 2 [1] (by decide))
theorem slices_IndexFunc_impl_Again_w {a0 : List Again} {g1 : Again → Option Bool} {f1 : FuncId} {c1 : List AV} {r : (Int)} (h : slices_IndexFunc_impl_Again a0 g1 = some r) {F : List It} {H : Heap} (hg1 : ∀ {x0 : Again} {r : Bool}, g1 x0 = some r → ∀ (L : List It) (n : Nat), L.drop n = F → ∀ (H : Heap), Own H L → ∀ (P : AV → Heap → Prop), (∀ H', Own H' L → P (.bool r) H') → ACall C f1 ([.agg [.int .i64 x0.Need, .int .i64 x0.Every]] ++ c1) H P) (hS : Own H (F)) {P : AV → Heap → Prop} (hP : ∀ H', Own H' (F) → P (.int .i64 r) H') : ACall C 186 [.fz (a0.map e_Again), .fn f1 c1] H P := by
  refine acall_of gC (res := [.tmp 4]) (n := 19) rfl rfl rfl rfl fun K0 hK0 => ?_
  simp only [W, Nat.reduceSub, Nat.reduceAdd, List.replicate]
  unfold slices_IndexFunc_impl_Again at h
  refine w_seq fun K1 hK1 => ?_
  refine w_reg gC ?_
  try simp only [W, Nat.reduceAdd]
  refine seq_n hK1 ?_
  refine w_seq fun K2 hK2 => ?_
  refine w_seq fun K3 hK3 => ?_
  refine w_reg gC ?_
  try simp only [W, EE, Nat.reduceAdd]
  refine seq_n hK3 ?_
  obtain ⟨y5, hw6, g12⟩ := Option.bind_eq_some_iff.1 h
  refine w_join gC (fun s H => y5 = LR.next () ∧ s = [u, u, u, u, u, u, u, u, u, u, u, u, u, u, u, u, u, u, u] ∧ Own H (F)) (fun K7 hK7 => ?_) (fun s H hq => ?_)
  · refine w_blk fun K8 hK8 => ?_
    refine w_loop gC hw6 (fun x s H => s = [.fz (a0.map e_Again), .fn f1 c1, u, u, u, u, u, .int .i64 (a0.length : Int), .int .i64 x, u, u, u, u, u, u, u, u, u, u] ∧ Own H (F)) ⟨rfl, hS⟩ (fun x4 y11 s H h hd10 hi K9 hK9 => ?_)
    skip
    try dsimp only at hi
    obtain ⟨rfl, hS⟩ := hi
    simp only [slices_IndexFunc_impl_Again_l0] at h
    refine w_seq fun K13 hK13 => ?_
    refine w_reg gC ?_
    try simp only [W, EE, Nat.reduceAdd]
    refine seq_n hK13 ?_
    refine w_seq fun K14 hK14 => ?_
    refine w_if ?_
    simp only [W]
    refine w_cnd h (fun hc h => ?_) (fun hc h => ?_)
    · refine w_skip ?_
      refine seq_n hK14 ?_
      refine w_seq fun K15 hK15 => ?_
      refine w_blk fun K16 hK16 => ?_
      refine w_seq fun K17 hK17 => ?_
      refine w_reg gC ?_
      try simp only [W, Nat.reduceAdd]
      refine seq_n hK17 ?_
      refine w_seq fun K18 hK18 => ?_
      refine w_reg gC ?_
      try simp only [W, EE, Nat.reduceAdd]
      refine w_fz rfl rfl rfl (fun _ => rfl) h fun b19 hb19 h => ?_
      try simp only [W, EE, EN, reduceIte, Nat.reduceAdd, Nat.reduceLeDiff]
      refine w_call h fun b20 hb20 h => ?_
      refine hg1 hb20 _ 0 rfl _ hS _ fun H hS => ?_
      try simp only [W]
      refine seq_n hK18 ?_
      refine w_if ?_
      simp only [W]
      refine w_cnd h (fun hc h => ?_) (fun hc h => ?_)
      · refine w_seq fun K21 hK21 => ?_
        refine w_reg gC ?_
        try simp only [W, Nat.reduceAdd]
        refine seq_n hK21 ?_
        refine w_ret ?_
        refine blk_r hK16 ?_
        refine seq_r hK15 ?_
        try obtain rfl := Option.some.inj h
        obtain rfl := hd10 _ rfl
        have h : (some (LR.done x4) : Option (LR Unit (Int))) = some (LR.done x4) := rfl
        refine lp_r hK9 ?_
        refine blk_r hK8 ?_
        try obtain rfl := Option.some.inj h
        obtain rfl := Option.some.inj g12
        have h : (some x4 : Option (Int)) = some x4 := rfl
        refine cut_r hK7 ?_
        refine seq_r hK2 ?_
        refine fin_r1 hK0 rfl ?_
        try obtain rfl := Option.some.inj h
        exact hP _ hS
      · refine w_skip ?_
        refine blk_n0 hK16 ?_
        refine seq_n hK15 ?_
        refine w_reg gC ?_
        try simp only [W, EE, Nat.reduceAdd]
        exact lp_n hK9 h ⟨rfl, hS⟩
    · refine w_exit ?_
      refine seq_x hK14 ?_
      try obtain rfl := Option.some.inj h
      obtain rfl := hd10 _ rfl
      have h : (some (LR.next ()) : Option (LR Unit (Int))) = some (LR.next ()) := rfl
      refine lp_x hK9 ?_
      refine blk_e hK8 ?_
      exact cut_n hK7 ⟨(Option.some.inj h).symm, rfl, hS⟩
  · obtain ⟨rfl, rfl, hS⟩ := hq
    replace h := g12
    try dsimp only at h
    refine seq_n hK2 ?_
    refine w_seq fun K28 hK28 => ?_
    refine w_reg gC ?_
    try simp only [W, Nat.reduceAdd]
    refine seq_n hK28 ?_
    refine w_ret ?_
    refine fin_r1 hK0 rfl ?_
    try obtain rfl := Option.some.inj h
    exact hP _ hS
theorem slices_ContainsFunc_impl_Again_w {a0 : List Again} {g1 : Again → Option Bool} {f1 : FuncId} {c1 : List AV} {r : (Bool)} (h : slices_ContainsFunc_impl_Again a0 g1 = some r) {F : List It} {H : Heap} (hg1 : ∀ {x0 : Again} {r : Bool}, g1 x0 = some r → ∀ (L : List It) (n : Nat), L.drop n = F → ∀ (H : Heap), Own H L → ∀ (P : AV → Heap → Prop), (∀ H', Own H' L → P (.bool r) H') → ACall C f1 ([.agg [.int .i64 x0.Need, .int .i64 x0.Every]] ++ c1) H P) (hS : Own H (F)) {P : AV → Heap → Prop} (hP : ∀ H', Own H' (F) → P (.bool r) H') : ACall C 158 [.fz (a0.map e_Again), .fn f1 c1] H P := by
  refine acall_of gC (res := [.tmp 4]) (n := 9) rfl rfl rfl rfl fun K0 hK0 => ?_
  simp only [W, Nat.reduceSub, Nat.reduceAdd, List.replicate]
  unfold slices_ContainsFunc_impl_Again at h
  refine w_seq fun K1 hK1 => ?_
  refine w_reg gC ?_
  try simp only [W, Nat.reduceAdd]
  refine seq_n hK1 ?_
  refine w_seq fun K2 hK2 => ?_
  refine w_reg gC ?_
  try simp only [W, Nat.reduceAdd]
  refine w_call h fun b3 hb3 h => ?_
  refine slices_IndexFunc_impl_Again_w hb3 hg1 hS fun H hS => ?_
  try simp only [W, EE]
  refine seq_n hK2 ?_
  refine w_ret ?_
  refine fin_r1 hK0 rfl ?_
  try obtain rfl := Option.some.inj h
  exact hP _ hS
theorem impl_in_w {a0 : Int} {a1 : Int} {a2 : Int} {r : (Bool)} (h : impl_in a0 a1 a2 = some r) {F : List It} {H : Heap} (hS : Own H (F)) {P : AV → Heap → Prop} (hP : ∀ H', Own H' (F) → P (.bool r) H') : ACall C 95 [.int .i64 a0, .int .i64 a1, .int .i64 a2] H P := by
  refine acall_of gC (res := [.tmp 6]) (n := 15) rfl rfl rfl rfl fun K0 hK0 => ?_
  simp only [W, Nat.reduceSub, Nat.reduceAdd, List.replicate]
  unfold impl_in at h
  refine w_seq fun K1 hK1 => ?_
  refine w_reg gC ?_
  try simp only [W, Nat.reduceAdd]
  refine seq_n hK1 ?_
  refine w_seq fun K2 hK2 => ?_
  refine w_reg gC ?_
  try simp only [W, EE, Nat.reduceAdd]
  refine w_grdT h (fun hc h => ?_) (fun hc h => ?_)
  · try simp only [W, EE, reduceIte, hc]
    refine seq_n hK2 ?_
    refine w_ret ?_
    refine fin_r1 hK0 rfl ?_
    try obtain rfl := Option.some.inj h
    exact hP _ hS
  · try simp only [W, hc]
    refine seq_n hK2 ?_
    refine w_ret ?_
    refine fin_r1 hK0 rfl ?_
    try obtain rfl := Option.some.inj h
    exact hP _ hS
theorem impl_GoodAgain_1_w {a0 : Again} {r : (Bool)} (h : impl_GoodAgain_1 a0 = some r) {F : List It} {H : Heap} (hS : Own H (F)) {P : AV → Heap → Prop} (hP : ∀ H', Own H' (F) → P (.bool r) H') : ACall C 159 [.agg [.int .i64 a0.Need, .int .i64 a0.Every]] H P := by
  refine acall_of gC (res := [.tmp 2]) (n := 15) rfl rfl rfl rfl fun K0 hK0 => ?_
  simp only [W, Nat.reduceSub, Nat.reduceAdd, List.replicate]
  unfold impl_GoodAgain_1 at h
  refine w_seq fun K1 hK1 => ?_
  refine w_reg gC ?_
  try simp only [W, Nat.reduceAdd]
  refine w_box hS rfl rfl rfl rfl fun ip2 wp2 H hS => ?_
  try simp only [W]
  refine seq_n hK1 ?_
  refine w_seq fun K4 hK4 => ?_
  refine w_reg gC ?_
  try simp only [W, EE, Nat.reduceAdd, Nat.reduceBEq, hS.var 0 rfl]
  refine w_call h fun b5 hb5 h => ?_
  refine impl_in_w hb5 hS fun H hS => ?_
  try simp only [W]
  refine w_grdT h (fun hc h => ?_) (fun hc h => ?_)
  · try simp only [W, hc]
    refine seq_n hK4 ?_
    refine w_ret ?_
    refine fin_r1 hK0 rfl ?_
    try obtain rfl := Option.some.inj h
    exact hP _ (hS.sel 1 [] (by decide))
  · try simp only [W, EE, Nat.reduceAdd, Nat.reduceBEq, hS.var 0 rfl, hc]
    refine w_call h fun b6 hb6 h => ?_
    refine impl_in_w hb6 hS fun H hS => ?_
    try simp only [W, reduceIte, Bool.false_eq_true]
    refine seq_n hK4 ?_
    refine w_ret ?_
    refine fin_r1 hK0 rfl ?_
    try obtain rfl := Option.some.inj h
    exact hP _ (hS.sel 1 [] (by decide))
theorem impl_GoodAgain_w {a0 : List Again} {r : (Bool)} (h : impl_GoodAgain a0 = some r) {F : List It} {H : Heap} (hS : Own H (F)) {P : AV → Heap → Prop} (hP : ∀ H', Own H' (F) → P (.bool r) H') : ACall C 79 [.fz (a0.map e_Again)] H P := by
  refine acall_of gC (res := [.tmp 2]) (n := 11) rfl rfl rfl rfl fun K0 hK0 => ?_
  simp only [W, Nat.reduceSub, Nat.reduceAdd, List.replicate]
  unfold impl_GoodAgain at h
  refine w_seq fun K1 hK1 => ?_
  refine w_reg gC ?_
  try simp only [W, Nat.reduceAdd]
  refine seq_n hK1 ?_
  refine w_seq fun K2 hK2 => ?_
  refine w_reg gC ?_
  try simp only [W, EE, Nat.reduceAdd]
  refine w_grdT h (fun hc h => ?_) (fun hc h => ?_)
  · try simp only [W, hc]
    refine w_call h fun b3 hb3 h => ?_
    refine slices_ContainsFunc_impl_Again_w hb3 (fun h _ n hL _ hS _ hP => impl_GoodAgain_1_w h hS hP) hS fun H hS => ?_
    try simp only [W, reduceIte]
    refine seq_n hK2 ?_
    refine w_ret ?_
    refine fin_r1 hK0 rfl ?_
    try obtain rfl := Option.some.inj h
    exact hP _ hS
  · try simp only [W, hc]
    refine seq_n hK2 ?_
    refine w_ret ?_
    refine fin_r1 hK0 rfl ?_
    try obtain rfl := Option.some.inj h
    exact hP _ hS
theorem impl_isOne_w {a0 : List Again} {a1 : Int} {r : (Bool)} (h : impl_isOne a0 a1 = some r) {F : List It} {H : Heap} (hS : Own H (F)) {P : AV → Heap → Prop} (hP : ∀ H', Own H' (F) → P (.bool r) H') : ACall C 152 [.fz (a0.map e_Again), .int .i64 a1] H P := by
  refine acall_of gC (res := [.tmp 4]) (n := 14) rfl rfl rfl rfl fun K0 hK0 => ?_
  simp only [W, Nat.reduceSub, Nat.reduceAdd, List.replicate]
  unfold impl_isOne at h
  refine w_seq fun K1 hK1 => ?_
  refine w_reg gC ?_
  try simp only [W, Nat.reduceAdd]
  refine seq_n hK1 ?_
  refine w_seq fun K2 hK2 => ?_
  refine w_reg gC ?_
  try simp only [W, Nat.reduceAdd]
  refine w_call h fun b3 hb3 h => ?_
  refine impl_GoodAgain_w hb3 hS fun H hS => ?_
  try simp only [W]
  refine w_grdT h (fun hc h => ?_) (fun hc h => ?_)
  · try simp only [W, EE, hc]
    refine w_call h fun b4 hb4 h => ?_
    refine impl_in_w hb4 hS fun H hS => ?_
    try simp only [W, reduceIte]
    refine seq_n hK2 ?_
    refine w_ret ?_
    refine fin_r1 hK0 rfl ?_
    try obtain rfl := Option.some.inj h
    exact hP _ hS
  · try simp only [W, hc]
    refine seq_n hK2 ?_
    refine w_ret ?_
    refine fin_r1 hK0 rfl ?_
    try obtain rfl := Option.some.inj h
    exact hP _ hS
theorem impl_longest_w {a0 : List Again} {a1 : Int} {r : (Int × Bool)} (h : impl_longest a0 a1 = some r) {F : List It} {H : Heap} (hS : Own H (F)) {P : AV → Heap → Prop} (hP : ∀ H', Own H' (F) → P (.tup [.int .i64 r.1, .bool r.2]) H') : ACall C 153 [.fz (a0.map e_Again), .int .i64 a1] H P := by
  refine acall_of gC (res := [.tmp 4, .tmp 5]) (n := 49) rfl rfl rfl rfl fun K0 hK0 => ?_
  simp only [W, Nat.reduceSub, Nat.reduceAdd, List.replicate]
  unfold impl_longest at h
  refine w_seq fun K1 hK1 => ?_
  refine w_reg gC ?_
  try simp only [W, Nat.reduceAdd]
  refine seq_n hK1 ?_
  refine w_seq fun K2 hK2 => ?_
  refine w_seq fun K3 hK3 => ?_
  refine w_reg gC ?_
  try simp only [W, EE, Nat.reduceAdd]
  refine w_fz rfl rfl rfl (fun _ => rfl) h fun b4 hb4 h => ?_
  try simp only [W, EE, EN, Nat.reduceAdd, Nat.reduceBEq]
  refine seq_n hK3 ?_
  obtain ⟨y6, hw7, g13⟩ := Option.bind_eq_some_iff.1 h
  refine w_join gC (fun s H => y6 = LR.next () ∧ s = [u, u, u, u, u, u, u, u, u, u, u, u, u, u, u, u, u, u, u, u, u, u, u, u, u, u, u, u, u, u, u, u, u, u, u, u, u, u, u, u, u, u, u, u, u, u, u, u, u] ∧ Own H (F)) (fun K8 hK8 => ?_) (fun s H hq => ?_)
  · refine w_blk fun K9 hK9 => ?_
    refine w_loop gC hw7 (fun x s H => s = [.fz (a0.map e_Again), .int .i64 a1, u, u, u, u, .int .i64 x, u, u, u, u, u, u, u, u, u, u, u, u, u, u, u, u, u, u, u, u, u, u, u, u, u, u, u, u, u, u, u, u, u, u, u, u, u, u, u, u, u, u] ∧ Own H (F)) ⟨rfl, hS⟩ (fun x5 y12 s H h hd11 hi K10 hK10 => ?_)
    skip
    try dsimp only at hi
    obtain ⟨rfl, hS⟩ := hi
    simp only [impl_longest_l1] at h
    refine w_seq fun K14 hK14 => ?_
    refine w_seq fun K15 hK15 => ?_
    refine w_reg gC ?_
    try simp only [W, EE, Nat.reduceAdd]
    refine seq_n hK15 ?_
    refine w_if ?_
    simp only [W]
    refine w_cnd h (fun hc h => ?_) (fun hc h => ?_)
    · refine w_skip ?_
      refine seq_n hK14 ?_
      refine w_blk fun K16 hK16 => ?_
      refine w_seq fun K17 hK17 => ?_
      refine w_reg gC ?_
      try simp only [W, EE, Nat.reduceAdd]
      refine w_fz rfl rfl rfl (fun _ => rfl) h fun b18 hb18 h => ?_
      try simp only [W, EE, EN, Nat.reduceAdd, Nat.reduceBEq]
      refine seq_n hK17 ?_
      refine w_seq fun K19 hK19 => ?_
      refine w_seq fun K20 hK20 => ?_
      refine w_reg gC ?_
      try simp only [W, EE, Nat.reduceAdd]
      refine w_slF rfl rfl rfl (fun _ => rfl) h fun x21 hx21 h => ?_
      try simp only [W, EE]
      refine seq_n hK20 ?_
      obtain ⟨y25, hw26, g32⟩ := Option.bind_eq_some_iff.1 h
      refine w_join gC (fun s H => ∃ x24 : Int, y25 = (x24) ∧ s = [.fz (a0.map e_Again), .int .i64 a1, u, u, u, u, .int .i64 x5, .int .i64 x24, u, u, u, u, u, u, u, u, u, u, u, u, u, u, u, u, u, u, u, u, u, u, u, u, u, u, u, u, u, u, u, u, u, u, u, u, u, u, u, u, u] ∧ Own H (F)) (fun K27 hK27 => ?_) (fun s H hq => ?_)
      · refine w_blk fun K28 hK28 => ?_
        refine w_loop gC hw26 (fun x s H => match x with | (x22, x23) => s = [.fz (a0.map e_Again), .int .i64 a1, u, u, u, u, .int .i64 x5, .int .i64 x22, u, u, u, u, u, u, u, u, u, u, u, u, u, u, u, u, .fz (x21.map e_Again), .int .i64 (x21.length : Int), .int .i64 x23, u, u, u, u, u, u, u, u, u, u, u, u, u, u, u, u, u, u, u, u, u, u] ∧ Own H (F)) ⟨rfl, hS⟩ (fun x y31 s H h hd30 hi K29 hK29 => ?_)
        obtain ⟨x22, x23⟩ := x
        try dsimp only at hi
        obtain ⟨rfl, hS⟩ := hi
        simp only [impl_longest_l0] at h
        refine w_seq fun K33 hK33 => ?_
        refine w_reg gC ?_
        try simp only [W, EE, Nat.reduceAdd]
        refine seq_n hK33 ?_
        refine w_seq fun K34 hK34 => ?_
        refine w_if ?_
        simp only [W]
        refine w_cnd h (fun hc h => ?_) (fun hc h => ?_)
        · refine w_skip ?_
          refine seq_n hK34 ?_
          refine w_seq fun K35 hK35 => ?_
          refine w_blk fun K36 hK36 => ?_
          refine w_seq fun K37 hK37 => ?_
          refine w_reg gC ?_
          try simp only [W, EE, Nat.reduceAdd]
          refine w_fz rfl rfl rfl (fun _ => rfl) h fun b38 hb38 h => ?_
          try simp only [W, EE, EN, reduceIte, Nat.reduceAdd, Nat.reduceLeDiff]
          refine w_alloc hS rfl rfl fun ip39 wp39 H hS => ?_
          try simp only [W]
          refine w_stv (a := .agg [.int .i64 b38.Need, .int .i64 b38.Every]) (y' := .agg [.int .i64 b38.Need, .int .i64 b38.Every]) 0 hS rfl rfl rfl rfl rfl rfl rfl rfl fun H hS => ?_
          try simp only [W]
          refine seq_n hK37 ?_
          refine w_draw0 gC (by kernel_rfl) ?_
          try simp only [W, EE, Nat.reduceAdd, Nat.reduceBEq, hS.var 0 rfl]
          refine w_num _ h fun x41 hx41 h => ?_
          try simp only [W, EE]
          refine blk_n0 hK36 ?_
          refine seq_n hK35 ?_
          refine w_reg gC ?_
          try simp only [W, EE, Nat.reduceAdd]
          exact lp_n hK29 h ⟨rfl, (hS.sel 1 [] (by decide))⟩
        · refine w_exit ?_
          refine seq_x hK34 ?_
          try obtain rfl := Option.some.inj h
          obtain rfl := hd30 _ rfl
          have h : (some (x22) : Option (Int)) = some (x22) := rfl
          refine lp_x hK29 ?_
          refine blk_e hK28 ?_
          exact cut_n hK27 ⟨_, (Option.some.inj h).symm, rfl, hS⟩
      · obtain ⟨x24, ey, rfl, hS⟩ := hq; obtain rfl := ey.symm
        replace h := g32
        try dsimp only at h
        refine seq_n hK19 ?_
        refine w_seq fun K44 hK44 => ?_
        refine w_seq fun K45 hK45 => ?_
        refine w_reg gC ?_
        try simp only [W, EE, Nat.reduceAdd]
        refine seq_n hK45 ?_
        refine w_if ?_
        simp only [W]
        refine w_cnd h (fun hc h => ?_) (fun hc h => ?_)
        · refine w_seq fun K46 hK46 => ?_
          refine w_reg gC ?_
          try simp only [W, Nat.reduceAdd]
          refine seq_n hK46 ?_
          refine w_ret ?_
          refine seq_r hK44 ?_
          refine blk_r hK16 ?_
          try obtain rfl := Option.some.inj h
          obtain rfl := hd11 _ rfl
          have h : (some (LR.done (x5, true)) : Option (LR Unit (Int × Bool))) = some (LR.done (x5, true)) := rfl
          refine lp_r hK10 ?_
          refine blk_r hK9 ?_
          try obtain rfl := Option.some.inj h
          obtain rfl := Option.some.inj g13
          have h : (some (x5, true) : Option (Int × Bool)) = some (x5, true) := rfl
          refine cut_r hK8 ?_
          refine seq_r hK2 ?_
          refine fin_r2 hK0 rfl rfl ?_
          try obtain rfl := Option.some.inj h
          exact hP _ hS
        · refine w_skip ?_
          refine seq_n hK44 ?_
          refine w_reg gC ?_
          try simp only [W, Nat.reduceAdd]
          refine blk_n0 hK16 ?_
          exact lp_n hK10 h ⟨rfl, hS⟩
    · refine w_exit ?_
      refine seq_x hK14 ?_
      try obtain rfl := Option.some.inj h
      obtain rfl := hd11 _ rfl
      have h : (some (LR.next ()) : Option (LR Unit (Int × Bool))) = some (LR.next ()) := rfl
      refine lp_x hK10 ?_
      refine blk_e hK9 ?_
      exact cut_n hK8 ⟨(Option.some.inj h).symm, rfl, hS⟩
  · obtain ⟨rfl, rfl, hS⟩ := hq
    replace h := g13
    try dsimp only at h
    refine seq_n hK2 ?_
    refine w_seq fun K53 hK53 => ?_
    refine w_reg gC ?_
    try simp only [W, Nat.reduceAdd]
    refine seq_n hK53 ?_
    refine w_ret ?_
    refine fin_r2 hK0 rfl rfl ?_
    try obtain rfl := Option.some.inj h
    exact hP _ hS
theorem impl_LongestOf_w {a0 : List Again} {a1 : Int} {r : (Int × Bool × Bool)} (h : impl_LongestOf a0 a1 = some r) {F : List It} {H : Heap} (hS : Own H (F)) {P : AV → Heap → Prop} (hP : ∀ H', Own H' (F) → P (.tup [.int .i64 r.1, .bool r.2.1, .bool r.2.2]) H') : ACall C 75 [.fz (a0.map e_Again), .int .i64 a1] H P := by
  refine acall_of gC (res := [.tmp 4, .tmp 5, .tmp 6]) (n := 21) rfl rfl rfl rfl fun K0 hK0 => ?_
  simp only [W, Nat.reduceSub, Nat.reduceAdd, List.replicate]
  unfold impl_LongestOf at h
  refine w_seq fun K1 hK1 => ?_
  refine w_reg gC ?_
  try simp only [W, Nat.reduceAdd]
  refine seq_n hK1 ?_
  refine w_seq fun K2 hK2 => ?_
  refine w_seq fun K3 hK3 => ?_
  refine w_reg gC ?_
  try simp only [W, Nat.reduceAdd]
  refine w_call h fun b4 hb4 h => ?_
  refine impl_isOne_w hb4 hS fun H hS => ?_
  try simp only [W]
  refine seq_n hK3 ?_
  refine w_if ?_
  simp only [W]
  refine w_cnd h (fun hc h => ?_) (fun hc h => ?_)
  · refine w_seq fun K5 hK5 => ?_
    refine w_reg gC ?_
    try simp only [W, Nat.reduceAdd]
    refine seq_n hK5 ?_
    refine w_ret ?_
    refine seq_r hK2 ?_
    refine fin_r3 hK0 rfl rfl rfl ?_
    try obtain rfl := Option.some.inj h
    exact hP _ hS
  · refine w_skip ?_
    refine seq_n hK2 ?_
    refine w_seq fun K6 hK6 => ?_
    refine w_reg gC ?_
    try simp only [W, Nat.reduceAdd]
    refine w_call h fun b7 hb7 h => ?_
    obtain ⟨b8, b9⟩ := b7
    try dsimp only at h
    refine impl_longest_w hb7 hS fun H hS => ?_
    try simp only [W]
    refine seq_n hK6 ?_
    refine w_seq fun K10 hK10 => ?_
    refine w_reg gC ?_
    try simp only [W, Nat.reduceAdd]
    refine seq_n hK10 ?_
    refine w_ret ?_
    refine fin_r3 hK0 rfl rfl rfl ?_
    try obtain rfl := Option.some.inj h
    exact hP _ hS
theorem spec_l1In_w {a0 : Int} {a1 : Int} {a2 : Int} {r : (Bool)} (h : spec_l1In a0 a1 a2 = some r) {F : List It} {H : Heap} (hS : Own H (F)) {P : AV → Heap → Prop} (hP : ∀ H', Own H' (F) → P (.bool r) H') : ACall C 86 [.int .i64 a0, .int .i64 a1, .int .i64 a2] H P := by
  refine acall_of gC (res := [.tmp 6]) (n := 15) rfl rfl rfl rfl fun K0 hK0 => ?_
  simp only [W, Nat.reduceSub, Nat.reduceAdd, List.replicate]
  unfold spec_l1In at h
  refine w_seq fun K1 hK1 => ?_
  refine w_reg gC ?_
  try simp only [W, Nat.reduceAdd]
  refine seq_n hK1 ?_
  refine w_seq fun K2 hK2 => ?_
  refine w_reg gC ?_
  try simp only [W, EE, Nat.reduceAdd]
  refine w_grdT h (fun hc h => ?_) (fun hc h => ?_)
  · try simp only [W, EE, reduceIte, hc]
    refine seq_n hK2 ?_
    refine w_ret ?_
    refine fin_r1 hK0 rfl ?_
    try obtain rfl := Option.some.inj h
    exact hP _ hS
  · try simp only [W, hc]
    refine seq_n hK2 ?_
    refine w_ret ?_
    refine fin_r1 hK0 rfl ?_
    try obtain rfl := Option.some.inj h
    exact hP _ hS
theorem spec_GoodAgain_w {a0 : List Again} {r : (Bool)} (h : spec_GoodAgain a0 = some r) {F : List It} {H : Heap} (hS : Own H (F)) {P : AV → Heap → Prop} (hP : ∀ H', Own H' (F) → P (.bool r) H') : ACall C 80 [.fz (a0.map e_Again)] H P := by
  refine acall_of gC (res := [.tmp 2]) (n := 27) rfl rfl rfl rfl fun K0 hK0 => ?_
  simp only [W, Nat.reduceSub, Nat.reduceAdd, List.replicate]
  unfold spec_GoodAgain at h
  refine w_seq fun K1 hK1 => ?_
  refine w_reg gC ?_
  try simp only [W, Nat.reduceAdd]
  refine seq_n hK1 ?_
  refine w_seq fun K2 hK2 => ?_
  refine w_seq fun K3 hK3 => ?_
  refine w_reg gC ?_
  try simp only [W, EE, Nat.reduceAdd]
  refine seq_n hK3 ?_
  obtain ⟨y5, hw6, g12⟩ := Option.bind_eq_some_iff.1 h
  refine w_join gC (fun s H => y5 = LR.next () ∧ s = [.fz (a0.map e_Again), u, u, u, u, u, u, u, u, u, u, u, u, u, u, u, u, u, u, u, u, u, u, u, u, u, u] ∧ Own H (F)) (fun K7 hK7 => ?_) (fun s H hq => ?_)
  · refine w_blk fun K8 hK8 => ?_
    refine w_loop gC hw6 (fun x s H => s = [.fz (a0.map e_Again), u, u, u, u, .fz (a0.map e_Again), .int .i64 (a0.length : Int), .int .i64 x, u, u, u, u, u, u, u, u, u, u, u, u, u, u, u, u, u, u, u] ∧ Own H (F)) ⟨rfl, hS⟩ (fun x4 y11 s H h hd10 hi K9 hK9 => ?_)
    skip
    try dsimp only at hi
    obtain ⟨rfl, hS⟩ := hi
    simp only [spec_GoodAgain_l0] at h
    refine w_seq fun K13 hK13 => ?_
    refine w_reg gC ?_
    try simp only [W, EE, Nat.reduceAdd]
    refine seq_n hK13 ?_
    refine w_seq fun K14 hK14 => ?_
    refine w_if ?_
    simp only [W]
    refine w_cnd h (fun hc h => ?_) (fun hc h => ?_)
    · refine w_skip ?_
      refine seq_n hK14 ?_
      refine w_seq fun K15 hK15 => ?_
      refine w_blk fun K16 hK16 => ?_
      refine w_seq fun K17 hK17 => ?_
      refine w_reg gC ?_
      try simp only [W, EE, Nat.reduceAdd]
      refine w_fz rfl rfl rfl (fun _ => rfl) h fun b18 hb18 h => ?_
      try simp only [W, EE, EN, reduceIte, Nat.reduceAdd, Nat.reduceLeDiff]
      refine w_alloc hS rfl rfl fun ip19 wp19 H hS => ?_
      try simp only [W]
      refine w_stv (a := .agg [.int .i64 b18.Need, .int .i64 b18.Every]) (y' := .agg [.int .i64 b18.Need, .int .i64 b18.Every]) 0 hS rfl rfl rfl rfl rfl rfl rfl rfl fun H hS => ?_
      try simp only [W]
      refine seq_n hK17 ?_
      refine w_seq fun K21 hK21 => ?_
      obtain ⟨y23, h, g24⟩ := Option.bind_eq_some_iff.1 h
      refine w_join gC (fun s H => ∃ x22 : Bool, y23 = (x22) ∧ s = [.fz (a0.map e_Again), u, u, u, u, .fz (a0.map e_Again), .int .i64 (a0.length : Int), .int .i64 x4, u, u, u, u, u, u, u, u, u, u, u, u, u, u, .bool x22, u, u, u, u] ∧ Own H (F)) (fun K25 hK25 => ?_) (fun s H hq => ?_)
      · refine w_seq fun K26 hK26 => ?_
        refine w_reg gC ?_
        try simp only [W, EE, Nat.reduceAdd, Nat.reduceBEq, hS.var 0 rfl]
        refine w_call h fun b27 hb27 h => ?_
        refine spec_l1In_w hb27 hS fun H hS => ?_
        try simp only [W]
        refine w_grdT h (fun hc h => ?_) (fun hc h => ?_)
        · try simp only [W, hc]
          refine seq_n hK26 ?_
          refine w_kill ?_
          exact cut_n hK25 ⟨_, (Option.some.inj h).symm, rfl, (hS.sel 1 [] (by decide))⟩
        · try simp only [W, EE, Nat.reduceAdd, Nat.reduceBEq, hS.var 0 rfl, hc]
          refine w_call h fun b28 hb28 h => ?_
          refine spec_l1In_w hb28 hS fun H hS => ?_
          try simp only [W, reduceIte, Bool.false_eq_true]
          refine seq_n hK26 ?_
          refine w_kill ?_
          exact cut_n hK25 ⟨_, (Option.some.inj h).symm, rfl, (hS.sel 1 [] (by decide))⟩
      · obtain ⟨x22, ey, rfl, hS⟩ := hq; obtain rfl := ey.symm
        replace h := g24
        try dsimp only at h
        refine seq_n hK21 ?_
        refine w_if ?_
        simp only [W]
        refine w_cnd h (fun hc h => ?_) (fun hc h => ?_)
        · refine w_seq fun K29 hK29 => ?_
          refine w_reg gC ?_
          try simp only [W, Nat.reduceAdd]
          refine seq_n hK29 ?_
          refine w_ret ?_
          refine blk_r hK16 ?_
          refine seq_r hK15 ?_
          try obtain rfl := Option.some.inj h
          obtain rfl := hd10 _ rfl
          have h : (some (LR.done false) : Option (LR Unit (Bool))) = some (LR.done false) := rfl
          refine lp_r hK9 ?_
          refine blk_r hK8 ?_
          try obtain rfl := Option.some.inj h
          obtain rfl := Option.some.inj g12
          have h : (some false : Option (Bool)) = some false := rfl
          refine cut_r hK7 ?_
          refine seq_r hK2 ?_
          refine fin_r1 hK0 rfl ?_
          try obtain rfl := Option.some.inj h
          exact hP _ hS
        · refine w_skip ?_
          refine blk_n0 hK16 ?_
          refine seq_n hK15 ?_
          refine w_reg gC ?_
          try simp only [W, EE, Nat.reduceAdd]
          exact lp_n hK9 h ⟨rfl, hS⟩
    · refine w_exit ?_
      refine seq_x hK14 ?_
      try obtain rfl := Option.some.inj h
      obtain rfl := hd10 _ rfl
      have h : (some (LR.next ()) : Option (LR Unit (Bool))) = some (LR.next ()) := rfl
      refine lp_x hK9 ?_
      refine blk_e hK8 ?_
      exact cut_n hK7 ⟨(Option.some.inj h).symm, rfl, hS⟩
  · obtain ⟨rfl, rfl, hS⟩ := hq
    replace h := g12
    try dsimp only at h
    refine seq_n hK2 ?_
    refine w_seq fun K36 hK36 => ?_
    refine w_reg gC ?_
    try simp only [W, EE, Nat.reduceAdd]
    refine seq_n hK36 ?_
    refine w_ret ?_
    refine fin_r1 hK0 rfl ?_
    try obtain rfl := Option.some.inj h
    exact hP _ hS
theorem spec_l6There_w {a0 : List Again} {a1 : Int} {r : (Bool)} (h : spec_l6There a0 a1 = some r) {F : List It} {H : Heap} (hS : Own H (F)) {P : AV → Heap → Prop} (hP : ∀ H', Own H' (F) → P (.bool r) H') : ACall C 154 [.fz (a0.map e_Again), .int .i64 a1] H P := by
  refine acall_of gC (res := [.tmp 4]) (n := 17) rfl rfl rfl rfl fun K0 hK0 => ?_
  simp only [W, Nat.reduceSub, Nat.reduceAdd, List.replicate]
  unfold spec_l6There at h
  refine w_seq fun K1 hK1 => ?_
  refine w_reg gC ?_
  try simp only [W, Nat.reduceAdd]
  refine seq_n hK1 ?_
  refine w_seq fun K2 hK2 => ?_
  refine w_reg gC ?_
  try simp only [W, Nat.reduceAdd]
  refine w_call h fun b3 hb3 h => ?_
  refine spec_GoodAgain_w hb3 hS fun H hS => ?_
  try simp only [W]
  refine w_grdT h (fun hc h => ?_) (fun hc h => ?_)
  · try simp only [W, EE, reduceIte, hc]
    refine w_grdT h (fun hc h => ?_) (fun hc h => ?_)
    · try simp only [W, EE, reduceIte, hc]
      refine seq_n hK2 ?_
      refine w_ret ?_
      refine fin_r1 hK0 rfl ?_
      try obtain rfl := Option.some.inj h
      exact hP _ hS
    · try simp only [W, hc]
      refine seq_n hK2 ?_
      refine w_ret ?_
      refine fin_r1 hK0 rfl ?_
      try obtain rfl := Option.some.inj h
      exact hP _ hS
  · try simp only [W, hc]
    refine seq_n hK2 ?_
    refine w_ret ?_
    refine fin_r1 hK0 rfl ?_
    try obtain rfl := Option.some.inj h
    exact hP _ hS
theorem spec_l6Longest_w {a0 : List Again} {a1 : Int} {r : (Int)} (h : spec_l6Longest a0 a1 = some r) {F : List It} {H : Heap} (hS : Own H (F)) {P : AV → Heap → Prop} (hP : ∀ H', Own H' (F) → P (.int .i64 r) H') : ACall C 155 [.fz (a0.map e_Again), .int .i64 a1] H P := by
  refine acall_of gC (res := [.tmp 4]) (n := 48) rfl rfl rfl rfl fun K0 hK0 => ?_
  simp only [W, Nat.reduceSub, Nat.reduceAdd, List.replicate]
  unfold spec_l6Longest at h
  refine w_seq fun K1 hK1 => ?_
  refine w_reg gC ?_
  try simp only [W, Nat.reduceAdd]
  refine seq_n hK1 ?_
  refine w_seq fun K2 hK2 => ?_
  refine w_reg gC ?_
  try simp only [W, EE, Nat.reduceAdd]
  refine w_fz rfl rfl rfl (fun _ => rfl) h fun b3 hb3 h => ?_
  try simp only [W, EE, EN, Nat.reduceAdd, Nat.reduceBEq]
  refine seq_n hK2 ?_
  refine w_seq fun K4 hK4 => ?_
  obtain ⟨y6, hw7, g13⟩ := Option.bind_eq_some_iff.1 h
  refine w_join gC (fun s H => y6 = LR.next () ∧ s = [u, u, u, u, u, u, u, u, u, u, u, u, u, u, u, u, u, u, u, u, u, u, u, u, u, u, u, u, u, u, u, u, u, u, u, u, u, u, u, u, u, u, u, u, u, u, u, u] ∧ Own H (F)) (fun K8 hK8 => ?_) (fun s H hq => ?_)
  · refine w_blk fun K9 hK9 => ?_
    refine w_loop gC hw7 (fun x s H => s = [.fz (a0.map e_Again), .int .i64 a1, u, u, u, .int .i64 x, u, u, u, u, u, u, u, u, u, u, u, u, u, u, u, u, u, u, u, u, u, u, u, u, u, u, u, u, u, u, u, u, u, u, u, u, u, u, u, u, u, u] ∧ Own H (F)) ⟨rfl, hS⟩ (fun x5 y12 s H h hd11 hi K10 hK10 => ?_)
    skip
    try dsimp only at hi
    obtain ⟨rfl, hS⟩ := hi
    simp only [spec_l6Longest_l1] at h
    refine w_seq fun K14 hK14 => ?_
    refine w_seq fun K15 hK15 => ?_
    refine w_reg gC ?_
    try simp only [W, EE, Nat.reduceAdd]
    refine seq_n hK15 ?_
    refine w_if ?_
    simp only [W]
    refine w_cnd h (fun hc h => ?_) (fun hc h => ?_)
    · refine w_skip ?_
      refine seq_n hK14 ?_
      refine w_blk fun K16 hK16 => ?_
      refine w_seq fun K17 hK17 => ?_
      refine w_reg gC ?_
      try simp only [W, EE, Nat.reduceAdd]
      refine w_fz rfl rfl rfl (fun _ => rfl) h fun b18 hb18 h => ?_
      try simp only [W, EE, EN, Nat.reduceAdd, Nat.reduceBEq]
      refine seq_n hK17 ?_
      refine w_seq fun K19 hK19 => ?_
      refine w_seq fun K20 hK20 => ?_
      refine w_reg gC ?_
      try simp only [W, EE, Nat.reduceAdd]
      refine w_slF rfl rfl rfl (fun _ => rfl) h fun x21 hx21 h => ?_
      try simp only [W, EE]
      refine seq_n hK20 ?_
      obtain ⟨y25, hw26, g32⟩ := Option.bind_eq_some_iff.1 h
      refine w_join gC (fun s H => ∃ x24 : Int, y25 = (x24) ∧ s = [.fz (a0.map e_Again), .int .i64 a1, u, u, u, .int .i64 x5, .int .i64 x24, u, u, u, u, u, u, u, u, u, u, u, u, u, u, u, u, u, u, u, u, u, u, u, u, u, u, u, u, u, u, u, u, u, u, u, u, u, u, u, u, u] ∧ Own H (F)) (fun K27 hK27 => ?_) (fun s H hq => ?_)
      · refine w_blk fun K28 hK28 => ?_
        refine w_loop gC hw26 (fun x s H => match x with | (x22, x23) => s = [.fz (a0.map e_Again), .int .i64 a1, u, u, u, .int .i64 x5, .int .i64 x22, u, u, u, u, u, u, u, u, u, u, u, u, u, u, u, u, .fz (x21.map e_Again), .int .i64 (x21.length : Int), .int .i64 x23, u, u, u, u, u, u, u, u, u, u, u, u, u, u, u, u, u, u, u, u, u, u] ∧ Own H (F)) ⟨rfl, hS⟩ (fun x y31 s H h hd30 hi K29 hK29 => ?_)
        obtain ⟨x22, x23⟩ := x
        try dsimp only at hi
        obtain ⟨rfl, hS⟩ := hi
        simp only [spec_l6Longest_l0] at h
        refine w_seq fun K33 hK33 => ?_
        refine w_reg gC ?_
        try simp only [W, EE, Nat.reduceAdd]
        refine seq_n hK33 ?_
        refine w_seq fun K34 hK34 => ?_
        refine w_if ?_
        simp only [W]
        refine w_cnd h (fun hc h => ?_) (fun hc h => ?_)
        · refine w_skip ?_
          refine seq_n hK34 ?_
          refine w_seq fun K35 hK35 => ?_
          refine w_blk fun K36 hK36 => ?_
          refine w_seq fun K37 hK37 => ?_
          refine w_reg gC ?_
          try simp only [W, EE, Nat.reduceAdd]
          refine w_fz rfl rfl rfl (fun _ => rfl) h fun b38 hb38 h => ?_
          try simp only [W, EE, EN, reduceIte, Nat.reduceAdd, Nat.reduceLeDiff]
          refine w_alloc hS rfl rfl fun ip39 wp39 H hS => ?_
          try simp only [W]
          refine w_stv (a := .agg [.int .i64 b38.Need, .int .i64 b38.Every]) (y' := .agg [.int .i64 b38.Need, .int .i64 b38.Every]) 0 hS rfl rfl rfl rfl rfl rfl rfl rfl fun H hS => ?_
          try simp only [W]
          refine seq_n hK37 ?_
          refine w_draw0 gC (by kernel_rfl) ?_
          try simp only [W, EE, Nat.reduceAdd, Nat.reduceBEq, hS.var 0 rfl]
          refine w_num _ h fun x41 hx41 h => ?_
          try simp only [W, EE]
          refine blk_n0 hK36 ?_
          refine seq_n hK35 ?_
          refine w_reg gC ?_
          try simp only [W, EE, Nat.reduceAdd]
          exact lp_n hK29 h ⟨rfl, (hS.sel 1 [] (by decide))⟩
        · refine w_exit ?_
          refine seq_x hK34 ?_
          try obtain rfl := Option.some.inj h
          obtain rfl := hd30 _ rfl
          have h : (some (x22) : Option (Int)) = some (x22) := rfl
          refine lp_x hK29 ?_
          refine blk_e hK28 ?_
          exact cut_n hK27 ⟨_, (Option.some.inj h).symm, rfl, hS⟩
      · obtain ⟨x24, ey, rfl, hS⟩ := hq; obtain rfl := ey.symm
        replace h := g32
        try dsimp only at h
        refine seq_n hK19 ?_
        refine w_seq fun K44 hK44 => ?_
        refine w_seq fun K45 hK45 => ?_
        refine w_reg gC ?_
        try simp only [W, EE, Nat.reduceAdd]
        refine seq_n hK45 ?_
        refine w_if ?_
        simp only [W]
        refine w_cnd h (fun hc h => ?_) (fun hc h => ?_)
        · refine w_seq fun K46 hK46 => ?_
          refine w_reg gC ?_
          try simp only [W, Nat.reduceAdd]
          refine seq_n hK46 ?_
          refine w_ret ?_
          refine seq_r hK44 ?_
          refine blk_r hK16 ?_
          try obtain rfl := Option.some.inj h
          obtain rfl := hd11 _ rfl
          have h : (some (LR.done x5) : Option (LR Unit (Int))) = some (LR.done x5) := rfl
          refine lp_r hK10 ?_
          refine blk_r hK9 ?_
          try obtain rfl := Option.some.inj h
          obtain rfl := Option.some.inj g13
          have h : (some x5 : Option (Int)) = some x5 := rfl
          refine cut_r hK8 ?_
          refine seq_r hK4 ?_
          refine fin_r1 hK0 rfl ?_
          try obtain rfl := Option.some.inj h
          exact hP _ hS
        · refine w_skip ?_
          refine seq_n hK44 ?_
          refine w_reg gC ?_
          try simp only [W, Nat.reduceAdd]
          refine blk_n0 hK16 ?_
          exact lp_n hK10 h ⟨rfl, hS⟩
    · refine w_exit ?_
      refine seq_x hK14 ?_
      try obtain rfl := Option.some.inj h
      obtain rfl := hd11 _ rfl
      have h : (some (LR.next ()) : Option (LR Unit (Int))) = some (LR.next ()) := rfl
      refine lp_x hK10 ?_
      refine blk_e hK9 ?_
      exact cut_n hK8 ⟨(Option.some.inj h).symm, rfl, hS⟩
  · obtain ⟨rfl, rfl, hS⟩ := hq
    replace h := g13
    try dsimp only at h
    refine seq_n hK4 ?_
    refine w_seq fun K53 hK53 => ?_
    refine w_reg gC ?_
    try simp only [W, Nat.reduceAdd]
    refine seq_n hK53 ?_
    refine w_ret ?_
    refine fin_r1 hK0 rfl ?_
    try obtain rfl := Option.some.inj h
    exact hP _ hS
theorem spec_LongestOf_w {a0 : List Again} {a1 : Int} {r : (Int × Bool × Bool)} (h : spec_LongestOf a0 a1 = some r) {F : List It} {H : Heap} (hS : Own H (F)) {P : AV → Heap → Prop} (hP : ∀ H', Own H' (F) → P (.tup [.int .i64 r.1, .bool r.2.1, .bool r.2.2]) H') : ACall C 76 [.fz (a0.map e_Again), .int .i64 a1] H P := by
  refine acall_of gC (res := [.tmp 4, .tmp 5, .tmp 6]) (n := 18) rfl rfl rfl rfl fun K0 hK0 => ?_
  simp only [W, Nat.reduceSub, Nat.reduceAdd, List.replicate]
  unfold spec_LongestOf at h
  refine w_seq fun K1 hK1 => ?_
  refine w_reg gC ?_
  try simp only [W, Nat.reduceAdd]
  refine seq_n hK1 ?_
  refine w_seq fun K2 hK2 => ?_
  refine w_seq fun K3 hK3 => ?_
  refine w_reg gC ?_
  try simp only [W, Nat.reduceAdd]
  refine w_call h fun b4 hb4 h => ?_
  refine spec_l6There_w hb4 hS fun H hS => ?_
  try simp only [W]
  refine seq_n hK3 ?_
  refine w_if ?_
  simp only [W]
  refine w_cnd h (fun hc h => ?_) (fun hc h => ?_)
  · refine w_seq fun K5 hK5 => ?_
    refine w_reg gC ?_
    try simp only [W, Nat.reduceAdd]
    refine seq_n hK5 ?_
    refine w_ret ?_
    refine seq_r hK2 ?_
    refine fin_r3 hK0 rfl rfl rfl ?_
    try obtain rfl := Option.some.inj h
    exact hP _ hS
  · refine w_skip ?_
    refine seq_n hK2 ?_
    refine w_seq fun K6 hK6 => ?_
    refine w_reg gC ?_
    try simp only [W, Nat.reduceAdd]
    refine w_call h fun b7 hb7 h => ?_
    refine spec_l6Longest_w hb7 hS fun H hS => ?_
    try simp only [W]
    refine seq_n hK6 ?_
    refine w_seq fun K8 hK8 => ?_
    refine w_seq fun K9 hK9 => ?_
    refine w_reg gC ?_
    try simp only [W, EE, Nat.reduceAdd]
    refine seq_n hK9 ?_
    refine w_if ?_
    simp only [W]
    refine w_cnd h (fun hc h => ?_) (fun hc h => ?_)
    · refine w_seq fun K10 hK10 => ?_
      refine w_reg gC ?_
      try simp only [W, Nat.reduceAdd]
      refine seq_n hK10 ?_
      refine w_ret ?_
      refine seq_r hK8 ?_
      refine fin_r3 hK0 rfl rfl rfl ?_
      try obtain rfl := Option.some.inj h
      exact hP _ hS
    · refine w_skip ?_
      refine seq_n hK8 ?_
      refine w_seq fun K11 hK11 => ?_
      refine w_reg gC ?_
      try simp only [W, Nat.reduceAdd]
      refine seq_n hK11 ?_
      refine w_ret ?_
      refine fin_r3 hK0 rfl rfl rfl ?_
      try obtain rfl := Option.some.inj h
      exact hP _ hS
theorem impl_run_w {a0 : List Again} {a1 : Int} {r : (List Int)} (h : impl_run a0 a1 = some r) {F : List It} {H : Heap} (hS : Own H (F)) {P : AV → Heap → Prop} (hP : ∀ v103 : AV, isSl v103 → ∀ H', Own H' (⟨v103, 1, r.map (AV.int .i64)⟩ :: F) → P (v103) H') : ACall C 156 [.fz (a0.map e_Again), .int .i64 a1] H P := by
  refine acall_of gC (res := [.tmp 4]) (n := 64) rfl rfl rfl rfl fun K0 hK0 => ?_
  simp only [W, Nat.reduceSub, Nat.reduceAdd, List.replicate]
  unfold impl_run at h
  refine w_seq fun K1 hK1 => ?_
  refine w_reg gC ?_
  try simp only [W, Nat.reduceAdd]
  refine seq_n hK1 ?_
  refine w_seq fun K2 hK2 => ?_
  refine w_draw0 gC (by kernel_rfl) ?_
  try simp only [W, Nat.reduceAdd]
  refine w_lit0 rfl rfl ?_
  try simp only [W, EE]
  refine w_make (c := (AV.int .i64)) hS rfl rfl rfl rfl rfl rfl h fun v3 H x5 qv3 hm h hS => ?_
  try simp only [W]
  refine seq_n hK2 ?_
  refine w_seq fun K6 hK6 => ?_
  refine w_seq fun K7 hK7 => ?_
  refine w_reg gC ?_
  try simp only [W, Nat.reduceAdd]
  refine seq_n hK7 ?_
  obtain ⟨y15, hw16, g22⟩ := Option.bind_eq_some_iff.1 h
  refine w_join gC (fun s H => ∃ x13 : List Int, y15 = (x13) ∧ ∃ v14 : AV, isSl v14 ∧ s = [u, u, u, u, u, v14, u, u, u, u, u, u, u, u, u, u, u, u, u, u, u, u, u, u, u, u, u, u, u, u, u, u, u, u, u, u, u, u, u, u, u, u, u, u, u, u, u, u, u, u, u, u, u, u, u, u, u, u, u, u, u, u, u, u] ∧ Own H (⟨v14, 1, x13.map (AV.int .i64)⟩ :: F)) (fun K17 hK17 => ?_) (fun s H hq => ?_)
  · refine w_blk fun K18 hK18 => ?_
    refine w_loop gC hw16 (fun x s H => match x with | (x8, x11, x12) => ∃ v9 : AV, isSl v9 ∧ s = [.fz (a0.map e_Again), u, u, u, u, v9, v3, u, u, u, u, u, u, u, u, .int .i64 a1, .int .i64 x12, u, u, u, u, u, u, u, u, u, u, u, u, u, u, u, u, u, u, u, u, u, u, u, u, u, u, u, u, u, u, u, u, u, u, u, u, u, u, u, u, u, u, u, u, u, u, u] ∧ Own H (⟨v9, 1, x8.map (AV.int .i64)⟩ :: ⟨v3, 1, x11.map (AV.int .i64)⟩ :: F)) ⟨_, isSl_e0, rfl, (hS.e0_ 1)⟩ (fun x y21 s H h hd20 hi K19 hK19 => ?_)
    obtain ⟨x8, x11, x12⟩ := x
    try dsimp only at hi
    obtain ⟨v9, qv9, rfl, hS⟩ := hi
    simp only [impl_run_l1] at h
    refine w_seq fun K23 hK23 => ?_
    refine w_reg gC ?_
    try simp only [W, EE, Nat.reduceAdd]
    refine seq_n hK23 ?_
    refine w_seq fun K24 hK24 => ?_
    refine w_if ?_
    simp only [W]
    refine w_cnd h (fun hc h => ?_) (fun hc h => ?_)
    · refine w_skip ?_
      refine seq_n hK24 ?_
      refine w_seq fun K25 hK25 => ?_
      refine w_blk fun K26 hK26 => ?_
      refine w_seq fun K27 hK27 => ?_
      refine w_reg gC ?_
      try simp only [W, Nat.reduceAdd]
      refine seq_n hK27 ?_
      refine w_seq fun K28 hK28 => ?_
      refine w_reg gC ?_
      try simp only [W, Nat.reduceAdd]
      refine seq_n hK28 ?_
      refine w_seq fun K29 hK29 => ?_
      refine w_seq fun K30 hK30 => ?_
      refine w_reg gC ?_
      try simp only [W, EE, Nat.reduceAdd]
      refine seq_n hK30 ?_
      obtain ⟨y36, hw37, g43⟩ := Option.bind_eq_some_iff.1 h
      refine w_join gC (fun s H => ∃ x34 : List Int, ∃ x35 : Int, y36 = (x34, x35) ∧ s = [.fz (a0.map e_Again), u, u, u, u, v9, v3, u, .int .i64 x35, u, u, u, u, u, u, .int .i64 a1, .int .i64 x12, u, u, u, u, u, u, u, u, u, u, u, u, u, u, u, u, u, u, u, u, u, u, u, u, u, u, u, u, u, u, u, u, u, u, u, u, u, u, u, u, u, u, u, u, u, u, u] ∧ Own H (⟨v9, 1, x8.map (AV.int .i64)⟩ :: ⟨v3, 1, x34.map (AV.int .i64)⟩ :: F)) (fun K38 hK38 => ?_) (fun s H hq => ?_)
      · refine w_blk fun K39 hK39 => ?_
        refine w_loop gC hw37 (fun x s H => match x with | (x31, x32, x33) => s = [.fz (a0.map e_Again), u, u, u, u, v9, v3, .int .i64 x12, .int .i64 x32, u, u, u, u, u, u, .int .i64 a1, .int .i64 x12, u, u, .fz (a0.map e_Again), .int .i64 (a0.length : Int), .int .i64 x33, u, u, u, u, u, u, u, u, u, u, u, u, u, u, u, u, u, u, u, u, u, u, u, u, u, u, u, u, u, u, u, u, u, u, u, u, u, u, u, u, u, u] ∧ Own H (⟨v9, 1, x8.map (AV.int .i64)⟩ :: ⟨v3, 1, x31.map (AV.int .i64)⟩ :: F)) ⟨rfl, hS⟩ (fun x y42 s H h hd41 hi K40 hK40 => ?_)
        obtain ⟨x31, x32, x33⟩ := x
        try dsimp only at hi
        obtain ⟨rfl, hS⟩ := hi
        simp only [impl_run_l0] at h
        refine w_seq fun K44 hK44 => ?_
        refine w_reg gC ?_
        try simp only [W, EE, Nat.reduceAdd]
        refine seq_n hK44 ?_
        refine w_seq fun K45 hK45 => ?_
        refine w_if ?_
        simp only [W]
        refine w_cnd h (fun hc h => ?_) (fun hc h => ?_)
        · refine w_skip ?_
          refine seq_n hK45 ?_
          refine w_seq fun K46 hK46 => ?_
          obtain ⟨y50, h, g51⟩ := Option.bind_eq_some_iff.1 h
          refine w_join gC (fun s H => ∃ x48 : List Int, ∃ x49 : Int, y50 = (x48, x49) ∧ s = [.fz (a0.map e_Again), u, u, u, u, v9, v3, .int .i64 x12, .int .i64 x49, u, u, u, u, u, u, .int .i64 a1, .int .i64 x12, u, u, .fz (a0.map e_Again), .int .i64 (a0.length : Int), .int .i64 x33, u, u, u, u, u, u, u, u, u, u, u, u, u, u, u, u, u, u, u, u, u, u, u, u, u, u, u, u, u, u, u, u, u, u, u, u, u, u, u, u, u, u] ∧ Own H (⟨v9, 1, x8.map (AV.int .i64)⟩ :: ⟨v3, 1, x48.map (AV.int .i64)⟩ :: F)) (fun K52 hK52 => ?_) (fun s H hq => ?_)
          · refine w_blk fun K47 hK47 => ?_
            refine w_seq fun K53 hK53 => ?_
            refine w_reg gC ?_
            try simp only [W, EE, Nat.reduceAdd]
            refine w_fz rfl rfl rfl (fun _ => rfl) h fun b54 hb54 h => ?_
            try simp only [W, EE, EN, reduceIte, Nat.reduceAdd, Nat.reduceLeDiff]
            refine w_alloc hS rfl rfl fun ip55 wp55 H hS => ?_
            try simp only [W]
            refine w_stv (a := .agg [.int .i64 b54.Need, .int .i64 b54.Every]) (y' := .agg [.int .i64 b54.Need, .int .i64 b54.Every]) 0 hS rfl rfl rfl rfl rfl rfl rfl rfl fun H hS => ?_
            try simp only [W]
            refine seq_n hK53 ?_
            refine w_seq fun K57 hK57 => ?_
            refine w_seq fun K58 hK58 => ?_
            refine w_reg gC ?_
            try simp only [W, EE, Nat.reduceAdd, Nat.reduceBEq, hS.var 0 rfl]
            refine w_num _ h fun x59 hx59 h => ?_
            try simp only [W, EE]
            refine seq_n hK58 ?_
            obtain ⟨y61, h, g62⟩ := Option.bind_eq_some_iff.1 h
            refine w_join gC (fun s H => ∃ x60 : List Int, y61 = (x60) ∧ s = [.fz (a0.map e_Again), u, u, u, u, v9, v3, .int .i64 x12, .int .i64 x32, .int .i64 x33, u, u, u, u, u, .int .i64 a1, .int .i64 x12, u, u, .fz (a0.map e_Again), .int .i64 (a0.length : Int), .int .i64 x33, u, u, u, u, u, u, u, u, u, u, u, u, u, u, u, u, u, u, u, u, u, u, u, u, u, u, u, u, u, u, u, u, u, u, u, u, u, u, u, u, u, u] ∧ Own H (⟨v9, 1, x8.map (AV.int .i64)⟩ :: ⟨v3, 1, x60.map (AV.int .i64)⟩ :: F)) (fun K63 hK63 => ?_) (fun s H hq => ?_)
            · refine w_seq fun K64 hK64 => ?_
              refine w_if ?_
              simp only [W]
              refine w_cnd h (fun hc h => ?_) (fun hc h => ?_)
              · refine w_drawL gC [(8, [])] (by kernel_rfl) rfl (by kernel_rfl) ?_
                try simp only [W, EE, reduceIte, Nat.reduceAdd, tabAt, qAt, Nat.reduceEqDiff]
                refine w_ow 2 hS rfl rfl rfl rfl rfl h (fun b65 in66 wn66 on66 hb65 h en66 => ?_) qv3.ne
                obtain ⟨kn66, hbn66, hen66⟩ := hS.elem 2 rfl en66 hb65
                try simp only [W, EE, Nat.reduceAdd, Nat.reduceBEq, hS.var 0 rfl, hbn66, hen66]
                refine w_ow 2 hS rfl rfl rfl rfl rfl h (fun b67 in68 wn68 on68 hb67 h en68 => ?_) qv3.ne
                obtain ⟨kn68, hbn68, hen68⟩ := hS.elem 2 rfl en68 hb67
                try simp only [W]
                refine w_ste (a := .int .i64 (IntKind.i64.wrap (b65 + b54.Need))) (y' := (IntKind.i64.wrap (b65 + b54.Need))) 2 hS rfl en68 hb67 rfl rfl rfl rfl rfl rfl rfl fun H hS => ?_
                try simp only [W]
                refine seq_n hK64 ?_
                refine w_kill ?_
                exact cut_n hK63 ⟨_, (Option.some.inj h).symm, rfl, (hS.sel 3 [1, 2] (by decide))⟩
              · refine w_skip ?_
                refine seq_n hK64 ?_
                refine w_kill ?_
                exact cut_n hK63 ⟨_, (Option.some.inj h).symm, rfl, (hS.sel 3 [1, 2] (by decide))⟩
            · obtain ⟨x60, ey, rfl, hS⟩ := hq; obtain rfl := ey.symm
              replace h := g62
              try dsimp only at h
              refine seq_n hK57 ?_
              refine w_seq fun K69 hK69 => ?_
              obtain ⟨y71, h, g72⟩ := Option.bind_eq_some_iff.1 h
              refine w_join gC (fun s H => ∃ x70 : Bool, y71 = (x70) ∧ s = [.fz (a0.map e_Again), u, u, u, u, v9, v3, .int .i64 x12, .int .i64 x32, .int .i64 x33, u, u, u, u, u, .int .i64 a1, .int .i64 x12, u, u, .fz (a0.map e_Again), .int .i64 (a0.length : Int), .int .i64 x33, u, u, u, u, u, u, u, u, u, u, u, u, u, u, u, u, u, u, u, u, u, u, u, u, u, .bool x70, u, u, u, u, u, u, u, u, u, u, u, u, u, u, u, u] ∧ Own H (⟨v9, 1, x8.map (AV.int .i64)⟩ :: ⟨v3, 1, x60.map (AV.int .i64)⟩ :: F)) (fun K73 hK73 => ?_) (fun s H hq => ?_)
              · refine w_seq fun K74 hK74 => ?_
                refine w_reg gC ?_
                try simp only [W, EE, Nat.reduceAdd]
                refine w_grdT h (fun hc h => ?_) (fun hc h => ?_)
                · try simp only [W, EE, hc]
                  refine w_ow 1 hS rfl rfl rfl rfl rfl h (fun b75 in76 wn76 on76 hb75 h en76 => ?_) qv3.ne
                  obtain ⟨kn76, hbn76, hen76⟩ := hS.elem 1 rfl en76 hb75
                  try simp only [W, EE, reduceIte, hbn76, hen76]
                  refine seq_n hK74 ?_
                  refine w_kill ?_
                  exact cut_n hK73 ⟨_, (Option.some.inj h).symm, rfl, hS⟩
                · try simp only [W, hc]
                  refine seq_n hK74 ?_
                  refine w_kill ?_
                  exact cut_n hK73 ⟨_, (Option.some.inj h).symm, rfl, hS⟩
              · obtain ⟨x70, ey, rfl, hS⟩ := hq; obtain rfl := ey.symm
                replace h := g72
                try dsimp only at h
                refine seq_n hK69 ?_
                obtain ⟨y78, h, g79⟩ := Option.bind_eq_some_iff.1 h
                refine w_join gC (fun s H => ∃ x77 : Int, y78 = (x77) ∧ s = [.fz (a0.map e_Again), u, u, u, u, v9, v3, .int .i64 x12, .int .i64 x77, u, u, u, u, u, u, .int .i64 a1, .int .i64 x12, u, u, .fz (a0.map e_Again), .int .i64 (a0.length : Int), .int .i64 x33, u, u, u, u, u, u, u, u, u, u, u, u, u, u, u, u, u, u, u, u, u, u, u, u, u, u, u, u, u, u, u, u, u, u, u, u, u, u, u, u, u, u] ∧ Own H (⟨v9, 1, x8.map (AV.int .i64)⟩ :: ⟨v3, 1, x60.map (AV.int .i64)⟩ :: F)) (fun K80 hK80 => ?_) (fun s H hq => ?_)
                · refine w_seq fun K81 hK81 => ?_
                  refine w_if ?_
                  simp only [W]
                  refine w_cnd h (fun hc h => ?_) (fun hc h => ?_)
                  · refine w_reg gC ?_
                    try simp only [W, Nat.reduceAdd]
                    refine seq_n hK81 ?_
                    refine w_kill ?_
                    exact cut_n hK80 ⟨_, (Option.some.inj h).symm, rfl, hS⟩
                  · refine w_skip ?_
                    refine seq_n hK81 ?_
                    refine w_kill ?_
                    exact cut_n hK80 ⟨_, (Option.some.inj h).symm, rfl, hS⟩
                · obtain ⟨x77, ey, rfl, hS⟩ := hq; obtain rfl := ey.symm
                  replace h := g79
                  try dsimp only at h
                  refine blk_n hK47 ?_
                  exact cut_n hK52 ⟨_, _, (Option.some.inj h).symm, rfl, hS⟩
          · obtain ⟨x48, x49, rfl, rfl, hS⟩ := hq
            replace h := g51
            try dsimp only at h
            refine seq_n hK46 ?_
            refine w_reg gC ?_
            try simp only [W, EE, Nat.reduceAdd]
            exact lp_n hK40 h ⟨rfl, hS⟩
        · refine w_exit ?_
          refine seq_x hK45 ?_
          try obtain rfl := Option.some.inj h
          obtain rfl := hd41 _ rfl
          have h : (some (x31, x32) : Option ((List Int) × Int)) = some (x31, x32) := rfl
          refine lp_x hK40 ?_
          refine blk_e hK39 ?_
          exact cut_n hK38 ⟨_, _, (Option.some.inj h).symm, rfl, hS⟩
      · obtain ⟨x34, x35, rfl, rfl, hS⟩ := hq
        replace h := g43
        try dsimp only at h
        refine seq_n hK29 ?_
        refine w_seq fun K84 hK84 => ?_
        refine w_seq fun K85 hK85 => ?_
        refine w_reg gC ?_
        try simp only [W, EE, Nat.reduceAdd]
        refine seq_n hK85 ?_
        obtain ⟨y87, h, g88⟩ := Option.bind_eq_some_iff.1 h
        refine w_join gC (fun s H => ∃ x86 : List Int, y87 = (x86) ∧ s = [.fz (a0.map e_Again), u, u, u, u, v9, v3, u, .int .i64 x35, u, u, u, u, u, u, .int .i64 a1, .int .i64 x12, u, u, u, u, u, u, u, u, u, u, u, u, u, u, u, u, u, u, u, u, u, u, u, u, u, u, u, u, u, u, u, u, u, u, u, u, u, u, u, u, u, u, u, u, u, u, u] ∧ Own H (⟨v9, 1, x8.map (AV.int .i64)⟩ :: ⟨v3, 1, x86.map (AV.int .i64)⟩ :: F)) (fun K89 hK89 => ?_) (fun s H hq => ?_)
        · refine w_seq fun K90 hK90 => ?_
          refine w_if ?_
          simp only [W]
          refine w_cnd h (fun hc h => ?_) (fun hc h => ?_)
          · refine w_reg gC ?_
            try simp only [W, EE, Nat.reduceAdd]
            refine w_ow 1 hS rfl rfl rfl rfl rfl h (fun b91 in92 wn92 on92 hb91 h en92 => ?_) qv3.ne
            obtain ⟨kn92, hbn92, hen92⟩ := hS.elem 1 rfl en92 hb91
            try simp only [W, EE, hbn92, hen92]
            refine w_ow 1 hS rfl rfl rfl rfl rfl h (fun b93 in94 wn94 on94 hb93 h en94 => ?_) qv3.ne
            obtain ⟨kn94, hbn94, hen94⟩ := hS.elem 1 rfl en94 hb93
            try simp only [W]
            refine w_ste (a := .int .i64 (IntKind.i64.wrap (b91 - 1))) (y' := (IntKind.i64.wrap (b91 - 1))) 1 hS rfl en94 hb93 rfl rfl rfl rfl rfl rfl rfl fun H hS => ?_
            try simp only [W]
            refine seq_n hK90 ?_
            refine w_kill ?_
            exact cut_n hK89 ⟨_, (Option.some.inj h).symm, rfl, hS⟩
          · refine w_skip ?_
            refine seq_n hK90 ?_
            refine w_kill ?_
            exact cut_n hK89 ⟨_, (Option.some.inj h).symm, rfl, hS⟩
        · obtain ⟨x86, ey, rfl, hS⟩ := hq; obtain rfl := ey.symm
          replace h := g88
          try dsimp only at h
          refine seq_n hK84 ?_
          refine w_reg gC ?_
          try simp only [W, Nat.reduceAdd]
          refine w_lit (el := ([x35] : List Int).map (AV.int .i64)) hS rfl rfl rfl rfl rfl rfl rfl fun v95 H qv95 hS => ?_
          try simp only [W, EE]
          refine w_appV (l := x8) (c := (AV.int .i64)) 1 hS rfl qv9 rfl rfl rfl (hS.elems 0 rfl qv95) (fun _ => rfl) rfl h fun v98 H x97 qv98 hm h hS => ?_
          try simp only [W]
          refine blk_n0 hK26 ?_
          refine seq_n hK25 ?_
          refine w_reg gC ?_
          try simp only [W, EE, Nat.reduceAdd]
          exact lp_n hK19 h ⟨_, qv98, rfl, (hS.sel 3 [1, 2] (by decide))⟩
    · refine w_exit ?_
      refine seq_x hK24 ?_
      try obtain rfl := Option.some.inj h
      obtain rfl := hd20 _ rfl
      have h : (some (x8) : Option ((List Int))) = some (x8) := rfl
      refine lp_x hK19 ?_
      refine blk_e hK18 ?_
      exact cut_n hK17 ⟨_, (Option.some.inj h).symm, _, qv9, rfl, (hS.sel 2 [0] (by decide))⟩
  · obtain ⟨x13, ey, v14, qv14, rfl, hS⟩ := hq; obtain rfl := ey.symm
    replace h := g22
    try dsimp only at h
    refine seq_n hK6 ?_
    refine w_seq fun K102 hK102 => ?_
    refine w_reg gC ?_
    try simp only [W, Nat.reduceAdd]
    refine seq_n hK102 ?_
    refine w_ret ?_
    refine fin_r1 hK0 rfl ?_
    try obtain rfl := Option.some.inj h
    exact hP _ qv14 _ hS
theorem impl_FirstDone_w {a0 : List Again} {a1 : Int} {r : (Int × Bool × Bool)} (h : impl_FirstDone a0 a1 = some r) {F : List It} {H : Heap} (hS : Own H (F)) {P : AV → Heap → Prop} (hP : ∀ H', Own H' (F) → P (.tup [.int .i64 r.1, .bool r.2.1, .bool r.2.2]) H') : ACall C 77 [.fz (a0.map e_Again), .int .i64 a1] H P := by
  refine acall_of gC (res := [.tmp 4, .tmp 5, .tmp 6]) (n := 37) rfl rfl rfl rfl fun K0 hK0 => ?_
  simp only [W, Nat.reduceSub, Nat.reduceAdd, List.replicate]
  unfold impl_FirstDone at h
  refine w_seq fun K1 hK1 => ?_
  refine w_reg gC ?_
  try simp only [W, Nat.reduceAdd]
  refine seq_n hK1 ?_
  refine w_seq fun K2 hK2 => ?_
  refine w_seq fun K3 hK3 => ?_
  refine w_reg gC ?_
  try simp only [W, Nat.reduceAdd]
  refine w_call h fun b4 hb4 h => ?_
  refine impl_isOne_w hb4 hS fun H hS => ?_
  try simp only [W]
  refine seq_n hK3 ?_
  refine w_if ?_
  simp only [W]
  refine w_cnd h (fun hc h => ?_) (fun hc h => ?_)
  · refine w_seq fun K5 hK5 => ?_
    refine w_reg gC ?_
    try simp only [W, Nat.reduceAdd]
    refine seq_n hK5 ?_
    refine w_ret ?_
    refine seq_r hK2 ?_
    refine fin_r3 hK0 rfl rfl rfl ?_
    try obtain rfl := Option.some.inj h
    exact hP _ hS
  · refine w_skip ?_
    refine seq_n hK2 ?_
    refine w_seq fun K6 hK6 => ?_
    refine w_reg gC ?_
    try simp only [W, EE, Nat.reduceAdd]
    refine w_fz rfl rfl rfl (fun _ => rfl) h fun b7 hb7 h => ?_
    try simp only [W, EE, EN, Nat.reduceAdd, Nat.reduceBEq]
    refine seq_n hK6 ?_
    refine w_seq fun K8 hK8 => ?_
    refine w_seq fun K9 hK9 => ?_
    refine w_reg gC ?_
    try simp only [W, Nat.reduceAdd]
    refine w_call h fun b10 hb10 h => ?_
    refine impl_run_w hb10 hS fun v11 qv11 H hS => ?_
    try simp only [W, EE]
    refine w_len 0 hS rfl qv11 rfl ?_
    try simp only [W]
    refine seq_n hK9 ?_
    obtain ⟨y15, hw16, g22⟩ := Option.bind_eq_some_iff.1 h
    refine w_join gC (fun s H => y15 = LR.next () ∧ s = [u, u, u, u, u, u, u, u, u, u, u, u, u, u, u, u, u, u, u, u, u, u, u, u, u, u, u, u, u, u, u, u, u, u, u, u, u] ∧ Own H (F)) (fun K17 hK17 => ?_) (fun s H hq => ?_)
    · refine w_blk fun K18 hK18 => ?_
      refine w_loop gC hw16 (fun x s H => match x with | (x13, x14) => s = [u, .int .i64 a1, u, u, u, u, u, .int .i64 x13, u, u, u, u, u, u, u, u, u, u, u, u, v11, .int .i64 (b10.length : Int), .int .i64 x14, u, u, u, u, u, u, u, u, u, u, u, u, u, u] ∧ Own H (⟨v11, 1, b10.map (AV.int .i64)⟩ :: F)) ⟨rfl, hS⟩ (fun x y21 s H h hd20 hi K19 hK19 => ?_)
      obtain ⟨x13, x14⟩ := x
      try dsimp only at hi
      obtain ⟨rfl, hS⟩ := hi
      simp only [impl_FirstDone_l0] at h
      refine w_seq fun K23 hK23 => ?_
      refine w_reg gC ?_
      try simp only [W, EE, Nat.reduceAdd]
      refine seq_n hK23 ?_
      refine w_seq fun K24 hK24 => ?_
      refine w_if ?_
      simp only [W]
      refine w_cnd h (fun hc h => ?_) (fun hc h => ?_)
      · refine w_skip ?_
        refine seq_n hK24 ?_
        refine w_seq fun K25 hK25 => ?_
        obtain ⟨y28, h, g29⟩ := Option.bind_eq_some_iff.1 h
        refine w_join gC (fun s H => ∃ x27 : Int, y28 = LR.next (x27) ∧ s = [u, .int .i64 a1, u, u, u, u, u, .int .i64 x27, u, u, u, u, u, u, u, u, u, u, u, u, v11, .int .i64 (b10.length : Int), .int .i64 x14, u, u, u, u, u, u, u, u, u, u, u, u, u, u] ∧ Own H (⟨v11, 1, b10.map (AV.int .i64)⟩ :: F)) (fun K30 hK30 => ?_) (fun s H hq => ?_)
        · refine w_blk fun K26 hK26 => ?_
          refine w_seq fun K31 hK31 => ?_
          refine w_reg gC ?_
          try simp only [W, EE, Nat.reduceAdd]
          refine w_ow 0 hS rfl rfl rfl rfl rfl h (fun b32 in33 wn33 on33 hb32 h en33 => ?_) qv11.ne
          obtain ⟨kn33, hbn33, hen33⟩ := hS.elem 0 rfl en33 hb32
          try simp only [W, EE, hbn33, hen33]
          refine seq_n hK31 ?_
          refine w_seq fun K34 hK34 => ?_
          refine w_seq fun K35 hK35 => ?_
          refine w_reg gC ?_
          try simp only [W, EE, Nat.reduceAdd]
          refine seq_n hK35 ?_
          refine w_if ?_
          simp only [W]
          refine w_cnd h (fun hc h => ?_) (fun hc h => ?_)
          · refine w_exit ?_
            refine seq_x hK34 ?_
            refine blk_e hK26 ?_
            exact cut_n hK30 ⟨_, (Option.some.inj h).symm, rfl, hS⟩
          · refine w_skip ?_
            refine seq_n hK34 ?_
            refine w_seq fun K36 hK36 => ?_
            refine w_reg gC ?_
            try simp only [W, EE, Nat.reduceAdd]
            refine seq_n hK36 ?_
            refine w_seq fun K37 hK37 => ?_
            refine w_reg gC ?_
            try simp only [W, EE, Nat.reduceAdd]
            refine seq_n hK37 ?_
            refine w_if ?_
            simp only [W]
            refine w_cnd h (fun hc h => ?_) (fun hc h => ?_)
            · refine w_seq fun K38 hK38 => ?_
              refine w_reg gC ?_
              try simp only [W, EE, Nat.reduceAdd]
              refine seq_n hK38 ?_
              refine w_ret ?_
              refine blk_r hK26 ?_
              try obtain rfl := Option.some.inj h
              obtain rfl := Option.some.inj g29
              have h : (some (LR.done (LR.done ((IntKind.i64.wrap (x14 + 1)), true, true))) : Option (LR (Int × Int) (LR Unit (Int × Bool × Bool)))) = some (LR.done (LR.done ((IntKind.i64.wrap (x14 + 1)), true, true))) := rfl
              refine cut_r hK30 ?_
              refine seq_r hK25 ?_
              try obtain rfl := Option.some.inj h
              obtain rfl := hd20 _ rfl
              have h : (some (LR.done ((IntKind.i64.wrap (x14 + 1)), true, true)) : Option (LR Unit (Int × Bool × Bool))) = some (LR.done ((IntKind.i64.wrap (x14 + 1)), true, true)) := rfl
              refine lp_r hK19 ?_
              refine blk_r hK18 ?_
              try obtain rfl := Option.some.inj h
              obtain rfl := Option.some.inj g22
              have h : (some ((IntKind.i64.wrap (x14 + 1)), true, true) : Option (Int × Bool × Bool)) = some ((IntKind.i64.wrap (x14 + 1)), true, true) := rfl
              refine cut_r hK17 ?_
              refine seq_r hK8 ?_
              refine fin_r3 hK0 rfl rfl rfl ?_
              try obtain rfl := Option.some.inj h
              exact hP _ (hS.sel 1 [] (by decide))
            · refine w_skip ?_
              refine blk_n hK26 ?_
              exact cut_n hK30 ⟨_, (Option.some.inj h).symm, rfl, hS⟩
        · obtain ⟨x27, ey, rfl, hS⟩ := hq; obtain rfl := ey.symm
          replace h := g29
          try dsimp only at h
          refine seq_n hK25 ?_
          refine w_reg gC ?_
          try simp only [W, EE, Nat.reduceAdd]
          exact lp_n hK19 h ⟨rfl, hS⟩
      · refine w_exit ?_
        refine seq_x hK24 ?_
        try obtain rfl := Option.some.inj h
        obtain rfl := hd20 _ rfl
        have h : (some (LR.next ()) : Option (LR Unit (Int × Bool × Bool))) = some (LR.next ()) := rfl
        refine lp_x hK19 ?_
        refine blk_e hK18 ?_
        exact cut_n hK17 ⟨(Option.some.inj h).symm, rfl, (hS.sel 1 [] (by decide))⟩
    · obtain ⟨rfl, rfl, hS⟩ := hq
      replace h := g22
      try dsimp only at h
      refine seq_n hK8 ?_
      refine w_seq fun K47 hK47 => ?_
      refine w_reg gC ?_
      try simp only [W, Nat.reduceAdd]
      refine seq_n hK47 ?_
      refine w_ret ?_
      refine fin_r3 hK0 rfl rfl rfl ?_
      try obtain rfl := Option.some.inj h
      exact hP _ hS
theorem spec_l6Run_w {a0 : List Again} {a1 : Int} {r : (List Int)} (h : spec_l6Run a0 a1 = some r) {F : List It} {H : Heap} (hS : Own H (F)) {P : AV → Heap → Prop} (hP : ∀ v103 : AV, isSl v103 → ∀ H', Own H' (⟨v103, 1, r.map (AV.int .i64)⟩ :: F) → P (v103) H') : ACall C 157 [.fz (a0.map e_Again), .int .i64 a1] H P := by
  refine acall_of gC (res := [.tmp 4]) (n := 63) rfl rfl rfl rfl fun K0 hK0 => ?_
  simp only [W, Nat.reduceSub, Nat.reduceAdd, List.replicate]
  unfold spec_l6Run at h
  refine w_seq fun K1 hK1 => ?_
  refine w_reg gC ?_
  try simp only [W, Nat.reduceAdd]
  refine seq_n hK1 ?_
  refine w_seq fun K2 hK2 => ?_
  refine w_reg gC ?_
  try simp only [W, EE, Nat.reduceAdd]
  refine w_make (c := (AV.int .i64)) hS rfl rfl rfl rfl rfl rfl h fun v3 H x5 qv3 hm h hS => ?_
  try simp only [W]
  refine seq_n hK2 ?_
  refine w_seq fun K6 hK6 => ?_
  refine w_reg gC ?_
  try simp only [W, Nat.reduceAdd]
  refine seq_n hK6 ?_
  refine w_seq fun K7 hK7 => ?_
  refine w_seq fun K8 hK8 => ?_
  refine w_reg gC ?_
  try simp only [W, Nat.reduceAdd]
  refine seq_n hK8 ?_
  obtain ⟨y16, hw17, g23⟩ := Option.bind_eq_some_iff.1 h
  refine w_join gC (fun s H => ∃ x14 : List Int, y16 = (x14) ∧ ∃ v15 : AV, isSl v15 ∧ s = [u, u, u, u, u, u, v15, u, u, u, u, u, u, u, u, u, u, u, u, u, u, u, u, u, u, u, u, u, u, u, u, u, u, u, u, u, u, u, u, u, u, u, u, u, u, u, u, u, u, u, u, u, u, u, u, u, u, u, u, u, u, u, u] ∧ Own H (⟨v15, 1, x14.map (AV.int .i64)⟩ :: F)) (fun K18 hK18 => ?_) (fun s H hq => ?_)
  · refine w_blk fun K19 hK19 => ?_
    refine w_loop gC hw17 (fun x s H => match x with | (x9, x10, x13) => ∃ v11 : AV, isSl v11 ∧ s = [.fz (a0.map e_Again), .int .i64 a1, u, u, u, v3, v11, .int .i64 x13, u, u, u, u, u, u, u, u, u, u, u, u, u, u, u, u, u, u, u, u, u, u, u, u, u, u, u, u, u, u, u, u, u, u, u, u, u, u, u, u, u, u, u, u, u, u, u, u, u, u, u, u, u, u, u] ∧ Own H (⟨v3, 1, x9.map (AV.int .i64)⟩ :: ⟨v11, 1, x10.map (AV.int .i64)⟩ :: F)) ⟨_, isSl_nil, rfl, ((hS.nil_ 1).sel 2 [1, 0] (by decide))⟩ (fun x y22 s H h hd21 hi K20 hK20 => ?_)
    obtain ⟨x9, x10, x13⟩ := x
    try dsimp only at hi
    obtain ⟨v11, qv11, rfl, hS⟩ := hi
    simp only [spec_l6Run_l1] at h
    refine w_seq fun K24 hK24 => ?_
    refine w_seq fun K25 hK25 => ?_
    refine w_reg gC ?_
    try simp only [W, EE, Nat.reduceAdd]
    refine seq_n hK25 ?_
    refine w_if ?_
    simp only [W]
    refine w_cnd h (fun hc h => ?_) (fun hc h => ?_)
    · refine w_skip ?_
      refine seq_n hK24 ?_
      refine w_seq fun K26 hK26 => ?_
      refine w_blk fun K27 hK27 => ?_
      refine w_seq fun K28 hK28 => ?_
      refine w_reg gC ?_
      try simp only [W, Nat.reduceAdd]
      refine seq_n hK28 ?_
      refine w_seq fun K29 hK29 => ?_
      refine w_seq fun K30 hK30 => ?_
      refine w_reg gC ?_
      try simp only [W, EE, Nat.reduceAdd]
      refine seq_n hK30 ?_
      obtain ⟨y36, hw37, g43⟩ := Option.bind_eq_some_iff.1 h
      refine w_join gC (fun s H => ∃ x34 : List Int, ∃ x35 : Int, y36 = (x34, x35) ∧ s = [.fz (a0.map e_Again), .int .i64 a1, u, u, u, v3, v11, .int .i64 x13, .int .i64 x35, u, u, u, u, u, u, u, u, u, u, u, u, u, u, u, u, u, u, u, u, u, u, u, u, u, u, u, u, u, u, u, u, u, u, u, u, u, u, u, u, u, u, u, u, u, u, u, u, u, u, u, u, u, u] ∧ Own H (⟨v3, 1, x34.map (AV.int .i64)⟩ :: ⟨v11, 1, x10.map (AV.int .i64)⟩ :: F)) (fun K38 hK38 => ?_) (fun s H hq => ?_)
      · refine w_blk fun K39 hK39 => ?_
        refine w_loop gC hw37 (fun x s H => match x with | (x31, x32, x33) => s = [.fz (a0.map e_Again), .int .i64 a1, u, u, u, v3, v11, .int .i64 x13, .int .i64 x32, u, u, u, u, u, u, u, u, u, u, .fz (a0.map e_Again), .int .i64 (a0.length : Int), .int .i64 x33, u, u, u, u, u, u, u, u, u, u, u, u, u, u, u, u, u, u, u, u, u, u, u, u, u, u, u, u, u, u, u, u, u, u, u, u, u, u, u, u, u] ∧ Own H (⟨v3, 1, x31.map (AV.int .i64)⟩ :: ⟨v11, 1, x10.map (AV.int .i64)⟩ :: F)) ⟨rfl, hS⟩ (fun x y42 s H h hd41 hi K40 hK40 => ?_)
        obtain ⟨x31, x32, x33⟩ := x
        try dsimp only at hi
        obtain ⟨rfl, hS⟩ := hi
        simp only [spec_l6Run_l0] at h
        refine w_seq fun K44 hK44 => ?_
        refine w_reg gC ?_
        try simp only [W, EE, Nat.reduceAdd]
        refine seq_n hK44 ?_
        refine w_seq fun K45 hK45 => ?_
        refine w_if ?_
        simp only [W]
        refine w_cnd h (fun hc h => ?_) (fun hc h => ?_)
        · refine w_skip ?_
          refine seq_n hK45 ?_
          refine w_seq fun K46 hK46 => ?_
          obtain ⟨y50, h, g51⟩ := Option.bind_eq_some_iff.1 h
          refine w_join gC (fun s H => ∃ x48 : List Int, ∃ x49 : Int, y50 = (x48, x49) ∧ s = [.fz (a0.map e_Again), .int .i64 a1, u, u, u, v3, v11, .int .i64 x13, .int .i64 x49, u, u, u, u, u, u, u, u, u, u, .fz (a0.map e_Again), .int .i64 (a0.length : Int), .int .i64 x33, u, u, u, u, u, u, u, u, u, u, u, u, u, u, u, u, u, u, u, u, u, u, u, u, u, u, u, u, u, u, u, u, u, u, u, u, u, u, u, u, u] ∧ Own H (⟨v3, 1, x48.map (AV.int .i64)⟩ :: ⟨v11, 1, x10.map (AV.int .i64)⟩ :: F)) (fun K52 hK52 => ?_) (fun s H hq => ?_)
          · refine w_blk fun K47 hK47 => ?_
            refine w_seq fun K53 hK53 => ?_
            refine w_reg gC ?_
            try simp only [W, EE, Nat.reduceAdd]
            refine w_fz rfl rfl rfl (fun _ => rfl) h fun b54 hb54 h => ?_
            try simp only [W, EE, EN, reduceIte, Nat.reduceAdd, Nat.reduceLeDiff]
            refine w_alloc hS rfl rfl fun ip55 wp55 H hS => ?_
            try simp only [W]
            refine w_stv (a := .agg [.int .i64 b54.Need, .int .i64 b54.Every]) (y' := .agg [.int .i64 b54.Need, .int .i64 b54.Every]) 0 hS rfl rfl rfl rfl rfl rfl rfl rfl fun H hS => ?_
            try simp only [W]
            refine seq_n hK53 ?_
            refine w_seq fun K57 hK57 => ?_
            refine w_seq fun K58 hK58 => ?_
            refine w_reg gC ?_
            try simp only [W, EE, Nat.reduceAdd, Nat.reduceBEq, hS.var 0 rfl]
            refine w_num _ h fun x59 hx59 h => ?_
            try simp only [W, EE]
            refine seq_n hK58 ?_
            obtain ⟨y61, h, g62⟩ := Option.bind_eq_some_iff.1 h
            refine w_join gC (fun s H => ∃ x60 : List Int, y61 = (x60) ∧ s = [.fz (a0.map e_Again), .int .i64 a1, u, u, u, v3, v11, .int .i64 x13, .int .i64 x32, .int .i64 x33, u, u, u, u, u, u, u, u, u, .fz (a0.map e_Again), .int .i64 (a0.length : Int), .int .i64 x33, u, u, u, u, u, u, u, u, u, u, u, u, u, u, u, u, u, u, u, u, u, u, u, u, u, u, u, u, u, u, u, u, u, u, u, u, u, u, u, u, u] ∧ Own H (⟨v3, 1, x60.map (AV.int .i64)⟩ :: ⟨v11, 1, x10.map (AV.int .i64)⟩ :: F)) (fun K63 hK63 => ?_) (fun s H hq => ?_)
            · refine w_seq fun K64 hK64 => ?_
              refine w_if ?_
              simp only [W]
              refine w_cnd h (fun hc h => ?_) (fun hc h => ?_)
              · refine w_drawL gC [(8, [])] (by kernel_rfl) rfl (by kernel_rfl) ?_
                try simp only [W, EE, reduceIte, Nat.reduceAdd, tabAt, qAt, Nat.reduceEqDiff]
                refine w_ow 1 hS rfl rfl rfl rfl rfl h (fun b65 in66 wn66 on66 hb65 h en66 => ?_) qv3.ne
                obtain ⟨kn66, hbn66, hen66⟩ := hS.elem 1 rfl en66 hb65
                try simp only [W, EE, Nat.reduceAdd, Nat.reduceBEq, hS.var 0 rfl, hbn66, hen66]
                refine w_ow 1 hS rfl rfl rfl rfl rfl h (fun b67 in68 wn68 on68 hb67 h en68 => ?_) qv3.ne
                obtain ⟨kn68, hbn68, hen68⟩ := hS.elem 1 rfl en68 hb67
                try simp only [W]
                refine w_ste (a := .int .i64 (IntKind.i64.wrap (b65 + b54.Need))) (y' := (IntKind.i64.wrap (b65 + b54.Need))) 1 hS rfl en68 hb67 rfl rfl rfl rfl rfl rfl rfl fun H hS => ?_
                try simp only [W]
                refine seq_n hK64 ?_
                refine w_kill ?_
                exact cut_n hK63 ⟨_, (Option.some.inj h).symm, rfl, (hS.sel 3 [1, 2] (by decide))⟩
              · refine w_skip ?_
                refine seq_n hK64 ?_
                refine w_kill ?_
                exact cut_n hK63 ⟨_, (Option.some.inj h).symm, rfl, (hS.sel 3 [1, 2] (by decide))⟩
            · obtain ⟨x60, ey, rfl, hS⟩ := hq; obtain rfl := ey.symm
              replace h := g62
              try dsimp only at h
              refine seq_n hK57 ?_
              refine w_seq fun K69 hK69 => ?_
              obtain ⟨y71, h, g72⟩ := Option.bind_eq_some_iff.1 h
              refine w_join gC (fun s H => ∃ x70 : Bool, y71 = (x70) ∧ s = [.fz (a0.map e_Again), .int .i64 a1, u, u, u, v3, v11, .int .i64 x13, .int .i64 x32, .int .i64 x33, u, u, u, u, u, u, u, u, u, .fz (a0.map e_Again), .int .i64 (a0.length : Int), .int .i64 x33, u, u, u, u, u, u, u, u, u, u, u, u, u, u, u, u, u, u, u, u, u, u, u, u, u, .bool x70, u, u, u, u, u, u, u, u, u, u, u, u, u, u, u] ∧ Own H (⟨v3, 1, x60.map (AV.int .i64)⟩ :: ⟨v11, 1, x10.map (AV.int .i64)⟩ :: F)) (fun K73 hK73 => ?_) (fun s H hq => ?_)
              · refine w_seq fun K74 hK74 => ?_
                refine w_reg gC ?_
                try simp only [W, EE, Nat.reduceAdd]
                refine w_grdT h (fun hc h => ?_) (fun hc h => ?_)
                · try simp only [W, EE, hc]
                  refine w_ow 0 hS rfl rfl rfl rfl rfl h (fun b75 in76 wn76 on76 hb75 h en76 => ?_) qv3.ne
                  obtain ⟨kn76, hbn76, hen76⟩ := hS.elem 0 rfl en76 hb75
                  try simp only [W, EE, reduceIte, hbn76, hen76]
                  refine seq_n hK74 ?_
                  refine w_kill ?_
                  exact cut_n hK73 ⟨_, (Option.some.inj h).symm, rfl, hS⟩
                · try simp only [W, hc]
                  refine seq_n hK74 ?_
                  refine w_kill ?_
                  exact cut_n hK73 ⟨_, (Option.some.inj h).symm, rfl, hS⟩
              · obtain ⟨x70, ey, rfl, hS⟩ := hq; obtain rfl := ey.symm
                replace h := g72
                try dsimp only at h
                refine seq_n hK69 ?_
                obtain ⟨y78, h, g79⟩ := Option.bind_eq_some_iff.1 h
                refine w_join gC (fun s H => ∃ x77 : Int, y78 = (x77) ∧ s = [.fz (a0.map e_Again), .int .i64 a1, u, u, u, v3, v11, .int .i64 x13, .int .i64 x77, u, u, u, u, u, u, u, u, u, u, .fz (a0.map e_Again), .int .i64 (a0.length : Int), .int .i64 x33, u, u, u, u, u, u, u, u, u, u, u, u, u, u, u, u, u, u, u, u, u, u, u, u, u, u, u, u, u, u, u, u, u, u, u, u, u, u, u, u, u] ∧ Own H (⟨v3, 1, x60.map (AV.int .i64)⟩ :: ⟨v11, 1, x10.map (AV.int .i64)⟩ :: F)) (fun K80 hK80 => ?_) (fun s H hq => ?_)
                · refine w_seq fun K81 hK81 => ?_
                  refine w_if ?_
                  simp only [W]
                  refine w_cnd h (fun hc h => ?_) (fun hc h => ?_)
                  · refine w_reg gC ?_
                    try simp only [W, Nat.reduceAdd]
                    refine seq_n hK81 ?_
                    refine w_kill ?_
                    exact cut_n hK80 ⟨_, (Option.some.inj h).symm, rfl, hS⟩
                  · refine w_skip ?_
                    refine seq_n hK81 ?_
                    refine w_kill ?_
                    exact cut_n hK80 ⟨_, (Option.some.inj h).symm, rfl, hS⟩
                · obtain ⟨x77, ey, rfl, hS⟩ := hq; obtain rfl := ey.symm
                  replace h := g79
                  try dsimp only at h
                  refine blk_n hK47 ?_
                  exact cut_n hK52 ⟨_, _, (Option.some.inj h).symm, rfl, hS⟩
          · obtain ⟨x48, x49, rfl, rfl, hS⟩ := hq
            replace h := g51
            try dsimp only at h
            refine seq_n hK46 ?_
            refine w_reg gC ?_
            try simp only [W, EE, Nat.reduceAdd]
            exact lp_n hK40 h ⟨rfl, hS⟩
        · refine w_exit ?_
          refine seq_x hK45 ?_
          try obtain rfl := Option.some.inj h
          obtain rfl := hd41 _ rfl
          have h : (some (x31, x32) : Option ((List Int) × Int)) = some (x31, x32) := rfl
          refine lp_x hK40 ?_
          refine blk_e hK39 ?_
          exact cut_n hK38 ⟨_, _, (Option.some.inj h).symm, rfl, hS⟩
      · obtain ⟨x34, x35, rfl, rfl, hS⟩ := hq
        replace h := g43
        try dsimp only at h
        refine seq_n hK29 ?_
        refine w_seq fun K84 hK84 => ?_
        refine w_seq fun K85 hK85 => ?_
        refine w_reg gC ?_
        try simp only [W, EE, Nat.reduceAdd]
        refine seq_n hK85 ?_
        obtain ⟨y87, h, g88⟩ := Option.bind_eq_some_iff.1 h
        refine w_join gC (fun s H => ∃ x86 : List Int, y87 = (x86) ∧ s = [.fz (a0.map e_Again), .int .i64 a1, u, u, u, v3, v11, .int .i64 x13, .int .i64 x35, u, u, u, u, u, u, u, u, u, u, u, u, u, u, u, u, u, u, u, u, u, u, u, u, u, u, u, u, u, u, u, u, u, u, u, u, u, u, u, u, u, u, u, u, u, u, u, u, u, u, u, u, u, u] ∧ Own H (⟨v3, 1, x86.map (AV.int .i64)⟩ :: ⟨v11, 1, x10.map (AV.int .i64)⟩ :: F)) (fun K89 hK89 => ?_) (fun s H hq => ?_)
        · refine w_seq fun K90 hK90 => ?_
          refine w_if ?_
          simp only [W]
          refine w_cnd h (fun hc h => ?_) (fun hc h => ?_)
          · refine w_reg gC ?_
            try simp only [W, EE, Nat.reduceAdd]
            refine w_ow 0 hS rfl rfl rfl rfl rfl h (fun b91 in92 wn92 on92 hb91 h en92 => ?_) qv3.ne
            obtain ⟨kn92, hbn92, hen92⟩ := hS.elem 0 rfl en92 hb91
            try simp only [W, EE, hbn92, hen92]
            refine w_ow 0 hS rfl rfl rfl rfl rfl h (fun b93 in94 wn94 on94 hb93 h en94 => ?_) qv3.ne
            obtain ⟨kn94, hbn94, hen94⟩ := hS.elem 0 rfl en94 hb93
            try simp only [W]
            refine w_ste (a := .int .i64 (IntKind.i64.wrap (b91 - 1))) (y' := (IntKind.i64.wrap (b91 - 1))) 0 hS rfl en94 hb93 rfl rfl rfl rfl rfl rfl rfl fun H hS => ?_
            try simp only [W]
            refine seq_n hK90 ?_
            refine w_kill ?_
            exact cut_n hK89 ⟨_, (Option.some.inj h).symm, rfl, hS⟩
          · refine w_skip ?_
            refine seq_n hK90 ?_
            refine w_kill ?_
            exact cut_n hK89 ⟨_, (Option.some.inj h).symm, rfl, hS⟩
        · obtain ⟨x86, ey, rfl, hS⟩ := hq; obtain rfl := ey.symm
          replace h := g88
          try dsimp only at h
          refine seq_n hK84 ?_
          refine w_reg gC ?_
          try simp only [W, Nat.reduceAdd]
          refine w_lit (el := ([x35] : List Int).map (AV.int .i64)) hS rfl rfl rfl rfl rfl rfl rfl fun v95 H qv95 hS => ?_
          try simp only [W, EE]
          refine w_appV (l := x10) (c := (AV.int .i64)) 2 hS rfl qv11 rfl rfl rfl (hS.elems 0 rfl qv95) (fun _ => rfl) rfl h fun v98 H x97 qv98 hm h hS => ?_
          try simp only [W]
          refine blk_n0 hK27 ?_
          refine seq_n hK26 ?_
          refine w_reg gC ?_
          try simp only [W, EE, Nat.reduceAdd]
          exact lp_n hK20 h ⟨_, qv98, rfl, (hS.sel 3 [1, 2] (by decide))⟩
    · refine w_exit ?_
      refine seq_x hK24 ?_
      try obtain rfl := Option.some.inj h
      obtain rfl := hd21 _ rfl
      have h : (some (x10) : Option ((List Int))) = some (x10) := rfl
      refine lp_x hK20 ?_
      refine blk_e hK19 ?_
      exact cut_n hK18 ⟨_, (Option.some.inj h).symm, _, qv11, rfl, (hS.sel 2 [1] (by decide))⟩
  · obtain ⟨x14, ey, v15, qv15, rfl, hS⟩ := hq; obtain rfl := ey.symm
    replace h := g23
    try dsimp only at h
    refine seq_n hK7 ?_
    refine w_seq fun K102 hK102 => ?_
    refine w_reg gC ?_
    try simp only [W, Nat.reduceAdd]
    refine seq_n hK102 ?_
    refine w_ret ?_
    refine fin_r1 hK0 rfl ?_
    try obtain rfl := Option.some.inj h
    exact hP _ qv15 _ hS
theorem spec_l1Bit_w {a0 : Bool} {r : (Int)} (h : spec_l1Bit a0 = some r) {F : List It} {H : Heap} (hS : Own H (F)) {P : AV → Heap → Prop} (hP : ∀ H', Own H' (F) → P (.int .i64 r) H') : ACall C 94 [.bool a0] H P := by
  refine acall_of gC (res := [.tmp 2]) (n := 4) rfl rfl rfl rfl fun K0 hK0 => ?_
  simp only [W, Nat.reduceSub, Nat.reduceAdd, List.replicate]
  unfold spec_l1Bit at h
  refine w_seq fun K1 hK1 => ?_
  refine w_reg gC ?_
  try simp only [W, Nat.reduceAdd]
  refine seq_n hK1 ?_
  refine w_seq fun K2 hK2 => ?_
  refine w_seq fun K3 hK3 => ?_
  refine w_reg gC ?_
  try simp only [W, Nat.reduceAdd]
  refine seq_n hK3 ?_
  refine w_if ?_
  simp only [W]
  refine w_cnd h (fun hc h => ?_) (fun hc h => ?_)
  · refine w_seq fun K4 hK4 => ?_
    refine w_reg gC ?_
    try simp only [W, Nat.reduceAdd]
    refine seq_n hK4 ?_
    refine w_ret ?_
    refine seq_r hK2 ?_
    refine fin_r1 hK0 rfl ?_
    try obtain rfl := Option.some.inj h
    exact hP _ hS
  · refine w_skip ?_
    refine seq_n hK2 ?_
    refine w_seq fun K5 hK5 => ?_
    refine w_reg gC ?_
    try simp only [W, Nat.reduceAdd]
    refine seq_n hK5 ?_
    refine w_ret ?_
    refine fin_r1 hK0 rfl ?_
    try obtain rfl := Option.some.inj h
    exact hP _ hS
theorem spec_FirstDone_w {a0 : List Again} {a1 : Int} {r : (Int × Bool × Bool)} (h : spec_FirstDone a0 a1 = some r) {F : List It} {H : Heap} (hS : Own H (F)) {P : AV → Heap → Prop} (hP : ∀ H', Own H' (F) → P (.tup [.int .i64 r.1, .bool r.2.1, .bool r.2.2]) H') : ACall C 78 [.fz (a0.map e_Again), .int .i64 a1] H P := by
  refine acall_of gC (res := [.tmp 4, .tmp 5, .tmp 6]) (n := 38) rfl rfl rfl rfl fun K0 hK0 => ?_
  simp only [W, Nat.reduceSub, Nat.reduceAdd, List.replicate]
  unfold spec_FirstDone at h
  refine w_seq fun K1 hK1 => ?_
  refine w_reg gC ?_
  try simp only [W, Nat.reduceAdd]
  refine seq_n hK1 ?_
  refine w_seq fun K2 hK2 => ?_
  refine w_seq fun K3 hK3 => ?_
  refine w_reg gC ?_
  try simp only [W, Nat.reduceAdd]
  refine w_call h fun b4 hb4 h => ?_
  refine spec_l6There_w hb4 hS fun H hS => ?_
  try simp only [W]
  refine seq_n hK3 ?_
  refine w_if ?_
  simp only [W]
  refine w_cnd h (fun hc h => ?_) (fun hc h => ?_)
  · refine w_seq fun K5 hK5 => ?_
    refine w_reg gC ?_
    try simp only [W, Nat.reduceAdd]
    refine seq_n hK5 ?_
    refine w_ret ?_
    refine seq_r hK2 ?_
    refine fin_r3 hK0 rfl rfl rfl ?_
    try obtain rfl := Option.some.inj h
    exact hP _ hS
  · refine w_skip ?_
    refine seq_n hK2 ?_
    refine w_seq fun K6 hK6 => ?_
    refine w_reg gC ?_
    try simp only [W, Nat.reduceAdd]
    refine seq_n hK6 ?_
    refine w_seq fun K7 hK7 => ?_
    refine w_seq fun K8 hK8 => ?_
    refine w_reg gC ?_
    try simp only [W, Nat.reduceAdd]
    refine w_call h fun b9 hb9 h => ?_
    refine spec_l6Run_w hb9 hS fun v10 qv10 H hS => ?_
    try simp only [W, EE]
    refine w_len 0 hS rfl qv10 rfl ?_
    try simp only [W]
    refine seq_n hK8 ?_
    obtain ⟨y14, hw15, g21⟩ := Option.bind_eq_some_iff.1 h
    refine w_join gC (fun s H => y14 = LR.next () ∧ s = [u, u, u, u, u, u, u, u, u, u, u, u, u, u, u, u, u, u, u, u, u, u, u, u, u, u, u, u, u, u, u, u, u, u, u, u, u, u] ∧ Own H (F)) (fun K16 hK16 => ?_) (fun s H hq => ?_)
    · refine w_blk fun K17 hK17 => ?_
      refine w_loop gC hw15 (fun x s H => match x with | (x12, x13) => s = [.fz (a0.map e_Again), .int .i64 a1, u, u, u, u, u, .int .i64 x12, u, u, u, u, u, u, u, v10, .int .i64 (b9.length : Int), .int .i64 x13, u, u, u, u, u, u, u, u, u, u, u, u, u, u, u, u, u, u, u, u] ∧ Own H (⟨v10, 1, b9.map (AV.int .i64)⟩ :: F)) ⟨rfl, hS⟩ (fun x y20 s H h hd19 hi K18 hK18 => ?_)
      obtain ⟨x12, x13⟩ := x
      try dsimp only at hi
      obtain ⟨rfl, hS⟩ := hi
      simp only [spec_FirstDone_l0] at h
      refine w_seq fun K22 hK22 => ?_
      refine w_reg gC ?_
      try simp only [W, EE, Nat.reduceAdd]
      refine seq_n hK22 ?_
      refine w_seq fun K23 hK23 => ?_
      refine w_if ?_
      simp only [W]
      refine w_cnd h (fun hc h => ?_) (fun hc h => ?_)
      · refine w_skip ?_
        refine seq_n hK23 ?_
        refine w_seq fun K24 hK24 => ?_
        refine w_blk fun K25 hK25 => ?_
        refine w_seq fun K26 hK26 => ?_
        refine w_reg gC ?_
        try simp only [W, EE, Nat.reduceAdd]
        refine w_ow 0 hS rfl rfl rfl rfl rfl h (fun b27 in28 wn28 on28 hb27 h en28 => ?_) qv10.ne
        obtain ⟨kn28, hbn28, hen28⟩ := hS.elem 0 rfl en28 hb27
        try simp only [W, EE, hbn28, hen28]
        refine seq_n hK26 ?_
        refine w_seq fun K29 hK29 => ?_
        refine w_reg gC ?_
        try simp only [W, EE, Nat.reduceAdd]
        refine w_call h fun b30 hb30 h => ?_
        refine spec_l1Bit_w hb30 hS fun H hS => ?_
        try simp only [W, EE]
        refine seq_n hK29 ?_
        refine w_seq fun K31 hK31 => ?_
        refine w_reg gC ?_
        try simp only [W, EE, Nat.reduceAdd]
        refine w_fz rfl rfl rfl (fun _ => rfl) h fun b32 hb32 h => ?_
        try simp only [W, EE, EN, Nat.reduceAdd, Nat.reduceBEq]
        refine seq_n hK31 ?_
        refine w_if ?_
        simp only [W]
        refine w_cnd h (fun hc h => ?_) (fun hc h => ?_)
        · refine w_seq fun K33 hK33 => ?_
          refine w_reg gC ?_
          try simp only [W, EE, Nat.reduceAdd]
          refine seq_n hK33 ?_
          refine w_ret ?_
          refine blk_r hK25 ?_
          refine seq_r hK24 ?_
          try obtain rfl := Option.some.inj h
          obtain rfl := hd19 _ rfl
          have h : (some (LR.done ((IntKind.i64.wrap (x13 + 1)), true, true)) : Option (LR Unit (Int × Bool × Bool))) = some (LR.done ((IntKind.i64.wrap (x13 + 1)), true, true)) := rfl
          refine lp_r hK18 ?_
          refine blk_r hK17 ?_
          try obtain rfl := Option.some.inj h
          obtain rfl := Option.some.inj g21
          have h : (some ((IntKind.i64.wrap (x13 + 1)), true, true) : Option (Int × Bool × Bool)) = some ((IntKind.i64.wrap (x13 + 1)), true, true) := rfl
          refine cut_r hK16 ?_
          refine seq_r hK7 ?_
          refine fin_r3 hK0 rfl rfl rfl ?_
          try obtain rfl := Option.some.inj h
          exact hP _ (hS.sel 1 [] (by decide))
        · refine w_skip ?_
          refine blk_n0 hK25 ?_
          refine seq_n hK24 ?_
          refine w_reg gC ?_
          try simp only [W, EE, Nat.reduceAdd]
          exact lp_n hK18 h ⟨rfl, hS⟩
      · refine w_exit ?_
        refine seq_x hK23 ?_
        try obtain rfl := Option.some.inj h
        obtain rfl := hd19 _ rfl
        have h : (some (LR.next ()) : Option (LR Unit (Int × Bool × Bool))) = some (LR.next ()) := rfl
        refine lp_x hK18 ?_
        refine blk_e hK17 ?_
        exact cut_n hK16 ⟨(Option.some.inj h).symm, rfl, (hS.sel 1 [] (by decide))⟩
    · obtain ⟨rfl, rfl, hS⟩ := hq
      replace h := g21
      try dsimp only at h
      refine seq_n hK7 ?_
      refine w_seq fun K40 hK40 => ?_
      refine w_reg gC ?_
      try simp only [W, Nat.reduceAdd]
      refine seq_n hK40 ?_
      refine w_ret ?_
      refine fin_r3 hK0 rfl rfl rfl ?_
      try obtain rfl := Option.some.inj h
      exact hP _ hS
theorem spec_DrawRunAgain_w {a0 : List Int} {r : (List Again × Int)} (h : spec_DrawRunAgain a0 = some r) {F : List It} {H : Heap} (hS : Own H (F)) {P : AV → Heap → Prop} (hP : ∀ v16 : AV, isSl v16 → ∀ H', Own H' (⟨v16, 2, r.1.map e_Again⟩ :: F) → P (.tup [v16, .int .i64 r.2]) H') : ACall C 81 [.fz (a0.map (AV.int .u8))] H P := by
  refine acall_of gC (res := [.tmp 2, .tmp 3]) (n := 13) rfl rfl rfl rfl fun K0 hK0 => ?_
  simp only [W, Nat.reduceSub, Nat.reduceAdd, List.replicate]
  unfold spec_DrawRunAgain at h
  refine w_seq fun K1 hK1 => ?_
  refine w_reg gC ?_
  try simp only [W, Nat.reduceAdd]
  refine seq_n hK1 ?_
  refine w_seq fun K2 hK2 => ?_
  refine w_reg gC ?_
  try simp only [W, EE, Nat.reduceAdd]
  refine w_bld rfl rfl rfl rfl rfl ?_
  try simp only [W]
  refine w_box hS rfl rfl rfl rfl fun ip3 wp3 H hS => ?_
  try simp only [W]
  refine seq_n hK2 ?_
  refine w_seq fun K5 hK5 => ?_
  refine w_regF (fz := [(4, [([11], [.sl [.sc]])])]) gC ?_
  try simp only [W, Nat.reduceAdd, Nat.reduceBEq]
  refine w_call h fun b6 hb6 h => ?_
  obtain ⟨b7, b8⟩ := b6
  try dsimp only at h
  refine spec_l1Cur_again_w hb6 hS fun v9 qv9 H hS => ?_
  try simp only [W, Nat.reduceAdd, Nat.reduceBEq]
  refine w_lit (el := ([0, 1, 20, 60, 200, 201] : List Int).map (AV.int .i64)) hS rfl rfl rfl rfl rfl rfl rfl fun v11 H qv11 hS => ?_
  try simp only [W, Nat.reduceAdd]
  refine FZ_own 0 hS rfl qv11 rfl (fun _ _ => by simp [takeE, takeT, plainA]) (fun _ => rfl) fun H hsame hS => ?_
  try simp only [W]
  refine w_call h fun b13 hb13 h => ?_
  obtain ⟨b14, b15⟩ := b13
  try dsimp only at h
  refine spec_l1Cur_among_w hb13 (hS.sel 2 [1, 0] (by decide)) fun H hS => ?_
  try simp only [W, Nat.reduceAdd, Nat.reduceBEq]
  refine seq_n hK5 ?_
  refine w_ret ?_
  refine fin_r2 hK0 rfl rfl ?_
  try obtain rfl := Option.some.inj h
  exact hP _ qv9 _ (hS.sel 2 [1] (by decide))
theorem impl_RunAgain_w {a0 : List Again} {a1 : Int} {r : (List Int × Bool)} (h : impl_RunAgain a0 a1 = some r) {F : List It} {H : Heap} (hS : Own H (F)) {P : AV → Heap → Prop} (hP : ∀ v16 : AV, isSl v16 → ∀ H', Own H' (⟨v16, 1, r.1.map (AV.int .i64)⟩ :: F) → P (.tup [v16, .bool r.2]) H') : ACall C 82 [.fz (a0.map e_Again), .int .i64 a1] H P := by
  refine acall_of gC (res := [.tmp 4, .tmp 5]) (n := 17) rfl rfl rfl rfl fun K0 hK0 => ?_
  simp only [W, Nat.reduceSub, Nat.reduceAdd, List.replicate]
  unfold impl_RunAgain at h
  refine w_seq fun K1 hK1 => ?_
  refine w_reg gC ?_
  try simp only [W, Nat.reduceAdd]
  refine seq_n hK1 ?_
  refine w_seq fun K2 hK2 => ?_
  refine w_seq fun K3 hK3 => ?_
  obtain ⟨y5, h, g6⟩ := Option.bind_eq_some_iff.1 h
  refine w_join gC (fun s H => ∃ x4 : Bool, y5 = (x4) ∧ s = [.fz (a0.map e_Again), .int .i64 a1, u, u, u, u, u, u, u, u, u, u, u, .bool x4, u, u, u] ∧ Own H (F)) (fun K7 hK7 => ?_) (fun s H hq => ?_)
  · refine w_seq fun K8 hK8 => ?_
    refine w_reg gC ?_
    try simp only [W, Nat.reduceAdd]
    refine w_call h fun b9 hb9 h => ?_
    refine impl_GoodAgain_w hb9 hS fun H hS => ?_
    try simp only [W]
    refine w_grdT h (fun hc h => ?_) (fun hc h => ?_)
    · try simp only [W, hc]
      refine seq_n hK8 ?_
      refine w_kill ?_
      exact cut_n hK7 ⟨_, (Option.some.inj h).symm, rfl, hS⟩
    · try simp only [W, hc]
      refine w_call h fun b10 hb10 h => ?_
      refine impl_in_w hb10 hS fun H hS => ?_
      try simp only [W, reduceIte, Bool.false_eq_true]
      refine seq_n hK8 ?_
      refine w_kill ?_
      exact cut_n hK7 ⟨_, (Option.some.inj h).symm, rfl, hS⟩
  · obtain ⟨x4, ey, rfl, hS⟩ := hq; obtain rfl := ey.symm
    replace h := g6
    try dsimp only at h
    refine seq_n hK3 ?_
    refine w_if ?_
    simp only [W]
    refine w_cnd h (fun hc h => ?_) (fun hc h => ?_)
    · refine w_seq fun K11 hK11 => ?_
      refine w_reg gC ?_
      try simp only [W, Nat.reduceAdd]
      refine seq_n hK11 ?_
      refine w_ret ?_
      refine seq_r hK2 ?_
      refine fin_r2 hK0 rfl rfl ?_
      try obtain rfl := Option.some.inj h
      exact hP _ isSl_nil _ (hS.nil_ 1)
    · refine w_skip ?_
      refine seq_n hK2 ?_
      refine w_seq fun K12 hK12 => ?_
      refine w_reg gC ?_
      try simp only [W, Nat.reduceAdd]
      refine w_call h fun b13 hb13 h => ?_
      refine impl_run_w hb13 hS fun v14 qv14 H hS => ?_
      try simp only [W]
      refine seq_n hK12 ?_
      refine w_ret ?_
      refine fin_r2 hK0 rfl rfl ?_
      try obtain rfl := Option.some.inj h
      exact hP _ qv14 _ hS
theorem spec_RunAgain_w {a0 : List Again} {a1 : Int} {r : (List Int × Bool)} (h : spec_RunAgain a0 a1 = some r) {F : List It} {H : Heap} (hS : Own H (F)) {P : AV → Heap → Prop} (hP : ∀ v16 : AV, isSl v16 → ∀ H', Own H' (⟨v16, 1, r.1.map (AV.int .i64)⟩ :: F) → P (.tup [v16, .bool r.2]) H') : ACall C 83 [.fz (a0.map e_Again), .int .i64 a1] H P := by
  refine acall_of gC (res := [.tmp 4, .tmp 5]) (n := 17) rfl rfl rfl rfl fun K0 hK0 => ?_
  simp only [W, Nat.reduceSub, Nat.reduceAdd, List.replicate]
  unfold spec_RunAgain at h
  refine w_seq fun K1 hK1 => ?_
  refine w_reg gC ?_
  try simp only [W, Nat.reduceAdd]
  refine seq_n hK1 ?_
  refine w_seq fun K2 hK2 => ?_
  refine w_seq fun K3 hK3 => ?_
  obtain ⟨y5, h, g6⟩ := Option.bind_eq_some_iff.1 h
  refine w_join gC (fun s H => ∃ x4 : Bool, y5 = (x4) ∧ s = [.fz (a0.map e_Again), .int .i64 a1, u, u, u, u, u, u, u, u, u, u, u, .bool x4, u, u, u] ∧ Own H (F)) (fun K7 hK7 => ?_) (fun s H hq => ?_)
  · refine w_seq fun K8 hK8 => ?_
    refine w_reg gC ?_
    try simp only [W, Nat.reduceAdd]
    refine w_call h fun b9 hb9 h => ?_
    refine spec_GoodAgain_w hb9 hS fun H hS => ?_
    try simp only [W]
    refine w_grdT h (fun hc h => ?_) (fun hc h => ?_)
    · try simp only [W, hc]
      refine seq_n hK8 ?_
      refine w_kill ?_
      exact cut_n hK7 ⟨_, (Option.some.inj h).symm, rfl, hS⟩
    · try simp only [W, hc]
      refine w_call h fun b10 hb10 h => ?_
      refine spec_l1In_w hb10 hS fun H hS => ?_
      try simp only [W, reduceIte, Bool.false_eq_true]
      refine seq_n hK8 ?_
      refine w_kill ?_
      exact cut_n hK7 ⟨_, (Option.some.inj h).symm, rfl, hS⟩
  · obtain ⟨x4, ey, rfl, hS⟩ := hq; obtain rfl := ey.symm
    replace h := g6
    try dsimp only at h
    refine seq_n hK3 ?_
    refine w_if ?_
    simp only [W]
    refine w_cnd h (fun hc h => ?_) (fun hc h => ?_)
    · refine w_seq fun K11 hK11 => ?_
      refine w_reg gC ?_
      try simp only [W, Nat.reduceAdd]
      refine seq_n hK11 ?_
      refine w_ret ?_
      refine seq_r hK2 ?_
      refine fin_r2 hK0 rfl rfl ?_
      try obtain rfl := Option.some.inj h
      exact hP _ isSl_nil _ (hS.nil_ 1)
    · refine w_skip ?_
      refine seq_n hK2 ?_
      refine w_seq fun K12 hK12 => ?_
      refine w_reg gC ?_
      try simp only [W, Nat.reduceAdd]
      refine w_call h fun b13 hb13 h => ?_
      refine spec_l6Run_w hb13 hS fun v14 qv14 H hS => ?_
      try simp only [W]
      refine seq_n hK12 ?_
      refine w_ret ?_
      refine fin_r2 hK0 rfl rfl ?_
      try obtain rfl := Option.some.inj h
      exact hP _ qv14 _ hS
theorem laws_sameInts_w {a0 : List Int} {a1 : List Int} {r : (Bool)} (h : laws_sameInts a0 a1 = some r) {F : List It} {H : Heap} (hS : Own H (F)) {P : AV → Heap → Prop} (hP : ∀ H', Own H' (F) → P (.bool r) H') : ACall C 84 [.fz (a0.map (AV.int .i64)), .fz (a1.map (AV.int .i64))] H P := by
  refine acall_of gC (res := [.tmp 4]) (n := 26) rfl rfl rfl rfl fun K0 hK0 => ?_
  simp only [W, Nat.reduceSub, Nat.reduceAdd, List.replicate]
  unfold laws_sameInts at h
  refine w_seq fun K1 hK1 => ?_
  refine w_reg gC ?_
  try simp only [W, Nat.reduceAdd]
  refine seq_n hK1 ?_
  refine w_seq fun K2 hK2 => ?_
  refine w_seq fun K3 hK3 => ?_
  refine w_reg gC ?_
  try simp only [W, EE, Nat.reduceAdd]
  refine seq_n hK3 ?_
  refine w_if ?_
  simp only [W]
  refine w_cnd h (fun hc h => ?_) (fun hc h => ?_)
  · refine w_seq fun K4 hK4 => ?_
    refine w_reg gC ?_
    try simp only [W, Nat.reduceAdd]
    refine seq_n hK4 ?_
    refine w_ret ?_
    refine seq_r hK2 ?_
    refine fin_r1 hK0 rfl ?_
    try obtain rfl := Option.some.inj h
    exact hP _ hS
  · refine w_skip ?_
    refine seq_n hK2 ?_
    refine w_seq fun K5 hK5 => ?_
    refine w_seq fun K6 hK6 => ?_
    refine w_reg gC ?_
    try simp only [W, EE, Nat.reduceAdd]
    refine seq_n hK6 ?_
    obtain ⟨y8, hw9, g15⟩ := Option.bind_eq_some_iff.1 h
    refine w_join gC (fun s H => y8 = LR.next () ∧ s = [u, u, u, u, u, u, u, u, u, u, u, u, u, u, u, u, u, u, u, u, u, u, u, u, u, u] ∧ Own H (F)) (fun K10 hK10 => ?_) (fun s H hq => ?_)
    · refine w_blk fun K11 hK11 => ?_
      refine w_loop gC hw9 (fun x s H => s = [.fz (a0.map (AV.int .i64)), .fz (a1.map (AV.int .i64)), u, u, u, u, u, u, u, u, u, u, .int .i64 (a0.length : Int), .int .i64 x, u, u, u, u, u, u, u, u, u, u, u, u] ∧ Own H (F)) ⟨rfl, hS⟩ (fun x7 y14 s H h hd13 hi K12 hK12 => ?_)
      skip
      try dsimp only at hi
      obtain ⟨rfl, hS⟩ := hi
      simp only [laws_sameInts_l0] at h
      refine w_seq fun K16 hK16 => ?_
      refine w_reg gC ?_
      try simp only [W, EE, Nat.reduceAdd]
      refine seq_n hK16 ?_
      refine w_seq fun K17 hK17 => ?_
      refine w_if ?_
      simp only [W]
      refine w_cnd h (fun hc h => ?_) (fun hc h => ?_)
      · refine w_skip ?_
        refine seq_n hK17 ?_
        refine w_seq fun K18 hK18 => ?_
        refine w_blk fun K19 hK19 => ?_
        refine w_seq fun K20 hK20 => ?_
        refine w_reg gC ?_
        try simp only [W, Nat.reduceAdd]
        refine seq_n hK20 ?_
        refine w_seq fun K21 hK21 => ?_
        refine w_draw0 gC (by kernel_rfl) ?_
        try simp only [W, EE, Nat.reduceAdd]
        refine w_fz rfl rfl rfl (fun _ => rfl) h fun b22 hb22 h => ?_
        try simp only [W, EE]
        refine w_fz rfl rfl rfl (fun _ => rfl) h fun b23 hb23 h => ?_
        try simp only [W, EE]
        refine seq_n hK21 ?_
        refine w_if ?_
        simp only [W]
        refine w_cnd h (fun hc h => ?_) (fun hc h => ?_)
        · refine w_seq fun K24 hK24 => ?_
          refine w_reg gC ?_
          try simp only [W, Nat.reduceAdd]
          refine seq_n hK24 ?_
          refine w_ret ?_
          refine blk_r hK19 ?_
          refine seq_r hK18 ?_
          try obtain rfl := Option.some.inj h
          obtain rfl := hd13 _ rfl
          have h : (some (LR.done false) : Option (LR Unit (Bool))) = some (LR.done false) := rfl
          refine lp_r hK12 ?_
          refine blk_r hK11 ?_
          try obtain rfl := Option.some.inj h
          obtain rfl := Option.some.inj g15
          have h : (some false : Option (Bool)) = some false := rfl
          refine cut_r hK10 ?_
          refine seq_r hK5 ?_
          refine fin_r1 hK0 rfl ?_
          try obtain rfl := Option.some.inj h
          exact hP _ hS
        · refine w_skip ?_
          refine blk_n0 hK19 ?_
          refine seq_n hK18 ?_
          refine w_reg gC ?_
          try simp only [W, EE, Nat.reduceAdd]
          exact lp_n hK12 h ⟨rfl, hS⟩
      · refine w_exit ?_
        refine seq_x hK17 ?_
        try obtain rfl := Option.some.inj h
        obtain rfl := hd13 _ rfl
        have h : (some (LR.next ()) : Option (LR Unit (Bool))) = some (LR.next ()) := rfl
        refine lp_x hK12 ?_
        refine blk_e hK11 ?_
        exact cut_n hK10 ⟨(Option.some.inj h).symm, rfl, hS⟩
    · obtain ⟨rfl, rfl, hS⟩ := hq
      replace h := g15
      try dsimp only at h
      refine seq_n hK5 ?_
      refine w_seq fun K31 hK31 => ?_
      refine w_reg gC ?_
      try simp only [W, Nat.reduceAdd]
      refine seq_n hK31 ?_
      refine w_ret ?_
      refine fin_r1 hK0 rfl ?_
      try obtain rfl := Option.some.inj h
      exact hP _ hS
theorem laws_FnAgain_w {a0 : List Int} {a1 : List Int} {r : (Bool)} (h : laws_FnAgain a0 a1 = some r) {F : List It} {H : Heap} (hS : Own H (F)) {P : AV → Heap → Prop} (hP : ∀ H', Own H' (F) → P (.bool r) H') : ACall C 14 [.fz (a0.map (AV.int .u8)), .fz (a1.map (AV.int .u8))] H P := by
  refine acall_of gC (res := [.tmp 4]) (n := 180) rfl rfl rfl rfl fun K0 hK0 => ?_
  simp only [W, Nat.reduceSub, Nat.reduceAdd, List.replicate]
  unfold laws_FnAgain at h
  refine w_seq fun K1 hK1 => ?_
  refine w_reg gC ?_
  try simp only [W, Nat.reduceAdd]
  refine seq_n hK1 ?_
  refine w_seq fun K2 hK2 => ?_
  refine w_seq fun K3 hK3 => ?_
  refine w_reg gC ?_
  try simp only [W, EE, Nat.reduceAdd]
  refine seq_n hK3 ?_
  refine w_if ?_
  simp only [W]
  refine w_cnd h (fun hc h => ?_) (fun hc h => ?_)
  · refine w_seq fun K4 hK4 => ?_
    refine w_reg gC ?_
    try simp only [W, Nat.reduceAdd]
    refine seq_n hK4 ?_
    refine w_ret ?_
    refine seq_r hK2 ?_
    refine fin_r1 hK0 rfl ?_
    try obtain rfl := Option.some.inj h
    exact hP _ hS
  · refine w_skip ?_
    refine seq_n hK2 ?_
    refine w_seq fun K5 hK5 => ?_
    refine w_reg gC ?_
    try simp only [W, Nat.reduceAdd]
    refine w_call h fun b6 hb6 h => ?_
    obtain ⟨b7, b8⟩ := b6
    try dsimp only at h
    refine spec_DrawLongestOf_w hb6 hS fun v9 qv9 H hS => ?_
    try simp only [W]
    refine seq_n hK5 ?_
    refine w_seq fun K11 hK11 => ?_
    refine w_reg gC ?_
    try simp only [W, Nat.reduceAdd]
    refine w_callS (rsh := [[.sc], [.sc], [.sc]]) (ys := [.fz (b7.map e_Again), .int .i64 b8]) h rfl (pv_c (sn_ow hS 0 rfl qv9 (fun _ => rfl)) (pv_c rfl pv_n)) fun b12 hb12 h => ⟨.tup [.int .i64 b12.1, .bool b12.2.1, .bool b12.2.2], impl_LongestOf_w hb12 (Own.nil _) fun H hS => TV_ok rfl (TV_p rfl (TV_p rfl (TV_p rfl (TV_n rfl)))), ⟨rfl, rfl, fun _ => rfl⟩, ?_⟩
    obtain ⟨b13, b14, b15⟩ := b12
    try dsimp only at h
    try simp only [W]
    refine seq_n hK11 ?_
    refine w_seq fun K16 hK16 => ?_
    refine w_reg gC ?_
    try simp only [W, Nat.reduceAdd]
    refine w_callS (rsh := [[.sc], [.sc], [.sc]]) (ys := [.fz (b7.map e_Again), .int .i64 b8]) h rfl (pv_c (sn_ow hS 0 rfl qv9 (fun _ => rfl)) (pv_c rfl pv_n)) fun b17 hb17 h => ⟨.tup [.int .i64 b17.1, .bool b17.2.1, .bool b17.2.2], spec_LongestOf_w hb17 (Own.nil _) fun H hS => TV_ok rfl (TV_p rfl (TV_p rfl (TV_p rfl (TV_n rfl)))), ⟨rfl, rfl, fun _ => rfl⟩, ?_⟩
    obtain ⟨b18, b19, b20⟩ := b17
    try dsimp only at h
    try simp only [W]
    refine seq_n hK16 ?_
    refine w_seq fun K21 hK21 => ?_
    refine w_reg gC ?_
    try simp only [W, Nat.reduceAdd]
    refine w_callS (rsh := [[.sc], [.sc], [.sc]]) (ys := [.fz (b7.map e_Again), .int .i64 b8]) h rfl (pv_c (sn_ow hS 0 rfl qv9 (fun _ => rfl)) (pv_c rfl pv_n)) fun b22 hb22 h => ⟨.tup [.int .i64 b22.1, .bool b22.2.1, .bool b22.2.2], impl_FirstDone_w hb22 (Own.nil _) fun H hS => TV_ok rfl (TV_p rfl (TV_p rfl (TV_p rfl (TV_n rfl)))), ⟨rfl, rfl, fun _ => rfl⟩, ?_⟩
    obtain ⟨b23, b24, b25⟩ := b22
    try dsimp only at h
    try simp only [W]
    refine seq_n hK21 ?_
    refine w_seq fun K26 hK26 => ?_
    refine w_reg gC ?_
    try simp only [W, Nat.reduceAdd]
    refine w_callS (rsh := [[.sc], [.sc], [.sc]]) (ys := [.fz (b7.map e_Again), .int .i64 b8]) h rfl (pv_c (sn_ow hS 0 rfl qv9 (fun _ => rfl)) (pv_c rfl pv_n)) fun b27 hb27 h => ⟨.tup [.int .i64 b27.1, .bool b27.2.1, .bool b27.2.2], spec_FirstDone_w hb27 (Own.nil _) fun H hS => TV_ok rfl (TV_p rfl (TV_p rfl (TV_p rfl (TV_n rfl)))), ⟨rfl, rfl, fun _ => rfl⟩, ?_⟩
    obtain ⟨b28, b29, b30⟩ := b27
    try dsimp only at h
    try simp only [W]
    refine seq_n hK26 ?_
    refine w_seq fun K31 hK31 => ?_
    refine w_seq fun K32 hK32 => ?_
    obtain ⟨y34, h, g35⟩ := Option.bind_eq_some_iff.1 h
    refine w_join gC (fun s H => ∃ x33 : Bool, y34 = (x33) ∧ s = [u, .fz (a1.map (AV.int .u8)), u, u, u, u, u, .int .i64 b13, .bool b14, .bool b15, u, u, u, .int .i64 b23, .bool b24, .bool b25, u, u, u, u, u, u, u, u, u, u, u, u, u, u, u, u, u, u, u, u, u, u, u, u, u, u, u, u, u, u, u, u, u, u, u, u, u, u, u, u, u, u, u, u, u, u, u, u, u, u, u, u, u, u, u, u, u, u, u, u, u, u, u, u, u, u, u, u, u, u, u, u, u, u, u, u, u, u, u, u, u, u, u, u, u, u, u, .bool x33, u, u, u, u, u, u, u, u, u, u, u, u, u, u, u, u, u, u, u, u, u, u, u, u, u, u, u, u, u, u, u, u, u, u, u, u, u, u, u, u, u, u, u, u, u, u, u, u, u, u, u, u, u, u, u, u, u, u, u, u, u, u, u, u, u, u, u, u, u, u, u, u, u, u, u, u] ∧ Own H (F)) (fun K36 hK36 => ?_) (fun s H hq => ?_)
    · refine w_seq fun K37 hK37 => ?_
      refine w_reg gC ?_
      try simp only [W, EE, Nat.reduceAdd]
      rw [b_bneq _ _ _ _ (h := rfl) rfl, resV_s]
      try simp only [W]
      refine w_grdT h (fun hc h => ?_) (fun hc h => ?_)
      · try simp only [W, hc]
        refine seq_n hK37 ?_
        refine w_kill ?_
        exact cut_n hK36 ⟨_, (Option.some.inj h).symm, rfl, (hS.sel 1 [] (by decide))⟩
      · try simp only [W, EE, hc]
        rw [b_bneq _ _ _ _ (h := rfl) rfl, resV_s]
        try simp only [W, reduceIte, Bool.false_eq_true]
        refine w_grdT h (fun hc h => ?_) (fun hc h => ?_)
        · try simp only [W, hc]
          refine seq_n hK37 ?_
          refine w_kill ?_
          exact cut_n hK36 ⟨_, (Option.some.inj h).symm, rfl, (hS.sel 1 [] (by decide))⟩
        · try simp only [W, EE, reduceIte, Bool.false_eq_true, hc]
          refine w_grdT h (fun hc h => ?_) (fun hc h => ?_)
          · try simp only [W, hc]
            refine seq_n hK37 ?_
            refine w_kill ?_
            exact cut_n hK36 ⟨_, (Option.some.inj h).symm, rfl, (hS.sel 1 [] (by decide))⟩
          · try simp only [W, EE, hc]
            rw [b_bneq _ _ _ _ (h := rfl) rfl, resV_s]
            try simp only [W, reduceIte, Bool.false_eq_true]
            refine w_grdT h (fun hc h => ?_) (fun hc h => ?_)
            · try simp only [W, hc]
              refine seq_n hK37 ?_
              refine w_kill ?_
              exact cut_n hK36 ⟨_, (Option.some.inj h).symm, rfl, (hS.sel 1 [] (by decide))⟩
            · try simp only [W, EE, hc]
              rw [b_bneq _ _ _ _ (h := rfl) rfl, resV_s]
              try simp only [W, reduceIte, Bool.false_eq_true]
              refine w_grdT h (fun hc h => ?_) (fun hc h => ?_)
              · try simp only [W, hc]
                refine seq_n hK37 ?_
                refine w_kill ?_
                exact cut_n hK36 ⟨_, (Option.some.inj h).symm, rfl, (hS.sel 1 [] (by decide))⟩
              · try simp only [W, EE, reduceIte, Bool.false_eq_true, hc]
                refine w_grdT h (fun hc h => ?_) (fun hc h => ?_)
                · try simp only [W, hc]
                  refine seq_n hK37 ?_
                  refine w_kill ?_
                  exact cut_n hK36 ⟨_, (Option.some.inj h).symm, rfl, (hS.sel 1 [] (by decide))⟩
                · try simp only [W, hc]
                  refine w_callS (rsh := [[.sc]]) (ys := [.fz (b7.map e_Again)]) h rfl (pv_c (sn_ow hS 0 rfl qv9 (fun _ => rfl)) pv_n) fun b38 hb38 h => ⟨.bool b38, impl_GoodAgain_w hb38 (Own.nil _) fun H hS => TV_ok rfl (TV_p rfl (TV_n rfl)), ⟨rfl, rfl, fun _ => rfl⟩, ?_⟩
                  try simp only [W]
                  refine w_callS (rsh := [[.sc]]) (ys := [.fz (b7.map e_Again)]) h rfl (pv_c (sn_ow hS 0 rfl qv9 (fun _ => rfl)) pv_n) fun b39 hb39 h => ⟨.bool b39, spec_GoodAgain_w hb39 (Own.nil _) fun H hS => TV_ok rfl (TV_p rfl (TV_n rfl)), ⟨rfl, rfl, fun _ => rfl⟩, ?_⟩
                  try simp only [W, EE]
                  rw [b_bneq _ _ _ _ (h := rfl) rfl, resV_s]
                  try simp only [W, reduceIte, Bool.false_eq_true]
                  refine seq_n hK37 ?_
                  refine w_kill ?_
                  exact cut_n hK36 ⟨_, (Option.some.inj h).symm, rfl, (hS.sel 1 [] (by decide))⟩
    · obtain ⟨x33, ey, rfl, hS⟩ := hq; obtain rfl := ey.symm
      replace h := g35
      try dsimp only at h
      refine seq_n hK32 ?_
      refine w_if ?_
      simp only [W]
      refine w_cnd h (fun hc h => ?_) (fun hc h => ?_)
      · refine w_seq fun K40 hK40 => ?_
        refine w_reg gC ?_
        try simp only [W, Nat.reduceAdd]
        refine seq_n hK40 ?_
        refine w_ret ?_
        refine seq_r hK31 ?_
        refine fin_r1 hK0 rfl ?_
        try obtain rfl := Option.some.inj h
        exact hP _ hS
      · refine w_skip ?_
        refine seq_n hK31 ?_
        refine w_seq fun K41 hK41 => ?_
        refine w_seq fun K42 hK42 => ?_
        obtain ⟨y44, h, g45⟩ := Option.bind_eq_some_iff.1 h
        refine w_join gC (fun s H => ∃ x43 : Bool, y44 = (x43) ∧ s = [u, .fz (a1.map (AV.int .u8)), u, u, u, u, u, u, u, u, u, u, u, u, u, u, u, u, u, u, u, u, u, u, u, u, u, u, u, u, u, u, u, u, u, u, u, u, u, u, u, u, u, u, u, u, u, u, u, u, u, u, u, u, u, u, u, u, u, u, u, u, u, u, u, u, u, u, u, u, u, u, u, u, u, u, u, u, u, u, u, u, u, u, u, u, u, u, u, u, u, u, u, u, u, u, u, u, u, u, u, u, u, u, u, u, u, u, u, u, u, u, u, u, u, u, u, u, u, u, u, .bool x43, u, u, u, u, u, u, u, u, u, u, u, u, u, u, u, u, u, u, u, u, u, u, u, u, u, u, u, u, u, u, u, u, u, u, u, u, u, u, u, u, u, u, u, u, u, u, u, u, u, u, u, u, u, u, u, u, u, u] ∧ Own H (F)) (fun K46 hK46 => ?_) (fun s H hq => ?_)
        · refine w_seq fun K47 hK47 => ?_
          refine w_reg gC ?_
          try simp only [W, Nat.reduceAdd]
          refine w_grdT h (fun hc h => ?_) (fun hc h => ?_)
          · try simp only [W, hc]
            refine w_grdT h (fun hc h => ?_) (fun hc h => ?_)
            · try simp only [W, reduceIte, hc]
              refine seq_n hK47 ?_
              refine w_kill ?_
              exact cut_n hK46 ⟨_, (Option.some.inj h).symm, rfl, hS⟩
            · try simp only [W, EE, hc]
              rw [b_bneq _ _ _ _ (h := rfl) rfl, resV_s]
              try simp only [W, reduceIte, Bool.false_eq_true]
              refine w_grdT h (fun hc h => ?_) (fun hc h => ?_)
              · try simp only [W, reduceIte, hc]
                refine seq_n hK47 ?_
                refine w_kill ?_
                exact cut_n hK46 ⟨_, (Option.some.inj h).symm, rfl, hS⟩
              · try simp only [W, hc]
                refine w_grdT h (fun hc h => ?_) (fun hc h => ?_)
                · try simp only [W, EE, reduceIte, Bool.false_eq_true, hc]
                  refine seq_n hK47 ?_
                  refine w_kill ?_
                  exact cut_n hK46 ⟨_, (Option.some.inj h).symm, rfl, hS⟩
                · try simp only [W, reduceIte, Bool.false_eq_true, hc]
                  refine seq_n hK47 ?_
                  refine w_kill ?_
                  exact cut_n hK46 ⟨_, (Option.some.inj h).symm, rfl, hS⟩
          · try simp only [W, hc]
            refine seq_n hK47 ?_
            refine w_kill ?_
            exact cut_n hK46 ⟨_, (Option.some.inj h).symm, rfl, hS⟩
        · obtain ⟨x43, ey, rfl, hS⟩ := hq; obtain rfl := ey.symm
          replace h := g45
          try dsimp only at h
          refine seq_n hK42 ?_
          refine w_if ?_
          simp only [W]
          refine w_cnd h (fun hc h => ?_) (fun hc h => ?_)
          · refine w_seq fun K48 hK48 => ?_
            refine w_reg gC ?_
            try simp only [W, Nat.reduceAdd]
            refine seq_n hK48 ?_
            refine w_ret ?_
            refine seq_r hK41 ?_
            refine fin_r1 hK0 rfl ?_
            try obtain rfl := Option.some.inj h
            exact hP _ hS
          · refine w_skip ?_
            refine seq_n hK41 ?_
            refine w_seq fun K49 hK49 => ?_
            refine w_reg gC ?_
            try simp only [W, Nat.reduceAdd]
            refine w_call h fun b50 hb50 h => ?_
            obtain ⟨b51, b52⟩ := b50
            try dsimp only at h
            refine spec_DrawRunAgain_w hb50 hS fun v53 qv53 H hS => ?_
            try simp only [W]
            refine seq_n hK49 ?_
            refine w_seq fun K55 hK55 => ?_
            refine w_reg gC ?_
            try simp only [W, Nat.reduceAdd, Nat.reduceBEq, List.contains_cons, Nat.reduceBEq, Bool.or_self]
            refine w_callO (rsh := [[.sl [.sc]], [.sc]]) (ys := [.fz (b51.map e_Again), .int .i64 b52]) h rfl (pv_c (sn_ow hS 0 rfl qv53 (fun _ => rfl)) (pv_c rfl pv_n)) fun b56 hb56 h => ⟨.tup [.own 1 (b56.1.map (AV.int .i64)), .bool b56.2], impl_RunAgain_w hb56 (Own.nil _) fun v59 qv59 H hS => TV_ok rfl (TV_o 0 hS rfl qv59 (fun _ _ => by simp [takeE, takeT, plainA]) fun H hS => TV_p rfl (TV_n rfl)), (nf_t (nf_c (noFz_o _ (fun _ => rfl) _) (nf_c rfl nf_n))), ?_⟩
            refine thaw_tup ?_
            refine TH_o hS (fun _ _ => rfl) (fun _ => rfl) fun v61 H qv61 hS => ?_
            refine TH_p (fun _ => rfl) ?_
            refine TH_n ?_
            try simp only [List.headD_cons]
            obtain ⟨b57, b58⟩ := b56
            try dsimp only at h
            try simp only [W]
            refine seq_n hK55 ?_
            refine w_seq fun K62 hK62 => ?_
            refine w_reg gC ?_
            try simp only [W, Nat.reduceAdd, Nat.reduceBEq, List.contains_cons, Nat.reduceBEq, Bool.or_self]
            refine w_callO (rsh := [[.sl [.sc]], [.sc]]) (ys := [.fz (b51.map e_Again), .int .i64 b52]) h rfl (pv_c (sn_ow hS 1 rfl qv53 (fun _ => rfl)) (pv_c rfl pv_n)) fun b63 hb63 h => ⟨.tup [.own 1 (b63.1.map (AV.int .i64)), .bool b63.2], spec_RunAgain_w hb63 (Own.nil _) fun v66 qv66 H hS => TV_ok rfl (TV_o 0 hS rfl qv66 (fun _ _ => by simp [takeE, takeT, plainA]) fun H hS => TV_p rfl (TV_n rfl)), (nf_t (nf_c (noFz_o _ (fun _ => rfl) _) (nf_c rfl nf_n))), ?_⟩
            refine thaw_tup ?_
            refine TH_o hS (fun _ _ => rfl) (fun _ => rfl) fun v68 H qv68 hS => ?_
            refine TH_p (fun _ => rfl) ?_
            refine TH_n ?_
            try simp only [List.headD_cons]
            obtain ⟨b64, b65⟩ := b63
            try dsimp only at h
            try simp only [W]
            refine seq_n hK62 ?_
            refine w_seq fun K69 hK69 => ?_
            refine w_seq fun K70 hK70 => ?_
            obtain ⟨y72, h, g73⟩ := Option.bind_eq_some_iff.1 h
            refine w_join gC (fun s H => ∃ x71 : Bool, y72 = (x71) ∧ s = [u, u, u, u, u, u, u, u, u, u, u, u, u, u, u, u, u, u, u, v53, u, v61, .bool b58, u, u, u, u, u, u, u, u, u, u, u, u, u, u, u, u, u, u, u, u, u, u, u, u, u, u, u, u, u, u, u, u, u, u, u, u, u, u, u, u, u, u, u, u, u, u, u, u, u, u, u, u, u, u, u, u, u, u, u, u, u, u, u, u, u, u, u, u, u, u, u, u, u, u, u, u, u, u, u, u, u, u, u, u, u, u, u, u, u, u, u, u, u, u, u, u, u, u, u, u, u, u, u, u, u, u, u, u, u, u, u, u, u, u, u, u, u, u, u, u, u, u, u, u, .bool x71, u, u, u, u, u, u, u, u, u, u, u, u, u, u, u, u, u, u, u, u, u, u, u, u, u, u, u, u, u, u, u, u] ∧ Own H (⟨v53, 2, b51.map e_Again⟩ :: ⟨v61, 1, b57.map (AV.int .i64)⟩ :: F)) (fun K74 hK74 => ?_) (fun s H hq => ?_)
            · refine w_seq fun K75 hK75 => ?_
              refine w_reg gC ?_
              try simp only [W, EE, Nat.reduceAdd]
              rw [b_bneq _ _ _ _ (h := rfl) rfl, resV_s]
              try simp only [W]
              refine w_grdT h (fun hc h => ?_) (fun hc h => ?_)
              · try simp only [W, hc]
                refine seq_n hK75 ?_
                refine w_kill ?_
                exact cut_n hK74 ⟨_, (Option.some.inj h).symm, rfl, (hS.sel 3 [2, 1] (by decide))⟩
              · try simp only [W, hc]
                refine w_callS (rsh := [[.sc]]) (ys := [.fz (b57.map (AV.int .i64)), .fz (b64.map (AV.int .i64))]) h rfl (pv_c (sn_ow hS 1 rfl qv61 (fun _ => rfl)) (pv_c (sn_ow hS 0 rfl qv68 (fun _ => rfl)) pv_n)) fun b76 hb76 h => ⟨.bool b76, laws_sameInts_w hb76 (Own.nil _) fun H hS => TV_ok rfl (TV_p rfl (TV_n rfl)), ⟨rfl, rfl, fun _ => rfl⟩, ?_⟩
                try simp only [W, reduceIte, Bool.false_eq_true]
                refine seq_n hK75 ?_
                refine w_kill ?_
                exact cut_n hK74 ⟨_, (Option.some.inj h).symm, rfl, (hS.sel 3 [2, 1] (by decide))⟩
            · obtain ⟨x71, ey, rfl, hS⟩ := hq; obtain rfl := ey.symm
              replace h := g73
              try dsimp only at h
              refine seq_n hK70 ?_
              refine w_if ?_
              simp only [W]
              refine w_cnd h (fun hc h => ?_) (fun hc h => ?_)
              · refine w_seq fun K77 hK77 => ?_
                refine w_reg gC ?_
                try simp only [W, Nat.reduceAdd]
                refine seq_n hK77 ?_
                refine w_ret ?_
                refine seq_r hK69 ?_
                refine fin_r1 hK0 rfl ?_
                try obtain rfl := Option.some.inj h
                exact hP _ (hS.sel 2 [] (by decide))
              · refine w_skip ?_
                refine seq_n hK69 ?_
                refine w_seq fun K78 hK78 => ?_
                refine w_seq fun K79 hK79 => ?_
                refine w_reg gC ?_
                try simp only [W, Nat.reduceAdd]
                refine seq_n hK79 ?_
                obtain ⟨y80, h, g81⟩ := Option.bind_eq_some_iff.1 h
                refine w_join gC (fun s H => y80 = LR.next () ∧ s = [u, u, u, u, u, u, u, u, u, u, u, u, u, u, u, u, u, u, u, u, u, u, u, u, u, u, u, u, u, u, u, u, u, u, u, u, u, u, u, u, u, u, u, u, u, u, u, u, u, u, u, u, u, u, u, u, u, u, u, u, u, u, u, u, u, u, u, u, u, u, u, u, u, u, u, u, u, u, u, u, u, u, u, u, u, u, u, u, u, u, u, u, u, u, u, u, u, u, u, u, u, u, u, u, u, u, u, u, u, u, u, u, u, u, u, u, u, u, u, u, u, u, u, u, u, u, u, u, u, u, u, u, u, u, u, u, u, u, u, u, u, u, u, u, u, u, u, u, u, u, u, u, u, u, u, u, u, u, u, u, u, u, u, u, u, u, u, u, u, u, u, u, u, u, u, u, u, u, u, u] ∧ Own H (F)) (fun K82 hK82 => ?_) (fun s H hq => ?_)
                · refine w_seq fun K83 hK83 => ?_
                  refine w_if ?_
                  simp only [W]
                  refine w_cnd h (fun hc h => ?_) (fun hc h => ?_)
                  · refine w_seq fun K84 hK84 => ?_
                    refine w_reg gC ?_
                    try simp only [W, EE, Nat.reduceAdd]
                    refine w_len 0 hS rfl qv53 rfl ?_
                    try simp only [W]
                    refine seq_n hK84 ?_
                    obtain ⟨y86, hw87, g93⟩ := Option.bind_eq_some_iff.1 h
                    refine w_join gC (fun s H => y86 = LR.next () ∧ s = [u, u, u, u, u, u, u, u, u, u, u, u, u, u, u, u, u, u, u, u, u, u, u, u, u, u, u, u, u, u, u, u, u, u, u, u, u, u, u, u, u, u, u, u, u, u, u, u, u, u, u, u, u, u, u, u, u, u, u, u, u, u, u, u, u, u, u, u, u, u, u, u, u, u, u, u, u, u, u, u, u, u, u, u, u, u, u, u, u, u, u, u, u, u, u, u, u, u, u, u, u, u, u, u, u, u, u, u, u, u, u, u, u, u, u, u, u, u, u, u, u, u, u, u, u, u, u, u, u, u, u, u, u, u, u, u, u, u, u, u, u, u, u, u, u, u, u, u, u, u, u, u, u, u, u, u, u, u, u, u, u, u, u, u, u, u, u, u, u, u, u, u, u, u, u, u, u, u, u, u] ∧ Own H (F)) (fun K88 hK88 => ?_) (fun s H hq => ?_)
                    · refine w_blk fun K89 hK89 => ?_
                      refine w_loop gC hw87 (fun x s H => s = [u, u, u, u, u, u, u, u, u, u, u, u, u, u, u, u, u, u, u, u, u, v61, u, u, u, u, u, u, u, u, u, u, u, u, u, u, u, u, u, u, u, u, u, u, u, u, u, u, u, u, u, u, u, u, u, u, u, u, u, u, u, u, u, u, u, u, u, u, u, u, u, u, u, u, u, u, u, u, u, u, u, u, u, u, u, u, u, u, u, u, u, u, u, u, u, u, u, u, u, u, u, u, u, u, u, u, u, u, u, u, u, u, u, u, u, u, u, u, u, u, u, u, u, u, u, u, u, u, u, u, u, u, u, u, u, u, u, u, u, u, u, u, u, u, u, u, u, u, u, v53, .int .i64 (b51.length : Int), .int .i64 x, u, u, u, u, u, u, u, u, u, u, u, u, u, u, u, u, u, u, u, u, u, u, u, u, u, u, u, u] ∧ Own H (⟨v61, 1, b57.map (AV.int .i64)⟩ :: ⟨v53, 2, b51.map e_Again⟩ :: F)) ⟨rfl, (hS.sel 2 [1, 0] (by decide))⟩ (fun x85 y92 s H h hd91 hi K90 hK90 => ?_)
                      skip
                      try dsimp only at hi
                      obtain ⟨rfl, hS⟩ := hi
                      simp only [laws_FnAgain_l1] at h
                      refine w_seq fun K94 hK94 => ?_
                      refine w_reg gC ?_
                      try simp only [W, EE, Nat.reduceAdd]
                      refine seq_n hK94 ?_
                      refine w_seq fun K95 hK95 => ?_
                      refine w_if ?_
                      simp only [W]
                      refine w_cnd h (fun hc h => ?_) (fun hc h => ?_)
                      · refine w_skip ?_
                        refine seq_n hK95 ?_
                        refine w_seq fun K96 hK96 => ?_
                        refine w_blk fun K97 hK97 => ?_
                        refine w_seq fun K98 hK98 => ?_
                        refine w_reg gC ?_
                        try simp only [W, EE, Nat.reduceAdd]
                        refine w_ow 1 hS rfl rfl rfl rfl rfl h (fun b99 in100 wn100 on100 hb99 h en100 => ?_) qv53.ne
                        obtain ⟨kn100, hbn100, hen100⟩ := hS.elem 1 rfl en100 hb99
                        try simp only [W, EE, EN, reduceIte, Nat.reduceAdd, Nat.reduceLeDiff, hbn100, hen100]
                        refine w_alloc hS rfl rfl fun ip101 wp101 H hS => ?_
                        try simp only [W]
                        refine w_stv (a := .agg [.int .i64 b99.Need, .int .i64 b99.Every]) (y' := .agg [.int .i64 b99.Need, .int .i64 b99.Every]) 0 hS rfl rfl rfl rfl rfl rfl rfl rfl fun H hS => ?_
                        try simp only [W]
                        refine seq_n hK98 ?_
                        refine w_seq fun K103 hK103 => ?_
                        refine w_reg gC ?_
                        try simp only [W, Nat.reduceAdd]
                        refine seq_n hK103 ?_
                        refine w_seq fun K104 hK104 => ?_
                        refine w_reg gC ?_
                        try simp only [W, EE, Nat.reduceAdd]
                        refine w_len 1 hS rfl qv61 rfl ?_
                        try simp only [W]
                        refine seq_n hK104 ?_
                        obtain ⟨y107, hw108, g114⟩ := Option.bind_eq_some_iff.1 h
                        refine w_join gC (fun s H => y107 = LR.next () ∧ s = [u, u, u, u, u, u, u, u, u, u, u, u, u, u, u, u, u, u, u, u, u, v61, u, u, u, u, u, u, u, u, u, u, u, u, u, u, u, u, u, u, u, u, u, u, u, u, u, u, u, u, u, u, u, u, u, u, u, u, u, u, u, u, u, u, u, u, u, u, u, u, u, u, u, u, u, u, u, u, u, u, u, u, u, u, u, u, u, u, u, u, u, u, u, u, u, u, u, u, u, u, u, u, u, u, u, u, u, u, u, u, u, u, u, u, u, u, u, u, u, u, u, u, u, u, u, u, u, u, u, u, u, u, u, u, u, u, u, u, u, u, u, u, u, u, u, u, u, u, u, v53, .int .i64 (b51.length : Int), .int .i64 x85, u, u, u, u, u, u, u, u, u, u, u, u, u, u, u, u, u, u, u, u, u, u, u, u, u, u, u, u] ∧ Own H (⟨v61, 1, b57.map (AV.int .i64)⟩ :: ⟨v53, 2, b51.map e_Again⟩ :: F)) (fun K109 hK109 => ?_) (fun s H hq => ?_)
                        · refine w_blk fun K110 hK110 => ?_
                          refine w_loop gC hw108 (fun x s H => match x with | (x105, x106) => s = [u, u, u, u, u, u, u, u, u, u, u, u, u, u, u, u, u, u, u, u, u, v61, u, u, u, .int .i64 x85, .ptr ip101 wp101 0 0, .int .i64 x105, u, u, u, u, u, u, u, u, u, u, u, u, u, u, u, u, u, u, u, u, u, u, u, u, u, u, u, u, u, u, u, u, u, u, u, u, u, u, u, u, u, u, u, u, u, u, u, u, u, u, u, u, u, u, u, u, u, u, u, u, u, u, u, u, u, u, u, u, u, u, u, u, u, u, u, u, u, u, u, u, u, u, u, u, u, u, u, u, u, u, u, u, u, u, u, u, u, u, u, u, u, u, u, u, u, u, u, u, u, u, u, u, u, u, u, u, u, u, u, u, u, v53, .int .i64 (b51.length : Int), .int .i64 x85, u, u, u, u, v61, .int .i64 (b57.length : Int), .int .i64 x106, u, u, u, u, u, u, u, u, u, u, u, u, u, u, u, u, u, u, u, u, u] ∧ Own H (⟨v61, 1, b57.map (AV.int .i64)⟩ :: ⟨v53, 2, b51.map e_Again⟩ :: ⟨.ptr ip101 wp101 0 0, 2, [.agg [.int .i64 b99.Need, .int .i64 b99.Every]]⟩ :: F)) ⟨rfl, (hS.sel 3 [1, 2, 0] (by decide))⟩ (fun x y113 s H h hd112 hi K111 hK111 => ?_)
                          obtain ⟨x105, x106⟩ := x
                          try dsimp only at hi
                          obtain ⟨rfl, hS⟩ := hi
                          simp only [laws_FnAgain_l0] at h
                          refine w_seq fun K115 hK115 => ?_
                          refine w_reg gC ?_
                          try simp only [W, EE, Nat.reduceAdd]
                          refine seq_n hK115 ?_
                          refine w_seq fun K116 hK116 => ?_
                          refine w_if ?_
                          simp only [W]
                          refine w_cnd h (fun hc h => ?_) (fun hc h => ?_)
                          · refine w_skip ?_
                            refine seq_n hK116 ?_
                            refine w_seq fun K117 hK117 => ?_
                            refine w_blk fun K118 hK118 => ?_
                            refine w_seq fun K119 hK119 => ?_
                            refine w_reg gC ?_
                            try simp only [W, EE, Nat.reduceAdd]
                            refine w_ow 0 hS rfl rfl rfl rfl rfl h (fun b120 in121 wn121 on121 hb120 h en121 => ?_) qv61.ne
                            obtain ⟨kn121, hbn121, hen121⟩ := hS.elem 0 rfl en121 hb120
                            try simp only [W, EE, hbn121, hen121]
                            refine seq_n hK119 ?_
                            refine w_seq fun K122 hK122 => ?_
                            refine w_seq fun K123 hK123 => ?_
                            refine w_reg gC ?_
                            try simp only [W, EE, Nat.reduceAdd]
                            refine seq_n hK123 ?_
                            obtain ⟨y125, h, g126⟩ := Option.bind_eq_some_iff.1 h
                            refine w_join gC (fun s H => ∃ x124 : Int, y125 = (x124) ∧ s = [u, u, u, u, u, u, u, u, u, u, u, u, u, u, u, u, u, u, u, u, u, v61, u, u, u, .int .i64 x85, .ptr ip101 wp101 0 0, .int .i64 x124, .int .i64 x106, u, u, u, u, u, u, u, u, u, u, u, u, u, u, u, u, u, u, u, u, u, u, u, u, u, u, u, u, u, u, u, u, u, u, u, u, u, u, u, u, u, u, u, u, u, u, u, u, u, u, u, u, u, u, u, u, u, u, u, u, u, u, u, u, u, u, u, u, u, u, u, u, u, u, u, u, u, u, u, u, u, u, u, u, u, u, u, u, u, u, u, u, u, u, u, u, u, u, u, u, u, u, u, u, u, u, u, u, u, u, u, u, u, u, u, u, u, u, u, u, v53, .int .i64 (b51.length : Int), .int .i64 x85, u, u, u, u, v61, .int .i64 (b57.length : Int), .int .i64 x106, u, u, u, u, u, u, u, u, u, u, u, u, u, u, u, u, u, u, u, u, u] ∧ Own H (⟨v61, 1, b57.map (AV.int .i64)⟩ :: ⟨v53, 2, b51.map e_Again⟩ :: ⟨.ptr ip101 wp101 0 0, 2, [.agg [.int .i64 b99.Need, .int .i64 b99.Every]]⟩ :: F)) (fun K127 hK127 => ?_) (fun s H hq => ?_)
                            · refine w_seq fun K128 hK128 => ?_
                              refine w_if ?_
                              simp only [W]
                              refine w_cnd h (fun hc h => ?_) (fun hc h => ?_)
                              · refine w_reg gC ?_
                                try simp only [W, EE, Nat.reduceAdd]
                                refine seq_n hK128 ?_
                                refine w_kill ?_
                                exact cut_n hK127 ⟨_, (Option.some.inj h).symm, rfl, hS⟩
                              · refine w_skip ?_
                                refine seq_n hK128 ?_
                                refine w_kill ?_
                                exact cut_n hK127 ⟨_, (Option.some.inj h).symm, rfl, hS⟩
                            · obtain ⟨x124, ey, rfl, hS⟩ := hq; obtain rfl := ey.symm
                              replace h := g126
                              try dsimp only at h
                              refine seq_n hK122 ?_
                              refine w_seq fun K129 hK129 => ?_
                              refine w_draw0 gC (by kernel_rfl) ?_
                              try simp only [W, EE, Nat.reduceAdd, Nat.reduceBEq, hS.var 2 rfl]
                              refine w_num _ h fun x130 hx130 h => ?_
                              try simp only [W, EE]
                              refine seq_n hK129 ?_
                              refine w_if ?_
                              simp only [W]
                              refine w_cnd h (fun hc h => ?_) (fun hc h => ?_)
                              · refine w_seq fun K131 hK131 => ?_
                                refine w_reg gC ?_
                                try simp only [W, Nat.reduceAdd]
                                refine seq_n hK131 ?_
                                refine w_ret ?_
                                refine blk_r hK118 ?_
                                refine seq_r hK117 ?_
                                try obtain rfl := Option.some.inj h
                                obtain rfl := hd112 _ rfl
                                have h : (some (LR.done (LR.done (LR.done (LR.done false)))) : Option (LR Unit (LR (Int) (LR Unit (LR Unit (Bool)))))) = some (LR.done (LR.done (LR.done (LR.done false)))) := rfl
                                refine lp_r hK111 ?_
                                refine blk_r hK110 ?_
                                try obtain rfl := Option.some.inj h
                                obtain rfl := Option.some.inj g114
                                have h : (some (LR.done (LR.done (LR.done false))) : Option (LR (Int) (LR Unit (LR Unit (Bool))))) = some (LR.done (LR.done (LR.done false))) := rfl
                                refine cut_r hK109 ?_
                                refine blk_r hK97 ?_
                                refine seq_r hK96 ?_
                                try obtain rfl := Option.some.inj h
                                obtain rfl := hd91 _ rfl
                                have h : (some (LR.done (LR.done false)) : Option (LR Unit (LR Unit (Bool)))) = some (LR.done (LR.done false)) := rfl
                                refine lp_r hK90 ?_
                                refine blk_r hK89 ?_
                                try obtain rfl := Option.some.inj h
                                obtain rfl := Option.some.inj g93
                                have h : (some (LR.done false) : Option (LR Unit (Bool))) = some (LR.done false) := rfl
                                refine cut_r hK88 ?_
                                refine seq_r hK83 ?_
                                try obtain rfl := Option.some.inj h
                                obtain rfl := Option.some.inj g81
                                have h : (some false : Option (Bool)) = some false := rfl
                                refine cut_r hK82 ?_
                                refine seq_r hK78 ?_
                                refine fin_r1 hK0 rfl ?_
                                try obtain rfl := Option.some.inj h
                                exact hP _ (hS.sel 3 [] (by decide))
                              · refine w_skip ?_
                                refine blk_n0 hK118 ?_
                                refine seq_n hK117 ?_
                                refine w_reg gC ?_
                                try simp only [W, EE, Nat.reduceAdd]
                                exact lp_n hK111 h ⟨rfl, hS⟩
                          · refine w_exit ?_
                            refine seq_x hK116 ?_
                            try obtain rfl := Option.some.inj h
                            obtain rfl := hd112 _ rfl
                            have h : (some (LR.next ()) : Option (LR Unit (LR (Int) (LR Unit (LR Unit (Bool)))))) = some (LR.next ()) := rfl
                            refine lp_x hK111 ?_
                            refine blk_e hK110 ?_
                            exact cut_n hK109 ⟨(Option.some.inj h).symm, rfl, (hS.sel 3 [0, 1] (by decide))⟩
                        · obtain ⟨rfl, rfl, hS⟩ := hq
                          replace h := g114
                          try dsimp only at h
                          refine blk_n0 hK97 ?_
                          refine seq_n hK96 ?_
                          refine w_reg gC ?_
                          try simp only [W, EE, Nat.reduceAdd]
                          exact lp_n hK90 h ⟨rfl, hS⟩
                      · refine w_exit ?_
                        refine seq_x hK95 ?_
                        try obtain rfl := Option.some.inj h
                        obtain rfl := hd91 _ rfl
                        have h : (some (LR.next ()) : Option (LR Unit (LR Unit (Bool)))) = some (LR.next ()) := rfl
                        refine lp_x hK90 ?_
                        refine blk_e hK89 ?_
                        exact cut_n hK88 ⟨(Option.some.inj h).symm, rfl, (hS.sel 2 [] (by decide))⟩
                    · obtain ⟨rfl, rfl, hS⟩ := hq
                      replace h := g93
                      try dsimp only at h
                      refine seq_n hK83 ?_
                      refine w_kill ?_
                      exact cut_n hK82 ⟨(Option.some.inj h).symm, rfl, hS⟩
                  · refine w_skip ?_
                    refine seq_n hK83 ?_
                    refine w_kill ?_
                    exact cut_n hK82 ⟨(Option.some.inj h).symm, rfl, (hS.sel 2 [] (by decide))⟩
                · obtain ⟨rfl, rfl, hS⟩ := hq
                  replace h := g81
                  try dsimp only at h
                  refine seq_n hK78 ?_
                  refine w_seq fun K146 hK146 => ?_
                  refine w_reg gC ?_
                  try simp only [W, Nat.reduceAdd]
                  refine seq_n hK146 ?_
                  refine w_ret ?_
                  refine fin_r1 hK0 rfl ?_
                  try obtain rfl := Option.some.inj h
                  exact hP _ hS
end Go.VxW
