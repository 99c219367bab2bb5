import Derived.Test.YtdgiianbihfkoaaVdF
import Derived.Test.YtdgiianbihfkoaaProg
import Derived.Test.YtdgiianbihfkoaaVaE
import Derived.KernelRfl
open Go Go.VS
set_option maxRecDepth 8000
set_option maxHeartbeats 4000000
namespace Go.VxW
def e_Turns (x : Turns) : AV := .agg [.fz (x.Quanta.map (AV.int .i64)), .fz (x.Queues.map (fzl (AV.int .i64))), .fz (x.Credit.map (AV.int .i64)), .fz (x.Sent.map (AV.int .i64)), .int .i64 x.At]
def e_L1Cur (x : L1Cur) : AV := .agg [.fz (x.Code.map (AV.int .u8)), .int .i64 x.At, .int .u64 x.Seed]
def E : TEnv := fun t => match t with
  | 3 => some { sz := 1, agg := false, zero := [AV.int IntKind.i64 0], bytes := 8, und := UD.it IntKind.i64, eqok := true }
  | 4 => some { sz := 1, agg := false, zero := [AV.bool false], bytes := 1, und := UD.bl, eqok := true }
  | 5 => some { sz := 1, agg := false, zero := [AV.int IntKind.u8 0], bytes := 1, und := UD.it IntKind.u8, eqok := true }
  | 22 => some { sz := 1, agg := false, zero := [AV.nil], bytes := 24, und := UD.sl 5, eqok := true }
  | 24 => some { sz := 1, agg := false, zero := [AV.nil], bytes := 24, und := UD.sl 3, eqok := true }
  | 73 => some { sz := 1, agg := false, zero := [AV.nil], bytes := 24, und := UD.sl 24, eqok := true }
  | 75 => some { sz := 5, agg := true, zero := [AV.nil, AV.nil, AV.nil, AV.nil, AV.int IntKind.i64 0], bytes := 104, und := UD.st [(0, 24), (1, 73), (2, 24), (3, 24), (4, 3)], eqok := true }
  | 150 => some { sz := 1, agg := false, zero := [AV.nilp], bytes := 8, und := UD.pt, eqok := true }
  | 151 => some { sz := 1, agg := false, zero := [AV.int IntKind.u64 0], bytes := 8, und := UD.it IntKind.u64, eqok := true }
  | 153 => some { sz := 3, agg := true, zero := [AV.nil, AV.int IntKind.i64 0, AV.int IntKind.u64 0], bytes := 40, und := UD.st [(0, 22), (1, 3), (2, 151)], eqok := true }
  | 156 => some { sz := 1, agg := false, zero := [AV.undef], bytes := 8, und := UD.ot, eqok := true }
  | _ => none
def pol : FuncId → FPol := fun f => match f with
  | 7 => { rsh := [[.sc]], loops := [(0, { keep := [1, 5, 7, 12, 66, 67] })], blocks := [(1, [1, 5, 7, 12, 66, 67]), (0, [1])], regs := [(4, [], [2]), (5, [], [2])], frz := [(6, [], some [1, 5, 6, 7, 8, 46]), (9, [], some [1, 5, 6, 7, 11, 60]), (16, [], some [1, 5, 7, 12, 66, 67, 132])], cnds := [(60, [1])] }
  | 22 => { rsh := [[.sc]], loops := [(0, { keep := [0, 1, 12, 13] })], blocks := [(0, [])] }
  | 58 => { rsh := [[.sl [.sc], .sl [.sl [.sc]], .sl [.sc], .sl [.sc], .sc], [.sc]], fz := [(2, [(4, [([11], [.sl [.sc]])])])] }
  | 59 => { rsh := [[.sl [.sc], .sl [.sl [.sc]], .sl [.sc], .sl [.sc], .sc], [.sc]], loops := [(0, { keep := [4, 6, 20, 21] })], blocks := [(0, [4, 6])], frz := [(1, [], some [1, 2, 4, 16])] }
  | 60 => { rsh := [[.sl [.sc], .sl [.sl [.sc]], .sl [.sc], .sl [.sc], .sc], [.sc]], loops := [(0, { keep := [1, 4, 6] })], blocks := [(0, [4, 6])], regs := [(6, [], [1])], frz := [(1, [], some [1, 2, 4, 17])] }
  | 61 => { rsh := [[.sc]], loops := [(0, { keep := [2, 3, 46, 47] })], blocks := [(0, [])], frz := [(1, [], some [2, 3, 43])] }
  | 128 => { rsh := [[.sl [.sc], .sl [.sl [.sc]], .sl [.sc], .sl [.sc], .sc], [.sl [.sc]], [.sc]], regs := [(6, [], [1])] }
  | 133 => { rsh := [[.sc]], loops := [(0, { keep := [1, 43, 44, 45] })], blocks := [(0, [])], frz := [(2, [], some [1, 41]), (7, [], some [1, 4, 5, 43, 44, 45, 56]), (9, [], some [1, 43, 44, 45, 85])] }
  | 136 => { rsh := [[.sl [.sc], .sl [.sl [.sc]], .sl [.sc], .sl [.sc], .sc], [.sc]], regs := [(4, [10, 12], [])], frz := [(1, [], some [1, 2, 3, 6, 36])] }
  | 139 => { rsh := [[.sl [.sc], .sl [.sl [.sc]], .sl [.sc], .sl [.sc], .sc], [.sc]], regs := [(4, [10], [])], frz := [(2, [], some [0, 2, 4, 14])] }
  | 141 => { rsh := [[.sc]], cnds := [(11, [1, 5])] }
  | 142 => { rsh := [[.sc]] }
  | 143 => { rsh := [[.sc]] }
  | 145 => { rsh := [[.sc]] }
  | 147 => { rsh := [[.sc]] }
  | 150 => { rsh := [[.sc]], loops := [(0, { keep := [1, 2, 9, 10, 11] })], blocks := [(0, [])] }
  | 153 => { rsh := [[.sc]] }
  | 169 => { rsh := [[.sl [.sc]]] }
  | 186 => { rsh := [[.sl [.sc], .sl [.sl [.sc]], .sl [.sc], .sl [.sc], .sc]], loops := [(0, { keep := [0, 2, 3, 5] })], blocks := [(1, [0, 2, 3, 5]), (0, [0, 2, 3]), (2, [2, 3])], regs := [(1, [], [2]), (3, [], [1]), (7, [6, 7, 14], [9]), (10, [], [1]), (17, [3, 5], [])], ords := [(7, [0, 1, 2, 3, 4, 6, 5, 7, 8, 9, 10, 11, 12, 13, 14, 15])], frz := [(11, [], some [0, 2, 3, 5, 8, 55])], cnds := [(18, [0, 2, 3]), (43, [0, 2, 3, 5]), (55, [0, 2, 3, 5]), (59, [2, 3]), (65, [2, 3]), (72, [2, 3])] }
  | 187 => { rsh := [[.sl [.sc], .sl [.sl [.sc]], .sl [.sc], .sl [.sc], .sc]], loops := [(0, { keep := [2, 3, 19, 20, 21] })], blocks := [(0, [2, 3])], regs := [(1, [13], [2, 5, 8]), (5, [7, 5], [3])] }
  | 188 => { rsh := [[.sl [.sc]], [.sc]], loops := [(0, { keep := [0, 4, 5] })], blocks := [(0, [0, 4, 5])], regs := [(4, [16], []), (7, [14], [])], frz := [(5, [], some [0, 4, 5, 75])], cnds := [(31, [0, 4, 5]), (131, [0, 4, 5])] }
  | 189 => { rsh := [[.sc]], loops := [(0, { keep := [1, 60, 61, 62] })], blocks := [(0, [])], frz := [(2, [], some [1, 58]), (7, [], some [1, 60, 61, 62, 87])] }
  | 190 => { rsh := [[.sl [.sc], .sl [.sl [.sc]], .sl [.sc], .sl [.sc], .sc]], loops := [(0, { keep := [2, 3, 22, 23, 24] })], blocks := [(0, [2, 3])], regs := [(1, [16], []), (5, [8, 6], [])] }
  | 244 => { rsh := [[.sl [.sc], .sl [.sl [.sc]], .sl [.sc], .sl [.sc], .sc], [.sl [.sc]]], loops := [(0, { keep := [1, 2, 4, 5, 6] })], blocks := [(0, [1, 2, 4, 5, 6])], regs := [(6, [12], []), (8, [10], []), (9, [10], []), (14, [7], [])], frz := [(7, [], some [1, 2, 4, 5, 6, 49])], cnds := [(23, [1, 2, 4, 5, 6]), (80, [1, 2, 4, 5, 6])] }
  | 248 => { rsh := [[.sc]] }
  | 249 => { rsh := [[.sc]] }
  | 250 => { rsh := [[.sc]] }
  | 251 => { rsh := [[.sl [.sc]]], loops := [(0, { keep := [0, 3, 4] })], blocks := [(0, [0, 3])], fz := [(7, [(3, [([22], [.sl [.sc]])])])], cnds := [(19, [3])] }
  | 252 => { rsh := [[.sc]], cnds := [(13, [0, 3])] }
  | 255 => { rsh := [[.sc]], loops := [(0, { keep := [0, 1, 7, 8] })], blocks := [(0, [])] }
  | 271 => { rsh := [[.sc]] }
  | _ => {}
noncomputable def code : FuncId → Option Func := fun f => match f with
  | 7 => some Go.Proofs.Try.f7
  | 22 => some Go.Proofs.Try.f22
  | 58 => some Go.Proofs.Try.f58
  | 59 => some Go.Proofs.Try.f59
  | 60 => some Go.Proofs.Try.f60
  | 61 => some Go.Proofs.Try.f61
  | 128 => some Go.Proofs.Try.f128
  | 133 => some Go.Proofs.Try.f133
  | 136 => some Go.Proofs.Try.f136
  | 139 => some Go.Proofs.Try.f139
  | 141 => some Go.Proofs.Try.f141
  | 142 => some Go.Proofs.Try.f142
  | 143 => some Go.Proofs.Try.f143
  | 145 => some Go.Proofs.Try.f145
  | 147 => some Go.Proofs.Try.f147
  | 150 => some Go.Proofs.Try.f150
  | 153 => some Go.Proofs.Try.f153
  | 186 => some Go.Proofs.Try.f186
  | 187 => some Go.Proofs.Try.f187
  | 188 => some Go.Proofs.Try.f188
  | 189 => some Go.Proofs.Try.f189
  | 190 => some Go.Proofs.Try.f190
  | 244 => some Go.Proofs.Try.f244
  | 248 => some Go.Proofs.Try.f248
  | 249 => some Go.Proofs.Try.f249
  | 250 => some Go.Proofs.Try.f250
  | 251 => some Go.Proofs.Try.f251
  | 252 => some Go.Proofs.Try.f252
  | 255 => some Go.Proofs.Try.f255
  | 271 => some Go.Proofs.Try.f271
  | _ => none
def cids : List (FuncId × Nat × Nat) := [(169, 1, 8)]
noncomputable def C : Ctx := ⟨E, pol, code, cloneExt cids⟩
theorem gC : Good C := clone_good (ids := cids) rfl
theorem cE : C.E = E := rfl
theorem E3 : E 3 = some { sz := 1, agg := false, zero := [AV.int IntKind.i64 0], bytes := 8, und := UD.it IntKind.i64, eqok := true } := rfl
theorem E4 : E 4 = some { sz := 1, agg := false, zero := [AV.bool false], bytes := 1, und := UD.bl, eqok := true } := rfl
theorem E5 : E 5 = some { sz := 1, agg := false, zero := [AV.int IntKind.u8 0], bytes := 1, und := UD.it IntKind.u8, eqok := true } := rfl
theorem E22 : E 22 = some { sz := 1, agg := false, zero := [AV.nil], bytes := 24, und := UD.sl 5, eqok := true } := rfl
theorem E24 : E 24 = some { sz := 1, agg := false, zero := [AV.nil], bytes := 24, und := UD.sl 3, eqok := true } := rfl
theorem E73 : E 73 = some { sz := 1, agg := false, zero := [AV.nil], bytes := 24, und := UD.sl 24, eqok := true } := rfl
theorem E75 : E 75 = some { sz := 5, agg := true, zero := [AV.nil, AV.nil, AV.nil, AV.nil, AV.int IntKind.i64 0], bytes := 104, und := UD.st [(0, 24), (1, 73), (2, 24), (3, 24), (4, 3)], eqok := true } := rfl
theorem E150 : E 150 = some { sz := 1, agg := false, zero := [AV.nilp], bytes := 8, und := UD.pt, eqok := true } := rfl
theorem E151 : E 151 = some { sz := 1, agg := false, zero := [AV.int IntKind.u64 0], bytes := 8, und := UD.it IntKind.u64, eqok := true } := rfl
theorem E153 : E 153 = some { sz := 3, agg := true, zero := [AV.nil, AV.int IntKind.i64 0, AV.int IntKind.u64 0], bytes := 40, und := UD.st [(0, 22), (1, 3), (2, 151)], eqok := true } := rfl
theorem E156 : E 156 = some { sz := 1, agg := false, zero := [AV.undef], bytes := 8, und := UD.ot, eqok := true } := rfl
theorem EE : type_of% (And.intro @cE <| And.intro @E3 <| And.intro @E4 <| And.intro @E5 <| And.intro @E22 <| And.intro @E24 <| And.intro @E73 <| And.intro @E75 <| And.intro @E150 <| And.intro @E151 <| And.intro @E153 @E156) := And.intro @cE <| And.intro @E3 <| And.intro @E4 <| And.intro @E5 <| And.intro @E22 <| And.intro @E24 <| And.intro @E73 <| And.intro @E75 <| And.intro @E150 <| And.intro @E151 <| And.intro @E153 @E156
theorem e_L1Cur_d (x : L1Cur) : e_L1Cur x = .agg [.fz (x.Code.map (AV.int .u8)), .int .i64 x.At, .int .u64 x.Seed] := rfl
theorem e_Turns_d (x : Turns) : e_Turns x = .agg [.fz (x.Quanta.map (AV.int .i64)), .fz (x.Queues.map (fzl (AV.int .i64))), .fz (x.Credit.map (AV.int .i64)), .fz (x.Sent.map (AV.int .i64)), .int .i64 x.At] := rfl
theorem EN : type_of% (And.intro @e_L1Cur_d <| And.intro @e_Turns_d <| And.intro @fzl_d @killB_n) := And.intro @e_L1Cur_d <| And.intro @e_Turns_d <| And.intro @fzl_d @killB_n
def nm_SInt (a : AV) (_x : List Int) : AV := a
abbrev np_SInt (x : List Int) : List Int := x
def nd_SInt (x : List Int) : AV := .own 1 ((np_SInt x).map (AV.int .i64))
theorem nc_SInt (a : AV) (x : List Int) (h : isSl a) : (nm_SInt a x).cells.length = 1 := by
  first | rfl | (show a.cells.length = 1; rw [h.cells]; rfl)
theorem nt_SInt (a : AV) (x : List Int) (H : Heap) (L : List It) (ha : isSl a) (hS : Own H (⟨a, 1, (np_SInt x).map (AV.int .i64)⟩ :: L)) : ∃ H', takeE [.sl [.sc]] (nm_SInt a x) H = some (nd_SInt x, H') ∧ Own H' L :=
  take_sl (fs := [.sc]) (fun _ _ => by simp [takeE, takeT, plainA]) ha hS
theorem nf_SInt (x : List Int) : noFz (nd_SInt x) = true := by
  simp [nd_SInt, noFz, noFzL_map (c := (AV.int .i64)) (fun _ => rfl)]
theorem nh_SInt (x : List Int) (H : Heap) (L : List It) (hS : Own H L) : ∃ a, isSl a ∧ (thawV (nd_SInt x) H).1 = nm_SInt a x ∧ Own (thawV (nd_SInt x) H).2 (⟨a, 1, (np_SInt x).map (AV.int .i64)⟩ :: L) := by
  obtain ⟨a, H1, h1, h2, h3⟩ := th_one (c := (AV.int .i64)) (n := 1) (fun _ _ => rfl) (fun _ => rfl) (np_SInt x) H L hS
  exact ⟨a, h1, by rw [show nd_SInt x = .own 1 ((np_SInt x).map (AV.int .i64)) from rfl, h2]; rfl, by rw [show nd_SInt x = .own 1 ((np_SInt x).map (AV.int .i64)) from rfl, h2]; exact h3⟩
theorem nz_SInt (x : List Int) : frzV (nd_SInt x) = (fzl (AV.int .i64)) x := by
  simp [nd_SInt, frzV, frzL_map (c := (AV.int .i64)) (fun _ => rfl), fzl]
theorem spec_l1Cur_next_w {a0 : L1Cur} {i0 : Nat} {w0 : Nat} {r : (Int × L1Cur)} (h : spec_l1Cur_next a0 = some r) {F : List It} {H : Heap} (hS : Own H (⟨.ptr i0 w0 0 0, 3, [.agg [.fz (a0.Code.map (AV.int .u8)), .int .i64 a0.At, .int .u64 a0.Seed]]⟩ :: F)) {P : AV → Heap → Prop} (hP : ∀ H', Own H' (⟨.ptr i0 w0 0 0, 3, [.agg [.fz (r.2.Code.map (AV.int .u8)), .int .i64 r.2.At, .int .u64 r.2.Seed]]⟩ :: F) → P (.int .i64 r.1) H') : ACall C 252 [.ptr i0 w0 0 0] H P := by
  refine acall_of gC (res := [.tmp 2]) (n := 62) rfl rfl rfl rfl fun K0 hK0 => ?_
  simp only [W, Nat.reduceSub, Nat.reduceAdd, List.replicate]
  unfold spec_l1Cur_next at h
  refine w_seq fun K1 hK1 => ?_
  refine w_reg gC ?_
  try simp only [W, Nat.reduceAdd]
  refine seq_n hK1 ?_
  refine w_seq fun K2 hK2 => ?_
  refine w_reg gC ?_
  try simp only [W, Nat.reduceAdd]
  refine seq_n hK2 ?_
  refine w_seq fun K3 hK3 => ?_
  refine w_seq fun K4 hK4 => ?_
  refine w_draw0 gC (by kernel_rfl) ?_
  try simp only [W, EE, Nat.reduceAdd, Nat.reduceBEq, hS.var 0 rfl]
  refine seq_n hK4 ?_
  obtain ⟨y6, h, g7⟩ := Option.bind_eq_some_iff.1 h
  refine w_join gC (fun s H => ∃ x5 : Int, y6 = (x5) ∧ s = (.ptr i0 w0 0 0 :: u :: u :: .int .i64 x5 :: u :: u :: u :: u :: u :: u :: u :: u :: u :: u :: u :: u :: u :: u :: u :: u :: u :: u :: u :: u :: u :: u :: u :: u :: u :: u :: u :: u :: u :: u :: u :: u :: u :: u :: u :: u :: u :: u :: u :: u :: u :: u :: u :: u :: u :: u :: u :: u :: u :: u :: u :: u :: u :: u :: u :: u :: u :: u :: []) ∧ Own H (⟨.ptr i0 w0 0 0, 3, [.agg [.fz (a0.Code.map (AV.int .u8)), .int .i64 a0.At, .int .u64 a0.Seed]]⟩ :: F)) (fun K8 hK8 => ?_) (fun s H hq => ?_)
  · refine w_seq fun K9 hK9 => ?_
    refine w_if ?_
    simp only [W]
    refine w_cnd h (fun hc h => ?_) (fun hc h => ?_)
    · refine w_draw0 gC (by kernel_rfl) ?_
      try simp only [W, EE, Nat.reduceAdd, Nat.reduceBEq, hS.var 0 rfl]
      refine w_fz rfl rfl rfl (fun _ => rfl) h fun b10 hb10 h => ?_
      try simp only [W, EE]
      refine seq_n hK9 ?_
      refine w_killE (s' := (.ptr i0 w0 0 0 :: u :: u :: .int .i64 (IntKind.i64.wrap b10) :: u :: u :: u :: u :: u :: u :: u :: u :: u :: u :: u :: u :: u :: u :: u :: u :: u :: u :: u :: u :: u :: u :: u :: u :: u :: u :: u :: u :: u :: u :: u :: u :: u :: u :: u :: u :: u :: u :: u :: u :: u :: u :: u :: u :: u :: u :: u :: u :: u :: u :: u :: u :: u :: u :: u :: u :: u :: u :: [])) rfl ?_
      exact cut_n hK8 ⟨_, (Option.some.inj h).symm, rfl, hS⟩
    · refine w_skip ?_
      refine seq_n hK9 ?_
      refine w_killE (s' := (.ptr i0 w0 0 0 :: u :: u :: .int .i64 0 :: u :: u :: u :: u :: u :: u :: u :: u :: u :: u :: u :: u :: u :: u :: u :: u :: u :: u :: u :: u :: u :: u :: u :: u :: u :: u :: u :: u :: u :: u :: u :: u :: u :: u :: u :: u :: u :: u :: u :: u :: u :: u :: u :: u :: u :: u :: u :: u :: u :: u :: u :: u :: u :: u :: u :: u :: u :: u :: [])) rfl ?_
      exact cut_n hK8 ⟨_, (Option.some.inj h).symm, rfl, hS⟩
  · obtain ⟨x5, ey, rfl, hS⟩ := hq; obtain rfl := ey.symm
    replace h := g7
    try dsimp only at h
    refine seq_n hK3 ?_
    refine w_seq fun K11 hK11 => ?_
    refine w_reg gC ?_
    try simp only [W, EE, Nat.reduceAdd, Nat.reduceBEq, hS.var 0 rfl]
    refine w_stv (a := .int .i64 (IntKind.i64.wrap (a0.At + 1))) (y' := .agg [.fz (a0.Code.map (AV.int .u8)), .int .i64 (IntKind.i64.wrap (a0.At + 1)), .int .u64 a0.Seed]) 0 hS rfl rfl rfl rfl rfl rfl rfl rfl fun H hS => ?_
    try simp only [W]
    refine seq_n hK11 ?_
    refine w_seq fun K12 hK12 => ?_
    refine w_reg gC ?_
    try simp only [W, EE, Nat.reduceAdd, Nat.reduceBEq, hS.var 0 rfl]
    refine w_stv (a := .int .u64 (IntKind.u64.wrap ((IntKind.u64.wrap ((IntKind.u64.wrap (a0.Seed * 6364136223846793005)) + (IntKind.u64.wrap x5))) + 1442695040888963407))) (y' := .agg [.fz (a0.Code.map (AV.int .u8)), .int .i64 (IntKind.i64.wrap (a0.At + 1)), .int .u64 (IntKind.u64.wrap ((IntKind.u64.wrap ((IntKind.u64.wrap (a0.Seed * 6364136223846793005)) + (IntKind.u64.wrap x5))) + 1442695040888963407))]) 0 hS rfl rfl rfl rfl rfl rfl rfl rfl fun H hS => ?_
    try simp only [W]
    refine seq_n hK12 ?_
    refine w_seq fun K13 hK13 => ?_
    refine w_seq fun K14 hK14 => ?_
    refine w_draw0 gC (by kernel_rfl) ?_
    try simp only [W, EE, Nat.reduceAdd, Nat.reduceBEq, hS.var 0 rfl]
    refine seq_n hK14 ?_
    refine w_if ?_
    simp only [W]
    refine w_cnd h (fun hc h => ?_) (fun hc h => ?_)
    · refine w_seq fun K15 hK15 => ?_
      refine w_reg gC ?_
      try simp only [W, Nat.reduceAdd]
      refine seq_n hK15 ?_
      refine w_ret ?_
      refine seq_r hK13 ?_
      refine fin_r1 hK0 rfl ?_
      try obtain rfl := Option.some.inj h
      exact hP _ hS
    · refine w_skip ?_
      refine seq_n hK13 ?_
      refine w_seq fun K16 hK16 => ?_
      refine w_reg gC ?_
      try simp only [W, EE, Nat.reduceAdd, Nat.reduceBEq, hS.var 0 rfl]
      rw [sr_lit _ _ _ rfl, Option.map_some, resV_s]
      try simp only [W, EE]
      refine seq_n hK16 ?_
      refine w_ret ?_
      refine fin_r1 hK0 rfl ?_
      try obtain rfl := Option.some.inj h
      exact hP _ hS
theorem spec_l1Cur_pick_w {a0 : L1Cur} {a1 : Int} {i0 : Nat} {w0 : Nat} {r : (Int × L1Cur)} (h : spec_l1Cur_pick a0 a1 = some r) {F : List It} {H : Heap} (hS : Own H (⟨.ptr i0 w0 0 0, 3, [.agg [.fz (a0.Code.map (AV.int .u8)), .int .i64 a0.At, .int .u64 a0.Seed]]⟩ :: F)) {P : AV → Heap → Prop} (hP : ∀ H', Own H' (⟨.ptr i0 w0 0 0, 3, [.agg [.fz (r.2.Code.map (AV.int .u8)), .int .i64 r.2.At, .int .u64 r.2.Seed]]⟩ :: F) → P (.int .i64 r.1) H') : ACall C 141 [.ptr i0 w0 0 0, .int .i64 a1] H P := by
  refine acall_of gC (res := [.tmp 4]) (n := 20) rfl rfl rfl rfl fun K0 hK0 => ?_
  simp only [W, Nat.reduceSub, Nat.reduceAdd, List.replicate]
  unfold spec_l1Cur_pick at h
  refine w_seq fun K1 hK1 => ?_
  refine w_reg gC ?_
  try simp only [W, Nat.reduceAdd]
  refine seq_n hK1 ?_
  refine w_seq fun K2 hK2 => ?_
  refine w_seq fun K3 hK3 => ?_
  refine w_reg gC ?_
  try simp only [W, EE, Nat.reduceAdd]
  refine seq_n hK3 ?_
  refine w_if ?_
  simp only [W]
  refine w_cnd h (fun hc h => ?_) (fun hc h => ?_)
  · refine w_seq fun K4 hK4 => ?_
    refine w_reg gC ?_
    try simp only [W, Nat.reduceAdd]
    refine seq_n hK4 ?_
    refine w_ret ?_
    refine seq_r hK2 ?_
    refine fin_r1 hK0 rfl ?_
    try obtain rfl := Option.some.inj h
    exact hP _ hS
  · refine w_skip ?_
    refine seq_n hK2 ?_
    refine w_seq fun K5 hK5 => ?_
    refine w_reg gC ?_
    try simp only [W, Nat.reduceAdd]
    refine w_call h fun b6 hb6 h => ?_
    obtain ⟨b7, b8⟩ := b6
    try dsimp only at h
    refine spec_l1Cur_next_w hb6 hS fun H hS => ?_
    try simp only [W]
    refine seq_n hK5 ?_
    refine w_seq fun K9 hK9 => ?_
    refine w_seq fun K10 hK10 => ?_
    refine w_reg gC ?_
    try simp only [W, EE, Nat.reduceAdd]
    refine seq_n hK10 ?_
    obtain ⟨y15, h, g16⟩ := Option.bind_eq_some_iff.1 h
    refine w_join gC (fun s H => ∃ x11 : Int, ∃ x12 : List Int, ∃ x13 : Int, ∃ x14 : Int, y15 = (x11, x12, x13, x14) ∧ s = [u, .int .i64 a1, u, u, u, .int .i64 x11, u, u, u, u, u, u, u, u, u, u, u, u, u, u] ∧ Own H (⟨.ptr i0 w0 0 0, 3, [.agg [.fz (x12.map (AV.int .u8)), .int .i64 x13, .int .u64 x14]]⟩ :: F)) (fun K17 hK17 => ?_) (fun s H hq => ?_)
    · refine w_seq fun K18 hK18 => ?_
      refine w_if ?_
      simp only [W]
      refine w_cnd h (fun hc h => ?_) (fun hc h => ?_)
      · refine w_reg gC ?_
        try simp only [W, EE, Nat.reduceAdd]
        refine w_call h fun b19 hb19 h => ?_
        obtain ⟨b20, b21⟩ := b19
        try dsimp only at h
        refine spec_l1Cur_next_w hb19 hS fun H hS => ?_
        try simp only [W, EE]
        refine seq_n hK18 ?_
        refine w_kill ?_
        exact cut_n hK17 ⟨_, _, _, _, (Option.some.inj h).symm, rfl, hS⟩
      · refine w_skip ?_
        refine seq_n hK18 ?_
        refine w_kill ?_
        exact cut_n hK17 ⟨_, _, _, _, (Option.some.inj h).symm, rfl, hS⟩
    · obtain ⟨x11, x12, x13, x14, rfl, rfl, hS⟩ := hq
      replace h := g16
      try dsimp only at h
      refine seq_n hK9 ?_
      refine w_seq fun K22 hK22 => ?_
      refine w_reg gC ?_
      try simp only [W, EE, Nat.reduceAdd]
      refine w_num _ h fun x23 hx23 h => ?_
      try simp only [W]
      refine seq_n hK22 ?_
      refine w_ret ?_
      refine fin_r1 hK0 rfl ?_
      try obtain rfl := Option.some.inj h
      exact hP _ hS
theorem spec_l1Cur_one_w {a0 : L1Cur} {a1 : Int} {i0 : Nat} {w0 : Nat} {r : (Bool × L1Cur)} (h : spec_l1Cur_one a0 a1 = some r) {F : List It} {H : Heap} (hS : Own H (⟨.ptr i0 w0 0 0, 3, [.agg [.fz (a0.Code.map (AV.int .u8)), .int .i64 a0.At, .int .u64 a0.Seed]]⟩ :: F)) {P : AV → Heap → Prop} (hP : ∀ H', Own H' (⟨.ptr i0 w0 0 0, 3, [.agg [.fz (r.2.Code.map (AV.int .u8)), .int .i64 r.2.At, .int .u64 r.2.Seed]]⟩ :: F) → P (.bool r.1) H') : ACall C 142 [.ptr i0 w0 0 0, .int .i64 a1] H P := by
  refine acall_of gC (res := [.tmp 4]) (n := 9) rfl rfl rfl rfl fun K0 hK0 => ?_
  simp only [W, Nat.reduceSub, Nat.reduceAdd, List.replicate]
  unfold spec_l1Cur_one at h
  refine w_seq fun K1 hK1 => ?_
  refine w_reg gC ?_
  try simp only [W, Nat.reduceAdd]
  refine seq_n hK1 ?_
  refine w_seq fun K2 hK2 => ?_
  refine w_reg gC ?_
  try simp only [W, Nat.reduceAdd]
  refine w_call h fun b3 hb3 h => ?_
  obtain ⟨b4, b5⟩ := b3
  try dsimp only at h
  refine spec_l1Cur_pick_w hb3 hS fun H hS => ?_
  try simp only [W, EE]
  refine seq_n hK2 ?_
  refine w_ret ?_
  refine fin_r1 hK0 rfl ?_
  try obtain rfl := Option.some.inj h
  exact hP _ hS
theorem spec_l1Cur_among_w {a0 : L1Cur} {a1 : List Int} {i0 : Nat} {w0 : Nat} {r : (Int × L1Cur)} (h : spec_l1Cur_among a0 a1 = some r) {F : List It} {H : Heap} (hS : Own H (⟨.ptr i0 w0 0 0, 3, [.agg [.fz (a0.Code.map (AV.int .u8)), .int .i64 a0.At, .int .u64 a0.Seed]]⟩ :: F)) {P : AV → Heap → Prop} (hP : ∀ H', Own H' (⟨.ptr i0 w0 0 0, 3, [.agg [.fz (r.2.Code.map (AV.int .u8)), .int .i64 r.2.At, .int .u64 r.2.Seed]]⟩ :: F) → P (.int .i64 r.1) H') : ACall C 143 [.ptr i0 w0 0 0, .fz (a1.map (AV.int .i64))] H P := by
  refine acall_of gC (res := [.tmp 4]) (n := 12) rfl rfl rfl rfl fun K0 hK0 => ?_
  simp only [W, Nat.reduceSub, Nat.reduceAdd, List.replicate]
  unfold spec_l1Cur_among at h
  refine w_seq fun K1 hK1 => ?_
  refine w_reg gC ?_
  try simp only [W, Nat.reduceAdd]
  refine seq_n hK1 ?_
  refine w_seq fun K2 hK2 => ?_
  refine w_reg gC ?_
  try simp only [W, EE, Nat.reduceAdd]
  refine w_call h fun b3 hb3 h => ?_
  obtain ⟨b4, b5⟩ := b3
  try dsimp only at h
  refine spec_l1Cur_pick_w hb3 hS fun H hS => ?_
  try simp only [W, EE]
  refine w_fz rfl rfl rfl (fun _ => rfl) h fun b6 hb6 h => ?_
  try simp only [W, EE]
  refine seq_n hK2 ?_
  refine w_ret ?_
  refine fin_r1 hK0 rfl ?_
  try obtain rfl := Option.some.inj h
  exact hP _ hS
theorem spec_l1Cur_quanta_w {a0 : L1Cur} {i0 : Nat} {w0 : Nat} {r : (List Int × L1Cur)} (h : spec_l1Cur_quanta a0 = some r) {F : List It} {H : Heap} (hS : Own H (⟨.ptr i0 w0 0 0, 3, [.agg [.fz (a0.Code.map (AV.int .u8)), .int .i64 a0.At, .int .u64 a0.Seed]]⟩ :: F)) {P : AV → Heap → Prop} (hP : ∀ v63 : AV, isSl v63 → ∀ H', Own H' (⟨v63, 1, r.1.map (AV.int .i64)⟩ :: ⟨.ptr i0 w0 0 0, 3, [.agg [.fz (r.2.Code.map (AV.int .u8)), .int .i64 r.2.At, .int .u64 r.2.Seed]]⟩ :: F) → P (v63) H') : ACall C 251 [.ptr i0 w0 0 0] H P := by
  refine acall_of gC (res := [.tmp 2]) (n := 26) rfl rfl rfl rfl fun K0 hK0 => ?_
  simp only [W, Nat.reduceSub, Nat.reduceAdd, List.replicate]
  unfold spec_l1Cur_quanta at h
  refine w_seq fun K1 hK1 => ?_
  refine w_reg gC ?_
  try simp only [W, Nat.reduceAdd]
  refine seq_n hK1 ?_
  refine w_seq fun K2 hK2 => ?_
  refine w_reg gC ?_
  try simp only [W, Nat.reduceAdd]
  refine seq_n hK2 ?_
  refine w_seq fun K3 hK3 => ?_
  refine w_seq fun K4 hK4 => ?_
  refine w_reg gC ?_
  try simp only [W, Nat.reduceAdd]
  refine w_call h fun b5 hb5 h => ?_
  obtain ⟨b6, b7⟩ := b5
  try dsimp only at h
  refine spec_l1Cur_pick_w hb5 hS fun H hS => ?_
  try simp only [W, EE]
  refine seq_n hK4 ?_
  obtain ⟨y20, hw21, g27⟩ := Option.bind_eq_some_iff.1 h
  refine w_join gC (fun s H => ∃ x15 : List Int, ∃ x17 : List Int, ∃ x18 : Int, ∃ x19 : Int, y20 = (x15, x17, x18, x19) ∧ ∃ v16 : AV, isSl v16 ∧ s = [.ptr i0 w0 0 0, u, u, v16, u, u, u, u, u, u, u, u, u, u, u, u, u, u, u, u, u, u, u, u, u, u] ∧ Own H (⟨v16, 1, x15.map (AV.int .i64)⟩ :: ⟨.ptr i0 w0 0 0, 3, [.agg [.fz (x17.map (AV.int .u8)), .int .i64 x18, .int .u64 x19]]⟩ :: F)) (fun K22 hK22 => ?_) (fun s H hq => ?_)
  · refine w_blk fun K23 hK23 => ?_
    refine w_loop gC hw21 (fun x s H => match x with | (x8, x11, x12, x13, x14) => ∃ v9 : AV, isSl v9 ∧ s = [.ptr i0 w0 0 0, u, u, v9, .int .i64 x11, u, u, u, u, u, u, u, u, u, u, u, u, u, u, u, u, u, u, u, u, u] ∧ Own H (⟨v9, 1, x8.map (AV.int .i64)⟩ :: ⟨.ptr i0 w0 0 0, 3, [.agg [.fz (x12.map (AV.int .u8)), .int .i64 x13, .int .u64 x14]]⟩ :: F)) ⟨_, isSl_nil, rfl, (hS.nil_ 1)⟩ (fun x y26 s H h hd25 hi K24 hK24 => ?_)
    obtain ⟨x8, x11, x12, x13, x14⟩ := x
    try dsimp only at hi
    obtain ⟨v9, qv9, rfl, hS⟩ := hi
    simp only [spec_l1Cur_quanta_l0] at h
    refine w_seq fun K28 hK28 => ?_
    refine w_seq fun K29 hK29 => ?_
    refine w_reg gC ?_
    try simp only [W, EE, Nat.reduceAdd]
    refine seq_n hK29 ?_
    refine w_if ?_
    simp only [W]
    refine w_cnd h (fun hc h => ?_) (fun hc h => ?_)
    · refine w_skip ?_
      refine seq_n hK28 ?_
      refine w_seq fun K30 hK30 => ?_
      refine w_blk fun K31 hK31 => ?_
      refine w_reg gC ?_
      try simp only [W, Nat.reduceAdd]
      refine w_call h fun b32 hb32 h => ?_
      obtain ⟨b33, b34⟩ := b32
      try dsimp only at h
      refine spec_l1Cur_pick_w hb32 (hS.sel 2 [1, 0] (by decide)) fun H hS => ?_
      try simp only [W, EE]
      refine w_lit (el := ([(IntKind.i64.wrap (20 + b33))] : List Int).map (AV.int .i64)) hS rfl rfl rfl rfl rfl rfl rfl fun v35 H qv35 hS => ?_
      try simp only [W, EE]
      refine w_appV (l := x8) (c := (AV.int .i64)) 2 hS rfl qv9 rfl rfl rfl (hS.elems 0 rfl qv35) (fun _ => rfl) rfl h fun v38 H x37 qv38 hm h hS => ?_
      try simp only [W]
      refine blk_n0 hK31 ?_
      refine seq_n hK30 ?_
      refine w_reg gC ?_
      try simp only [W, EE, Nat.reduceAdd]
      exact lp_n hK24 h ⟨_, qv38, rfl, (hS.sel 3 [2, 1] (by decide))⟩
    · refine w_exit ?_
      refine seq_x hK28 ?_
      try obtain rfl := Option.some.inj h
      obtain rfl := hd25 _ rfl
      have h : (some (x8, x12, x13, x14) : Option ((List Int) × (List Int) × Int × Int)) = some (x8, x12, x13, x14) := rfl
      refine lp_x hK24 ?_
      refine blk_e hK23 ?_
      exact cut_n hK22 ⟨_, _, _, _, (Option.some.inj h).symm, _, qv9, rfl, hS⟩
  · obtain ⟨x15, x17, x18, x19, rfl, v16, qv16, rfl, hS⟩ := hq
    replace h := g27
    try dsimp only at h
    refine seq_n hK3 ?_
    refine w_seq fun K42 hK42 => ?_
    refine w_seq fun K43 hK43 => ?_
    refine w_reg gC ?_
    try simp only [W, Nat.reduceAdd]
    refine w_call h fun b44 hb44 h => ?_
    obtain ⟨b45, b46⟩ := b44
    try dsimp only at h
    refine spec_l1Cur_one_w hb44 (hS.sel 2 [1, 0] (by decide)) fun H hS => ?_
    try simp only [W]
    refine seq_n hK43 ?_
    obtain ⟨y51, h, g52⟩ := Option.bind_eq_some_iff.1 h
    refine w_join gC (fun s H => ∃ x47 : List Int, ∃ x48 : List Int, ∃ x49 : Int, ∃ x50 : Int, y51 = (x47, x48, x49, x50) ∧ s = [u, u, u, v16, u, u, u, u, u, u, u, u, u, u, u, u, u, u, u, u, u, u, u, u, u, u] ∧ Own H (⟨v16, 1, x47.map (AV.int .i64)⟩ :: ⟨.ptr i0 w0 0 0, 3, [.agg [.fz (x48.map (AV.int .u8)), .int .i64 x49, .int .u64 x50]]⟩ :: F)) (fun K53 hK53 => ?_) (fun s H hq => ?_)
    · refine w_seq fun K54 hK54 => ?_
      refine w_if ?_
      simp only [W]
      refine w_cnd h (fun hc h => ?_) (fun hc h => ?_)
      · refine w_regF (fz := [(3, [([22], [.sl [.sc]])])]) gC ?_
        try simp only [W, Nat.reduceAdd, Nat.reduceBEq]
        refine w_lit (el := ([19, 100, 101] : List Int).map (AV.int .i64)) hS rfl rfl rfl rfl rfl rfl rfl fun v55 H qv55 hS => ?_
        try simp only [W, Nat.reduceAdd]
        refine FZ_own 0 hS rfl qv55 rfl (fun _ _ => by simp [takeE, takeT, plainA]) (fun _ => rfl) fun H hsame hS => ?_
        try simp only [W]
        refine w_call h fun b57 hb57 h => ?_
        obtain ⟨b58, b59⟩ := b57
        try dsimp only at h
        refine spec_l1Cur_among_w hb57 hS fun H hS => ?_
        try simp only [W, EE, Nat.reduceAdd, Nat.reduceBEq]
        refine w_ow 1 hS rfl rfl rfl rfl rfl h (fun b60 in61 wn61 on61 hb60 h en61 => ?_) qv16.ne
        obtain ⟨kn61, hbn61, hen61⟩ := hS.elem 1 rfl en61 hb60
        try simp only [W, Nat.reduceAdd, Nat.reduceBEq]
        refine w_ste (a := .int .i64 b58) (y' := b58) 1 hS rfl en61 hb60 rfl rfl rfl rfl rfl rfl rfl fun H hS => ?_
        try simp only [W, Nat.reduceAdd]
        refine seq_n hK54 ?_
        refine w_kill ?_
        exact cut_n hK53 ⟨_, _, _, _, (Option.some.inj h).symm, rfl, (hS.sel 2 [1, 0] (by decide))⟩
      · refine w_skip ?_
        refine seq_n hK54 ?_
        refine w_kill ?_
        exact cut_n hK53 ⟨_, _, _, _, (Option.some.inj h).symm, rfl, (hS.sel 2 [1, 0] (by decide))⟩
    · obtain ⟨x47, x48, x49, x50, rfl, rfl, hS⟩ := hq
      replace h := g52
      try dsimp only at h
      refine seq_n hK42 ?_
      refine w_seq fun K62 hK62 => ?_
      refine w_reg gC ?_
      try simp only [W, Nat.reduceAdd]
      refine seq_n hK62 ?_
      refine w_ret ?_
      refine fin_r1 hK0 rfl ?_
      try obtain rfl := Option.some.inj h
      exact hP _ qv16 _ hS
theorem spec_l1In_w {a0 : Int} {a1 : Int} {a2 : Int} {r : (Bool)} (h : spec_l1In a0 a1 a2 = some r) {F : List It} {H : Heap} (hS : Own H (F)) {P : AV → Heap → Prop} (hP : ∀ H', Own H' (F) → P (.bool r) H') : ACall C 153 [.int .i64 a0, .int .i64 a1, .int .i64 a2] H P := by
  refine acall_of gC (res := [.tmp 6]) (n := 15) rfl rfl rfl rfl fun K0 hK0 => ?_
  simp only [W, Nat.reduceSub, Nat.reduceAdd, List.replicate]
  unfold spec_l1In at h
  refine w_seq fun K1 hK1 => ?_
  refine w_reg gC ?_
  try simp only [W, Nat.reduceAdd]
  refine seq_n hK1 ?_
  refine w_seq fun K2 hK2 => ?_
  refine w_reg gC ?_
  try simp only [W, EE, Nat.reduceAdd]
  refine w_grdT h (fun hc h => ?_) (fun hc h => ?_)
  · try simp only [W, EE, reduceIte, hc]
    refine seq_n hK2 ?_
    refine w_ret ?_
    refine fin_r1 hK0 rfl ?_
    try obtain rfl := Option.some.inj h
    exact hP _ hS
  · try simp only [W, hc]
    refine seq_n hK2 ?_
    refine w_ret ?_
    refine fin_r1 hK0 rfl ?_
    try obtain rfl := Option.some.inj h
    exact hP _ hS
theorem spec_l1All_w {a0 : List Int} {a1 : Int} {a2 : Int} {r : (Bool)} (h : spec_l1All a0 a1 a2 = some r) {F : List It} {H : Heap} (hS : Own H (F)) {P : AV → Heap → Prop} (hP : ∀ H', Own H' (F) → P (.bool r) H') : ACall C 150 [.fz (a0.map (AV.int .i64)), .int .i64 a1, .int .i64 a2] H P := by
  refine acall_of gC (res := [.tmp 6]) (n := 21) rfl rfl rfl rfl fun K0 hK0 => ?_
  simp only [W, Nat.reduceSub, Nat.reduceAdd, List.replicate]
  unfold spec_l1All at h
  refine w_seq fun K1 hK1 => ?_
  refine w_reg gC ?_
  try simp only [W, Nat.reduceAdd]
  refine seq_n hK1 ?_
  refine w_seq fun K2 hK2 => ?_
  refine w_seq fun K3 hK3 => ?_
  refine w_reg gC ?_
  try simp only [W, EE, Nat.reduceAdd]
  refine seq_n hK3 ?_
  obtain ⟨y5, hw6, g12⟩ := Option.bind_eq_some_iff.1 h
  refine w_join gC (fun s H => y5 = LR.next () ∧ s = [u, u, u, u, u, u, u, u, u, u, u, u, u, u, u, u, u, u, u, u, u] ∧ Own H (F)) (fun K7 hK7 => ?_) (fun s H hq => ?_)
  · refine w_blk fun K8 hK8 => ?_
    refine w_loop gC hw6 (fun x s H => s = [u, .int .i64 a1, .int .i64 a2, u, u, u, u, u, u, .fz (a0.map (AV.int .i64)), .int .i64 (a0.length : Int), .int .i64 x, u, u, u, u, u, u, u, u, u] ∧ Own H (F)) ⟨rfl, hS⟩ (fun x4 y11 s H h hd10 hi K9 hK9 => ?_)
    skip
    try dsimp only at hi
    obtain ⟨rfl, hS⟩ := hi
    simp only [spec_l1All_l0] at h
    refine w_seq fun K13 hK13 => ?_
    refine w_reg gC ?_
    try simp only [W, EE, Nat.reduceAdd]
    refine seq_n hK13 ?_
    refine w_seq fun K14 hK14 => ?_
    refine w_if ?_
    simp only [W]
    refine w_cnd h (fun hc h => ?_) (fun hc h => ?_)
    · refine w_skip ?_
      refine seq_n hK14 ?_
      refine w_seq fun K15 hK15 => ?_
      refine w_blk fun K16 hK16 => ?_
      refine w_seq fun K17 hK17 => ?_
      refine w_reg gC ?_
      try simp only [W, EE, Nat.reduceAdd]
      refine w_fz rfl rfl rfl (fun _ => rfl) h fun b18 hb18 h => ?_
      try simp only [W, EE]
      refine seq_n hK17 ?_
      refine w_seq fun K19 hK19 => ?_
      refine w_reg gC ?_
      try simp only [W, Nat.reduceAdd]
      refine w_call h fun b20 hb20 h => ?_
      refine spec_l1In_w hb20 hS fun H hS => ?_
      try simp only [W]
      refine seq_n hK19 ?_
      refine w_if ?_
      simp only [W]
      refine w_cnd h (fun hc h => ?_) (fun hc h => ?_)
      · refine w_seq fun K21 hK21 => ?_
        refine w_reg gC ?_
        try simp only [W, Nat.reduceAdd]
        refine seq_n hK21 ?_
        refine w_ret ?_
        refine blk_r hK16 ?_
        refine seq_r hK15 ?_
        try obtain rfl := Option.some.inj h
        obtain rfl := hd10 _ rfl
        have h : (some (LR.done false) : Option (LR Unit (Bool))) = some (LR.done false) := rfl
        refine lp_r hK9 ?_
        refine blk_r hK8 ?_
        try obtain rfl := Option.some.inj h
        obtain rfl := Option.some.inj g12
        have h : (some false : Option (Bool)) = some false := rfl
        refine cut_r hK7 ?_
        refine seq_r hK2 ?_
        refine fin_r1 hK0 rfl ?_
        try obtain rfl := Option.some.inj h
        exact hP _ hS
      · refine w_skip ?_
        refine blk_n0 hK16 ?_
        refine seq_n hK15 ?_
        refine w_reg gC ?_
        try simp only [W, EE, Nat.reduceAdd]
        exact lp_n hK9 h ⟨rfl, hS⟩
    · refine w_exit ?_
      refine seq_x hK14 ?_
      try obtain rfl := Option.some.inj h
      obtain rfl := hd10 _ rfl
      have h : (some (LR.next ()) : Option (LR Unit (Bool))) = some (LR.next ()) := rfl
      refine lp_x hK9 ?_
      refine blk_e hK8 ?_
      exact cut_n hK7 ⟨(Option.some.inj h).symm, rfl, hS⟩
  · obtain ⟨rfl, rfl, hS⟩ := hq
    replace h := g12
    try dsimp only at h
    refine seq_n hK2 ?_
    refine w_seq fun K28 hK28 => ?_
    refine w_reg gC ?_
    try simp only [W, Nat.reduceAdd]
    refine seq_n hK28 ?_
    refine w_ret ?_
    refine fin_r1 hK0 rfl ?_
    try obtain rfl := Option.some.inj h
    exact hP _ hS
theorem spec_NewTurns_w {a0 : List Int} {r : (Turns × Bool)} (h : spec_NewTurns a0 = some r) {F : List It} {H : Heap} (hS : Own H (F)) {P : AV → Heap → Prop} (hP : ∀ v35 : AV, isSl v35 → ∀ v37 : AV, isSl v37 → ∀ d39 : List AV, isSls d39 (r.1.Queues).length → ∀ v40 : AV, isSl v40 → ∀ v42 : AV, isSl v42 → ∀ H', Own H' (⟨v35, 1, r.1.Quanta.map (AV.int .i64)⟩ :: ⟨v37, 1, ouw nm_SInt d39 r.1.Queues⟩ :: ⟨v40, 1, r.1.Credit.map (AV.int .i64)⟩ :: ⟨v42, 1, r.1.Sent.map (AV.int .i64)⟩ :: ((inn np_SInt (AV.int .i64) 1 d39 r.1.Queues) ++ F)) → P (.tup [.agg [v35, v37, v40, v42, .int .i64 r.1.At], .bool r.2]) H') : ACall C 139 [.fz (a0.map (AV.int .i64))] H P := by
  refine acall_of gC (res := [.cell 2 75, .tmp 3]) (n := 26) rfl rfl rfl rfl fun K0 hK0 => ?_
  simp only [W, Nat.reduceSub, Nat.reduceAdd, List.replicate]
  unfold spec_NewTurns at h
  refine w_seq fun K1 hK1 => ?_
  refine w_reg gC ?_
  try simp only [W, Nat.reduceAdd]
  refine w_alloc hS rfl rfl fun ip2 wp2 H hS => ?_
  try simp only [W]
  refine seq_n hK1 ?_
  refine w_seq fun K4 hK4 => ?_
  refine w_reg gC ?_
  try simp only [W, EE, Nat.reduceAdd]
  refine seq_n hK4 ?_
  refine w_seq fun K5 hK5 => ?_
  refine w_seq fun K6 hK6 => ?_
  obtain ⟨y8, h, g9⟩ := Option.bind_eq_some_iff.1 h
  refine w_join gC (fun s H => ∃ x7 : Bool, y8 = (x7) ∧ s = [.fz (a0.map (AV.int .i64)), u, .ptr ip2 wp2 0 0, u, .int .i64 (a0.length : Int), u, u, u, u, u, u, u, u, u, .bool x7, u, u, u, u, u, u, u, u, u, u, u] ∧ Own H (⟨.ptr ip2 wp2 0 0, 5, [.agg [.nil, .nil, .nil, .nil, .int .i64 0]]⟩ :: F)) (fun K10 hK10 => ?_) (fun s H hq => ?_)
  · refine w_seq fun K11 hK11 => ?_
    refine w_reg gC ?_
    try simp only [W, Nat.reduceAdd]
    refine w_call h fun b12 hb12 h => ?_
    refine spec_l1In_w hb12 hS fun H hS => ?_
    try simp only [W]
    refine w_grdT h (fun hc h => ?_) (fun hc h => ?_)
    · try simp only [W, hc]
      refine seq_n hK11 ?_
      refine w_kill ?_
      exact cut_n hK10 ⟨_, (Option.some.inj h).symm, rfl, hS⟩
    · try simp only [W, hc]
      refine w_call h fun b13 hb13 h => ?_
      refine spec_l1All_w hb13 hS fun H hS => ?_
      try simp only [W, reduceIte, Bool.false_eq_true]
      refine seq_n hK11 ?_
      refine w_kill ?_
      exact cut_n hK10 ⟨_, (Option.some.inj h).symm, rfl, hS⟩
  · obtain ⟨x7, ey, rfl, hS⟩ := hq; obtain rfl := ey.symm
    replace h := g9
    try dsimp only at h
    refine seq_n hK6 ?_
    refine w_if ?_
    simp only [W]
    refine w_cnd h (fun hc h => ?_) (fun hc h => ?_)
    · refine w_seq fun K14 hK14 => ?_
      refine w_reg gC ?_
      try simp only [W, EE, Nat.reduceAdd]
      refine w_bld rfl rfl rfl rfl rfl ?_
      try simp only [W]
      refine w_stv (a := .agg [.nil, .nil, .nil, .nil, .int .i64 0]) (y' := .agg [.nil, .nil, .nil, .nil, .int .i64 0]) 0 hS rfl rfl rfl rfl rfl rfl rfl rfl fun H hS => ?_
      try simp only [W]
      refine seq_n hK14 ?_
      refine w_ret ?_
      refine seq_r hK5 ?_
      have hS := hS.nil_ 1
      have hS := hS.nil_ 1
      obtain ⟨d17, qd17, hS⟩ := noneN (p := np_SInt) (c := (AV.int .i64)) (z := 1) (m := nm_SInt) hS
      have hS : Own _ (⟨AV.nil, 1, ouw nm_SInt d17 ([] : List (List Int))⟩ :: ⟨AV.nil, 1, ([] : List Int).map (AV.int .i64)⟩ :: ⟨.ptr ip2 wp2 0 0, 5, [.agg [.nil, .nil, .nil, .nil, .int .i64 0]]⟩ :: ((inn np_SInt (AV.int .i64) 1 d17 ([] : List (List Int))) ++ (F))) := Own.catI_ (bl := [[⟨AV.nil, 1, ouw nm_SInt d17 ([] : List (List Int))⟩], (inn np_SInt (AV.int .i64) 1 d17 ([] : List (List Int))), [⟨AV.nil, 1, ([] : List Int).map (AV.int .i64)⟩], [⟨.ptr ip2 wp2 0 0, 5, [.agg [.nil, .nil, .nil, .nil, .int .i64 0]]⟩]]) (F := F) hS 4 rfl [0, 2, 3, 1] (by decide)
      have hS := hS.nil_ 1
      have hS := hS.nil_ 1
      refine fin_r hK0 (res_c rfl rfl (hS.var 4 rfl) rfl (res_tc rfl rfl)) ?_
      try obtain rfl := Option.some.inj h
      have hS : Own _ (⟨AV.nil, 1, ([] : List Int).map (AV.int .i64)⟩ :: ⟨AV.nil, 1, ouw nm_SInt d17 ([] : List (List Int))⟩ :: ⟨AV.nil, 1, ([] : List Int).map (AV.int .i64)⟩ :: ⟨AV.nil, 1, ([] : List Int).map (AV.int .i64)⟩ :: ((inn np_SInt (AV.int .i64) 1 d17 ([] : List (List Int))) ++ (F))) := Own.catI_ (bl := [[⟨AV.nil, 1, ([] : List Int).map (AV.int .i64)⟩], [⟨AV.nil, 1, ([] : List Int).map (AV.int .i64)⟩], [⟨AV.nil, 1, ouw nm_SInt d17 ([] : List (List Int))⟩], [⟨AV.nil, 1, ([] : List Int).map (AV.int .i64)⟩], [⟨.ptr ip2 wp2 0 0, 5, [.agg [.nil, .nil, .nil, .nil, .int .i64 0]]⟩], (inn np_SInt (AV.int .i64) 1 d17 ([] : List (List Int)))]) (F := F) hS 6 rfl [3, 2, 1, 0, 5] (by decide)
      exact hP _ isSl_nil _ isSl_nil _ qd17 _ isSl_nil _ isSl_nil _ hS
    · refine w_skip ?_
      refine seq_n hK5 ?_
      refine w_seq fun K20 hK20 => ?_
      refine w_drawL gC [(10, [])] (by kernel_rfl) rfl (by kernel_rfl) ?_
      try simp only [W, reduceIte, Nat.reduceAdd, tabAt, qAt, Nat.reduceEqDiff]
      refine w_lit0 rfl rfl ?_
      try simp only [W]
      refine w_appQ rfl ?_
      simp only [W, EE]
      have hS := hS.e0_ 1
      refine w_appV (l := ([] : List Int)) (c := (AV.int .i64)) 0 hS rfl isSl_e0 rfl rfl rfl rfl (fun _ => rfl) rfl h fun v23 H x22 qv23 hm h hS => ?_
      try simp only [W]
      refine w_makeN (m := nm_SInt) (p := np_SInt) (c := (AV.int .i64)) (z := 1) hS rfl rfl rfl rfl rfl rfl rfl h fun v25 H x27 d28 qv25 qd28 hm h hS => ?_
      have hS : Own _ (⟨v25, 1, ouw nm_SInt d28 x27⟩ :: ⟨v23, 1, x22.map (AV.int .i64)⟩ :: ⟨.ptr ip2 wp2 0 0, 5, [.agg [.nil, .nil, .nil, .nil, .int .i64 0]]⟩ :: ((inn np_SInt (AV.int .i64) 1 d28 x27) ++ (F))) := Own.catI_ (bl := [[⟨v25, 1, ouw nm_SInt d28 x27⟩], (inn np_SInt (AV.int .i64) 1 d28 x27), [⟨v23, 1, x22.map (AV.int .i64)⟩], [⟨.ptr ip2 wp2 0 0, 5, [.agg [.nil, .nil, .nil, .nil, .int .i64 0]]⟩]]) (F := F) hS 4 rfl [0, 2, 3, 1] (by decide)
      try simp only [W]
      refine w_make (c := (AV.int .i64)) hS rfl rfl rfl rfl rfl rfl h fun v29 H x31 qv29 hm h hS => ?_
      try simp only [W]
      refine w_make (c := (AV.int .i64)) hS rfl rfl rfl rfl rfl rfl h fun v32 H x34 qv32 hm h hS => ?_
      try simp only [W, EE]
      refine w_bld rfl rfl rfl rfl (by simp only [fillA, qv23.stora, qv23.cells, qv25.stora, qv25.cells, qv29.stora, qv29.cells, qv32.stora, qv32.cells]; simp [E, splice] <;> rfl) ?_
      try simp only [W]
      refine w_stv (a := .agg [v23, v25, v29, v32, .int .i64 0]) (y' := .agg [v23, v25, v29, v32, .int .i64 0]) 4 hS rfl rfl rfl rfl rfl (by simp only [storA, List.all_cons, List.all_nil, qv23.stor, qv25.stor, qv29.stor, qv32.stor]; rfl) rfl rfl fun H hS => ?_
      try simp only [W]
      refine seq_n hK20 ?_
      refine w_ret ?_
      refine fin_r hK0 (res_c rfl rfl (hS.var 4 rfl) rfl (res_tc rfl rfl)) ?_
      try obtain rfl := Option.some.inj h
      have hS : Own _ (⟨v23, 1, x22.map (AV.int .i64)⟩ :: ⟨v25, 1, ouw nm_SInt d28 x27⟩ :: ⟨v29, 1, x31.map (AV.int .i64)⟩ :: ⟨v32, 1, x34.map (AV.int .i64)⟩ :: ((inn np_SInt (AV.int .i64) 1 d28 x27) ++ (F))) := Own.catI_ (bl := [[⟨v32, 1, x34.map (AV.int .i64)⟩], [⟨v29, 1, x31.map (AV.int .i64)⟩], [⟨v25, 1, ouw nm_SInt d28 x27⟩], [⟨v23, 1, x22.map (AV.int .i64)⟩], [⟨.ptr ip2 wp2 0 0, 5, [.agg [v23, v25, v29, v32, .int .i64 0]]⟩], (inn np_SInt (AV.int .i64) 1 d28 x27)]) (F := F) hS 6 rfl [3, 2, 1, 0, 5] (by decide)
      exact hP _ qv23 _ qv25 _ qd28 _ qv29 _ qv32 _ hS
theorem spec_GoodTurns_w {a0 : Turns} {r : (Bool)} (h : spec_GoodTurns a0 = some r) {F : List It} {H : Heap} (hS : Own H (F)) {P : AV → Heap → Prop} (hP : ∀ H', Own H' (F) → P (.bool r) H') : ACall C 189 [.agg [.fz (a0.Quanta.map (AV.int .i64)), .fz (a0.Queues.map (fzl (AV.int .i64))), .fz (a0.Credit.map (AV.int .i64)), .fz (a0.Sent.map (AV.int .i64)), .int .i64 a0.At]] H P := by
  refine acall_of gC (res := [.tmp 2]) (n := 89) rfl rfl rfl rfl fun K0 hK0 => ?_
  simp only [W, Nat.reduceSub, Nat.reduceAdd, List.replicate]
  unfold spec_GoodTurns at h
  refine w_seq fun K1 hK1 => ?_
  refine w_reg gC ?_
  try simp only [W, Nat.reduceAdd]
  refine w_box hS rfl rfl rfl rfl fun ip2 wp2 H hS => ?_
  try simp only [W]
  refine seq_n hK1 ?_
  refine w_seq fun K4 hK4 => ?_
  refine w_reg gC ?_
  try simp only [W, EE, Nat.reduceAdd, Nat.reduceBEq, hS.var 0 rfl]
  refine seq_n hK4 ?_
  refine w_seq fun K5 hK5 => ?_
  refine w_seq fun K6 hK6 => ?_
  obtain ⟨y8, h, g9⟩ := Option.bind_eq_some_iff.1 h
  refine w_join gC (fun s H => ∃ x7 : Bool, y8 = (x7) ∧ s = (u :: .ptr ip2 wp2 0 0 :: u :: u :: u :: u :: u :: u :: u :: u :: u :: u :: u :: u :: u :: u :: u :: u :: u :: u :: u :: u :: u :: u :: u :: u :: u :: u :: u :: u :: u :: u :: u :: u :: u :: u :: u :: u :: u :: u :: u :: u :: u :: u :: u :: u :: u :: u :: u :: u :: u :: u :: u :: u :: u :: u :: u :: u :: .bool x7 :: u :: u :: u :: u :: u :: u :: u :: u :: u :: u :: u :: u :: u :: u :: u :: u :: u :: u :: u :: u :: u :: u :: u :: u :: u :: u :: u :: u :: u :: u :: []) ∧ Own H (⟨.ptr ip2 wp2 0 0, 5, [.agg [.fz (a0.Quanta.map (AV.int .i64)), .fz (a0.Queues.map (fzl (AV.int .i64))), .fz (a0.Credit.map (AV.int .i64)), .fz (a0.Sent.map (AV.int .i64)), .int .i64 a0.At]]⟩ :: F)) (fun K10 hK10 => ?_) (fun s H hq => ?_)
  · refine w_seq fun K11 hK11 => ?_
    refine w_reg gC ?_
    try simp only [W, Nat.reduceAdd]
    refine w_call h fun b12 hb12 h => ?_
    refine spec_l1In_w hb12 hS fun H hS => ?_
    try simp only [W]
    refine w_grdT h (fun hc h => ?_) (fun hc h => ?_)
    · try simp only [W, hc]
      refine seq_n hK11 ?_
      refine w_killE (s' := (u :: .ptr ip2 wp2 0 0 :: u :: u :: u :: u :: u :: u :: u :: u :: u :: u :: u :: u :: u :: u :: u :: u :: u :: u :: u :: u :: u :: u :: u :: u :: u :: u :: u :: u :: u :: u :: u :: u :: u :: u :: u :: u :: u :: u :: u :: u :: u :: u :: u :: u :: u :: u :: u :: u :: u :: u :: u :: u :: u :: u :: u :: u :: .bool true :: u :: u :: u :: u :: u :: u :: u :: u :: u :: u :: u :: u :: u :: u :: u :: u :: u :: u :: u :: u :: u :: u :: u :: u :: u :: u :: u :: u :: u :: u :: [])) rfl ?_
      exact cut_n hK10 ⟨_, (Option.some.inj h).symm, rfl, hS⟩
    · try simp only [W, EE, Nat.reduceAdd, Nat.reduceBEq, hS.var 0 rfl, hc]
      refine w_call h fun b13 hb13 h => ?_
      refine spec_l1All_w hb13 hS fun H hS => ?_
      try simp only [W, reduceIte, Bool.false_eq_true]
      refine w_grdT h (fun hc h => ?_) (fun hc h => ?_)
      · try simp only [W, hc]
        refine seq_n hK11 ?_
        refine w_killE (s' := (u :: .ptr ip2 wp2 0 0 :: u :: u :: u :: u :: u :: u :: u :: u :: u :: u :: u :: u :: u :: u :: u :: u :: u :: u :: u :: u :: u :: u :: u :: u :: u :: u :: u :: u :: u :: u :: u :: u :: u :: u :: u :: u :: u :: u :: u :: u :: u :: u :: u :: u :: u :: u :: u :: u :: u :: u :: u :: u :: u :: u :: u :: u :: .bool true :: u :: u :: u :: u :: u :: u :: u :: u :: u :: u :: u :: u :: u :: u :: u :: u :: u :: u :: u :: u :: u :: u :: u :: u :: u :: u :: u :: u :: u :: u :: [])) rfl ?_
        exact cut_n hK10 ⟨_, (Option.some.inj h).symm, rfl, hS⟩
      · try simp only [W, EE, reduceIte, Nat.reduceAdd, Nat.reduceBEq, Bool.false_eq_true, hS.var 0 rfl, hc]
        refine w_grdT h (fun hc h => ?_) (fun hc h => ?_)
        · try simp only [W, hc]
          refine seq_n hK11 ?_
          refine w_killE (s' := (u :: .ptr ip2 wp2 0 0 :: u :: u :: u :: u :: u :: u :: u :: u :: u :: u :: u :: u :: u :: u :: u :: u :: u :: u :: u :: u :: u :: u :: u :: u :: u :: u :: u :: u :: u :: u :: u :: u :: u :: u :: u :: u :: u :: u :: u :: u :: u :: u :: u :: u :: u :: u :: u :: u :: u :: u :: u :: u :: u :: u :: u :: u :: .bool true :: u :: u :: u :: u :: u :: u :: u :: u :: u :: u :: u :: u :: u :: u :: u :: u :: u :: u :: u :: u :: u :: u :: u :: u :: u :: u :: u :: u :: u :: u :: [])) rfl ?_
          exact cut_n hK10 ⟨_, (Option.some.inj h).symm, rfl, hS⟩
        · try simp only [W, EE, reduceIte, Nat.reduceAdd, Nat.reduceBEq, Bool.false_eq_true, hS.var 0 rfl, hc]
          refine w_grdT h (fun hc h => ?_) (fun hc h => ?_)
          · try simp only [W, hc]
            refine seq_n hK11 ?_
            refine w_killE (s' := (u :: .ptr ip2 wp2 0 0 :: u :: u :: u :: u :: u :: u :: u :: u :: u :: u :: u :: u :: u :: u :: u :: u :: u :: u :: u :: u :: u :: u :: u :: u :: u :: u :: u :: u :: u :: u :: u :: u :: u :: u :: u :: u :: u :: u :: u :: u :: u :: u :: u :: u :: u :: u :: u :: u :: u :: u :: u :: u :: u :: u :: u :: u :: .bool true :: u :: u :: u :: u :: u :: u :: u :: u :: u :: u :: u :: u :: u :: u :: u :: u :: u :: u :: u :: u :: u :: u :: u :: u :: u :: u :: u :: u :: u :: u :: [])) rfl ?_
            exact cut_n hK10 ⟨_, (Option.some.inj h).symm, rfl, hS⟩
          · try simp only [W, EE, reduceIte, Nat.reduceAdd, Nat.reduceBEq, Bool.false_eq_true, hS.var 0 rfl, hc]
            refine w_grdT h (fun hc h => ?_) (fun hc h => ?_)
            · try simp only [W, hc]
              refine seq_n hK11 ?_
              refine w_killE (s' := (u :: .ptr ip2 wp2 0 0 :: u :: u :: u :: u :: u :: u :: u :: u :: u :: u :: u :: u :: u :: u :: u :: u :: u :: u :: u :: u :: u :: u :: u :: u :: u :: u :: u :: u :: u :: u :: u :: u :: u :: u :: u :: u :: u :: u :: u :: u :: u :: u :: u :: u :: u :: u :: u :: u :: u :: u :: u :: u :: u :: u :: u :: u :: .bool true :: u :: u :: u :: u :: u :: u :: u :: u :: u :: u :: u :: u :: u :: u :: u :: u :: u :: u :: u :: u :: u :: u :: u :: u :: u :: u :: u :: u :: u :: u :: [])) rfl ?_
              exact cut_n hK10 ⟨_, (Option.some.inj h).symm, rfl, hS⟩
            · try simp only [W, EE, Nat.reduceAdd, Nat.reduceBEq, hS.var 0 rfl, hc]
              refine w_call h fun b14 hb14 h => ?_
              refine spec_l1All_w hb14 hS fun H hS => ?_
              try simp only [W, reduceIte, Bool.false_eq_true]
              refine w_grdT h (fun hc h => ?_) (fun hc h => ?_)
              · try simp only [W, hc]
                refine seq_n hK11 ?_
                refine w_killE (s' := (u :: .ptr ip2 wp2 0 0 :: u :: u :: u :: u :: u :: u :: u :: u :: u :: u :: u :: u :: u :: u :: u :: u :: u :: u :: u :: u :: u :: u :: u :: u :: u :: u :: u :: u :: u :: u :: u :: u :: u :: u :: u :: u :: u :: u :: u :: u :: u :: u :: u :: u :: u :: u :: u :: u :: u :: u :: u :: u :: u :: u :: u :: u :: .bool true :: u :: u :: u :: u :: u :: u :: u :: u :: u :: u :: u :: u :: u :: u :: u :: u :: u :: u :: u :: u :: u :: u :: u :: u :: u :: u :: u :: u :: u :: u :: [])) rfl ?_
                exact cut_n hK10 ⟨_, (Option.some.inj h).symm, rfl, hS⟩
              · try simp only [W, EE, Nat.reduceAdd, Nat.reduceBEq, hS.var 0 rfl, hc]
                refine w_call h fun b15 hb15 h => ?_
                refine spec_l1All_w hb15 hS fun H hS => ?_
                try simp only [W, reduceIte, Bool.false_eq_true]
                refine w_grdT h (fun hc h => ?_) (fun hc h => ?_)
                · try simp only [W, hc]
                  refine seq_n hK11 ?_
                  refine w_killE (s' := (u :: .ptr ip2 wp2 0 0 :: u :: u :: u :: u :: u :: u :: u :: u :: u :: u :: u :: u :: u :: u :: u :: u :: u :: u :: u :: u :: u :: u :: u :: u :: u :: u :: u :: u :: u :: u :: u :: u :: u :: u :: u :: u :: u :: u :: u :: u :: u :: u :: u :: u :: u :: u :: u :: u :: u :: u :: u :: u :: u :: u :: u :: u :: .bool true :: u :: u :: u :: u :: u :: u :: u :: u :: u :: u :: u :: u :: u :: u :: u :: u :: u :: u :: u :: u :: u :: u :: u :: u :: u :: u :: u :: u :: u :: u :: [])) rfl ?_
                  exact cut_n hK10 ⟨_, (Option.some.inj h).symm, rfl, hS⟩
                · try simp only [W, EE, Nat.reduceAdd, Nat.reduceBEq, hS.var 0 rfl, hc]
                  refine w_call h fun b16 hb16 h => ?_
                  refine spec_l1In_w hb16 hS fun H hS => ?_
                  try simp only [W, reduceIte, Bool.false_eq_true]
                  refine seq_n hK11 ?_
                  refine w_killE (s' := (u :: .ptr ip2 wp2 0 0 :: u :: u :: u :: u :: u :: u :: u :: u :: u :: u :: u :: u :: u :: u :: u :: u :: u :: u :: u :: u :: u :: u :: u :: u :: u :: u :: u :: u :: u :: u :: u :: u :: u :: u :: u :: u :: u :: u :: u :: u :: u :: u :: u :: u :: u :: u :: u :: u :: u :: u :: u :: u :: u :: u :: u :: u :: .bool (!b16) :: u :: u :: u :: u :: u :: u :: u :: u :: u :: u :: u :: u :: u :: u :: u :: u :: u :: u :: u :: u :: u :: u :: u :: u :: u :: u :: u :: u :: u :: u :: [])) rfl ?_
                  exact cut_n hK10 ⟨_, (Option.some.inj h).symm, rfl, hS⟩
  · obtain ⟨x7, ey, rfl, hS⟩ := hq; obtain rfl := ey.symm
    replace h := g9
    try dsimp only at h
    refine seq_n hK6 ?_
    refine w_if ?_
    simp only [W]
    refine w_cnd h (fun hc h => ?_) (fun hc h => ?_)
    · refine w_seq fun K17 hK17 => ?_
      refine w_reg gC ?_
      try simp only [W, Nat.reduceAdd]
      refine seq_n hK17 ?_
      refine w_ret ?_
      refine seq_r hK5 ?_
      refine fin_r1 hK0 rfl ?_
      try obtain rfl := Option.some.inj h
      exact hP _ (hS.sel 1 [] (by decide))
    · refine w_skip ?_
      refine seq_n hK5 ?_
      refine w_seq fun K18 hK18 => ?_
      refine w_seq fun K19 hK19 => ?_
      refine w_reg gC ?_
      try simp only [W, EE, Nat.reduceAdd, Nat.reduceBEq, hS.var 0 rfl]
      refine seq_n hK19 ?_
      obtain ⟨y21, hw22, g28⟩ := Option.bind_eq_some_iff.1 h
      refine w_join gC (fun s H => y21 = LR.next () ∧ s = (u :: u :: u :: u :: u :: u :: u :: u :: u :: u :: u :: u :: u :: u :: u :: u :: u :: u :: u :: u :: u :: u :: u :: u :: u :: u :: u :: u :: u :: u :: u :: u :: u :: u :: u :: u :: u :: u :: u :: u :: u :: u :: u :: u :: u :: u :: u :: u :: u :: u :: u :: u :: u :: u :: u :: u :: u :: u :: u :: u :: u :: u :: u :: u :: u :: u :: u :: u :: u :: u :: u :: u :: u :: u :: u :: u :: u :: u :: u :: u :: u :: u :: u :: u :: u :: u :: u :: u :: u :: []) ∧ Own H (F)) (fun K23 hK23 => ?_) (fun s H hq => ?_)
      · refine w_blk fun K24 hK24 => ?_
        refine w_loop gC hw22 (fun x s H => s = (u :: .ptr ip2 wp2 0 0 :: u :: u :: u :: u :: u :: u :: u :: u :: u :: u :: u :: u :: u :: u :: u :: u :: u :: u :: u :: u :: u :: u :: u :: u :: u :: u :: u :: u :: u :: u :: u :: u :: u :: u :: u :: u :: u :: u :: u :: u :: u :: u :: u :: u :: u :: u :: u :: u :: u :: u :: u :: u :: u :: u :: u :: u :: u :: u :: .fz (a0.Queues.map (fzl (AV.int .i64))) :: .int .i64 (a0.Queues.length : Int) :: .int .i64 x :: u :: u :: u :: u :: u :: u :: u :: u :: u :: u :: u :: u :: u :: u :: u :: u :: u :: u :: u :: u :: u :: u :: u :: u :: u :: u :: []) ∧ Own H (⟨.ptr ip2 wp2 0 0, 5, [.agg [.fz (a0.Quanta.map (AV.int .i64)), .fz (a0.Queues.map (fzl (AV.int .i64))), .fz (a0.Credit.map (AV.int .i64)), .fz (a0.Sent.map (AV.int .i64)), .int .i64 a0.At]]⟩ :: F)) ⟨rfl, hS⟩ (fun x20 y27 s H h hd26 hi K25 hK25 => ?_)
        skip
        try dsimp only at hi
        obtain ⟨rfl, hS⟩ := hi
        simp only [spec_GoodTurns_l0] at h
        refine w_seq fun K29 hK29 => ?_
        refine w_reg gC ?_
        try simp only [W, EE, Nat.reduceAdd]
        refine seq_n hK29 ?_
        refine w_seq fun K30 hK30 => ?_
        refine w_if ?_
        simp only [W]
        refine w_cnd h (fun hc h => ?_) (fun hc h => ?_)
        · refine w_skip ?_
          refine seq_n hK30 ?_
          refine w_seq fun K31 hK31 => ?_
          refine w_blk fun K32 hK32 => ?_
          refine w_seq fun K33 hK33 => ?_
          refine w_reg gC ?_
          try simp only [W, EE, Nat.reduceAdd]
          refine w_fz rfl rfl rfl (fun _ => rfl) h fun b34 hb34 h => ?_
          try simp only [W, EE, EN]
          refine seq_n hK33 ?_
          refine w_seq fun K35 hK35 => ?_
          obtain ⟨y37, h, g38⟩ := Option.bind_eq_some_iff.1 h
          refine w_join gC (fun s H => ∃ x36 : Bool, y37 = (x36) ∧ s = (u :: .ptr ip2 wp2 0 0 :: u :: u :: u :: u :: u :: u :: u :: u :: u :: u :: u :: u :: u :: u :: u :: u :: u :: u :: u :: u :: u :: u :: u :: u :: u :: u :: u :: u :: u :: u :: u :: u :: u :: u :: u :: u :: u :: u :: u :: u :: u :: u :: u :: u :: u :: u :: u :: u :: u :: u :: u :: u :: u :: u :: u :: u :: u :: u :: .fz (a0.Queues.map (fzl (AV.int .i64))) :: .int .i64 (a0.Queues.length : Int) :: .int .i64 x20 :: u :: u :: u :: u :: u :: u :: u :: u :: u :: u :: u :: u :: u :: u :: u :: u :: u :: u :: u :: u :: u :: u :: u :: u :: .bool x36 :: u :: []) ∧ Own H (⟨.ptr ip2 wp2 0 0, 5, [.agg [.fz (a0.Quanta.map (AV.int .i64)), .fz (a0.Queues.map (fzl (AV.int .i64))), .fz (a0.Credit.map (AV.int .i64)), .fz (a0.Sent.map (AV.int .i64)), .int .i64 a0.At]]⟩ :: F)) (fun K39 hK39 => ?_) (fun s H hq => ?_)
          · refine w_seq fun K40 hK40 => ?_
            refine w_reg gC ?_
            try simp only [W, EE, Nat.reduceAdd]
            refine w_grdT h (fun hc h => ?_) (fun hc h => ?_)
            · try simp only [W, hc]
              refine seq_n hK40 ?_
              refine w_killE (s' := (u :: .ptr ip2 wp2 0 0 :: u :: u :: u :: u :: u :: u :: u :: u :: u :: u :: u :: u :: u :: u :: u :: u :: u :: u :: u :: u :: u :: u :: u :: u :: u :: u :: u :: u :: u :: u :: u :: u :: u :: u :: u :: u :: u :: u :: u :: u :: u :: u :: u :: u :: u :: u :: u :: u :: u :: u :: u :: u :: u :: u :: u :: u :: u :: u :: .fz (a0.Queues.map (fzl (AV.int .i64))) :: .int .i64 (a0.Queues.length : Int) :: .int .i64 x20 :: u :: u :: u :: u :: u :: u :: u :: u :: u :: u :: u :: u :: u :: u :: u :: u :: u :: u :: u :: u :: u :: u :: u :: u :: .bool true :: u :: [])) rfl ?_
              exact cut_n hK39 ⟨_, (Option.some.inj h).symm, rfl, hS⟩
            · try simp only [W, hc]
              refine w_call h fun b41 hb41 h => ?_
              refine spec_l1All_w hb41 hS fun H hS => ?_
              try simp only [W, reduceIte, Bool.false_eq_true]
              refine w_grdT h (fun hc h => ?_) (fun hc h => ?_)
              · try simp only [W, hc]
                refine seq_n hK40 ?_
                refine w_killE (s' := (u :: .ptr ip2 wp2 0 0 :: u :: u :: u :: u :: u :: u :: u :: u :: u :: u :: u :: u :: u :: u :: u :: u :: u :: u :: u :: u :: u :: u :: u :: u :: u :: u :: u :: u :: u :: u :: u :: u :: u :: u :: u :: u :: u :: u :: u :: u :: u :: u :: u :: u :: u :: u :: u :: u :: u :: u :: u :: u :: u :: u :: u :: u :: u :: u :: .fz (a0.Queues.map (fzl (AV.int .i64))) :: .int .i64 (a0.Queues.length : Int) :: .int .i64 x20 :: u :: u :: u :: u :: u :: u :: u :: u :: u :: u :: u :: u :: u :: u :: u :: u :: u :: u :: u :: u :: u :: u :: u :: u :: .bool true :: u :: [])) rfl ?_
                exact cut_n hK39 ⟨_, (Option.some.inj h).symm, rfl, hS⟩
              · try simp only [W, EE, hc]
                refine w_grdT h (fun hc h => ?_) (fun hc h => ?_)
                · try simp only [W, EE, Nat.reduceAdd, Nat.reduceBEq, hS.var 0 rfl, hc]
                  refine w_fz rfl rfl rfl (fun _ => rfl) h fun b42 hb42 h => ?_
                  try simp only [W, EE, reduceIte, Bool.false_eq_true]
                  refine seq_n hK40 ?_
                  refine w_killE (s' := (u :: .ptr ip2 wp2 0 0 :: u :: u :: u :: u :: u :: u :: u :: u :: u :: u :: u :: u :: u :: u :: u :: u :: u :: u :: u :: u :: u :: u :: u :: u :: u :: u :: u :: u :: u :: u :: u :: u :: u :: u :: u :: u :: u :: u :: u :: u :: u :: u :: u :: u :: u :: u :: u :: u :: u :: u :: u :: u :: u :: u :: u :: u :: u :: u :: .fz (a0.Queues.map (fzl (AV.int .i64))) :: .int .i64 (a0.Queues.length : Int) :: .int .i64 x20 :: u :: u :: u :: u :: u :: u :: u :: u :: u :: u :: u :: u :: u :: u :: u :: u :: u :: u :: u :: u :: u :: u :: u :: u :: .bool (b42 != 0) :: u :: [])) rfl ?_
                  exact cut_n hK39 ⟨_, (Option.some.inj h).symm, rfl, hS⟩
                · try simp only [W, reduceIte, Bool.false_eq_true, hc]
                  refine seq_n hK40 ?_
                  refine w_killE (s' := (u :: .ptr ip2 wp2 0 0 :: u :: u :: u :: u :: u :: u :: u :: u :: u :: u :: u :: u :: u :: u :: u :: u :: u :: u :: u :: u :: u :: u :: u :: u :: u :: u :: u :: u :: u :: u :: u :: u :: u :: u :: u :: u :: u :: u :: u :: u :: u :: u :: u :: u :: u :: u :: u :: u :: u :: u :: u :: u :: u :: u :: u :: u :: u :: u :: .fz (a0.Queues.map (fzl (AV.int .i64))) :: .int .i64 (a0.Queues.length : Int) :: .int .i64 x20 :: u :: u :: u :: u :: u :: u :: u :: u :: u :: u :: u :: u :: u :: u :: u :: u :: u :: u :: u :: u :: u :: u :: u :: u :: .bool false :: u :: [])) rfl ?_
                  exact cut_n hK39 ⟨_, (Option.some.inj h).symm, rfl, hS⟩
          · obtain ⟨x36, ey, rfl, hS⟩ := hq; obtain rfl := ey.symm
            replace h := g38
            try dsimp only at h
            refine seq_n hK35 ?_
            refine w_if ?_
            simp only [W]
            refine w_cnd h (fun hc h => ?_) (fun hc h => ?_)
            · refine w_seq fun K43 hK43 => ?_
              refine w_reg gC ?_
              try simp only [W, Nat.reduceAdd]
              refine seq_n hK43 ?_
              refine w_ret ?_
              refine blk_r hK32 ?_
              refine seq_r hK31 ?_
              try obtain rfl := Option.some.inj h
              obtain rfl := hd26 _ rfl
              have h : (some (LR.done false) : Option (LR Unit (Bool))) = some (LR.done false) := rfl
              refine lp_r hK25 ?_
              refine blk_r hK24 ?_
              try obtain rfl := Option.some.inj h
              obtain rfl := Option.some.inj g28
              have h : (some false : Option (Bool)) = some false := rfl
              refine cut_r hK23 ?_
              refine seq_r hK18 ?_
              refine fin_r1 hK0 rfl ?_
              try obtain rfl := Option.some.inj h
              exact hP _ (hS.sel 1 [] (by decide))
            · refine w_skip ?_
              refine blk_n0 hK32 ?_
              refine seq_n hK31 ?_
              refine w_reg gC ?_
              try simp only [W, EE, Nat.reduceAdd]
              exact lp_n hK25 h ⟨rfl, hS⟩
        · refine w_exit ?_
          refine seq_x hK30 ?_
          try obtain rfl := Option.some.inj h
          obtain rfl := hd26 _ rfl
          have h : (some (LR.next ()) : Option (LR Unit (Bool))) = some (LR.next ()) := rfl
          refine lp_x hK25 ?_
          refine blk_e hK24 ?_
          exact cut_n hK23 ⟨(Option.some.inj h).symm, rfl, (hS.sel 1 [] (by decide))⟩
      · obtain ⟨rfl, rfl, hS⟩ := hq
        replace h := g28
        try dsimp only at h
        refine seq_n hK18 ?_
        refine w_seq fun K50 hK50 => ?_
        refine w_reg gC ?_
        try simp only [W, Nat.reduceAdd]
        refine seq_n hK50 ?_
        refine w_ret ?_
        refine fin_r1 hK0 rfl ?_
        try obtain rfl := Option.some.inj h
        exact hP _ hS
theorem spec_l8Own_w {a0 : Turns} {r : (Turns)} (h : spec_l8Own a0 = some r) {F : List It} {H : Heap} (hS : Own H (F)) {P : AV → Heap → Prop} (hP : ∀ v61 : AV, isSl v61 → ∀ v63 : AV, isSl v63 → ∀ d65 : List AV, isSls d65 (r.Queues).length → ∀ v66 : AV, isSl v66 → ∀ v68 : AV, isSl v68 → ∀ H', Own H' (⟨v61, 1, r.Quanta.map (AV.int .i64)⟩ :: ⟨v63, 1, ouw nm_SInt d65 r.Queues⟩ :: ⟨v66, 1, r.Credit.map (AV.int .i64)⟩ :: ⟨v68, 1, r.Sent.map (AV.int .i64)⟩ :: ((inn np_SInt (AV.int .i64) 1 d65 r.Queues) ++ F)) → P (.agg [v61, v63, v66, v68, .int .i64 r.At]) H') : ACall C 190 [.agg [.fz (a0.Quanta.map (AV.int .i64)), .fz (a0.Queues.map (fzl (AV.int .i64))), .fz (a0.Credit.map (AV.int .i64)), .fz (a0.Sent.map (AV.int .i64)), .int .i64 a0.At]] H P := by
  refine acall_of gC (res := [.cell 2 75]) (n := 38) rfl rfl rfl rfl fun K0 hK0 => ?_
  simp only [W, Nat.reduceSub, Nat.reduceAdd, List.replicate]
  unfold spec_l8Own at h
  refine w_seq fun K1 hK1 => ?_
  refine w_reg gC ?_
  try simp only [W, Nat.reduceAdd]
  refine w_box hS rfl rfl rfl rfl fun ip2 wp2 H hS => ?_
  try simp only [W]
  refine w_alloc hS rfl rfl fun ip4 wp4 H hS => ?_
  try simp only [W]
  refine seq_n hK1 ?_
  refine w_seq fun K6 hK6 => ?_
  refine w_drawL gC [(16, [])] (by kernel_rfl) rfl (by kernel_rfl) ?_
  try simp only [W, reduceIte, Nat.reduceAdd, tabAt, qAt, Nat.reduceEqDiff]
  refine w_lit0 rfl rfl ?_
  try simp only [W, EE, Nat.reduceAdd, Nat.reduceBEq, hS.var 1 rfl]
  refine w_appQ rfl ?_
  simp only [W, EE]
  have hS := hS.e0_ 1
  refine w_appV (l := ([] : List Int)) (c := (AV.int .i64)) 0 hS rfl isSl_e0 rfl rfl rfl rfl (fun _ => rfl) rfl h fun v9 H x8 qv9 hm h hS => ?_
  try simp only [W]
  refine w_lit0 rfl rfl ?_
  try simp only [W, EE, Nat.reduceAdd, Nat.reduceBEq, hS.var 2 rfl]
  refine w_appQ rfl ?_
  simp only [W, EE]
  have hS := hS.e0_ 1
  refine w_appV (l := ([] : List Int)) (c := (AV.int .i64)) 0 hS rfl isSl_e0 rfl rfl rfl rfl (fun _ => rfl) rfl h fun v13 H x12 qv13 hm h hS => ?_
  try simp only [W]
  refine w_lit0 rfl rfl ?_
  try simp only [W, EE, Nat.reduceAdd, Nat.reduceBEq, hS.var 3 rfl]
  refine w_appQ rfl ?_
  simp only [W, EE]
  have hS := hS.e0_ 1
  refine w_appV (l := ([] : List Int)) (c := (AV.int .i64)) 0 hS rfl isSl_e0 rfl rfl rfl rfl (fun _ => rfl) rfl h fun v17 H x16 qv17 hm h hS => ?_
  try simp only [W, EE, Nat.reduceAdd, Nat.reduceBEq, hS.var 4 rfl]
  refine w_bld rfl rfl rfl rfl (by simp only [fillA, qv9.stora, qv9.cells, qv13.stora, qv13.cells, qv17.stora, qv17.cells]; simp [E, splice, AV.cells, storA, stor1] <;> rfl) ?_
  try simp only [W]
  refine w_alloc hS rfl rfl fun ip19 wp19 H hS => ?_
  try simp only [W]
  refine w_stv (a := .agg [v9, .nil, v13, v17, .int .i64 a0.At]) (y' := .agg [v9, .nil, v13, v17, .int .i64 a0.At]) 0 hS rfl rfl rfl rfl rfl (by simp only [storA, List.all_cons, List.all_nil, qv9.stor, qv13.stor, qv17.stor]; rfl) rfl rfl fun H hS => ?_
  try simp only [W]
  refine seq_n hK6 ?_
  refine w_seq fun K21 hK21 => ?_
  refine w_seq fun K22 hK22 => ?_
  refine w_reg gC ?_
  try simp only [W, EE, Nat.reduceAdd, Nat.reduceBEq, hS.var 5 rfl]
  refine seq_n hK22 ?_
  obtain ⟨y31, hw32, g38⟩ := Option.bind_eq_some_iff.1 h
  refine w_join gC (fun s H => ∃ x28 : List (List Int), y31 = (x28) ∧ ∃ v29 : AV, isSl v29 ∧ ∃ d30 : List AV, isSls d30 (x28).length ∧ s = [u, u, .ptr ip4 wp4 0 0, .ptr ip19 wp19 0 0, u, u, u, u, u, u, u, u, u, u, u, u, u, u, u, u, u, u, u, u, u, u, u, u, u, u, u, u, u, u, u, u, u, u] ∧ Own H (⟨v9, 1, x8.map (AV.int .i64)⟩ :: ⟨v29, 1, ouw nm_SInt d30 x28⟩ :: ⟨v13, 1, x12.map (AV.int .i64)⟩ :: ⟨v17, 1, x16.map (AV.int .i64)⟩ :: ⟨.ptr ip4 wp4 0 0, 5, [.agg [.nil, .nil, .nil, .nil, .int .i64 0]]⟩ :: ⟨.ptr ip19 wp19 0 0, 5, [.agg [v9, v29, v13, v17, .int .i64 a0.At]]⟩ :: ((inn np_SInt (AV.int .i64) 1 d30 x28) ++ F))) (fun K33 hK33 => ?_) (fun s H hq => ?_)
  · refine w_blk fun K34 hK34 => ?_
    have hS := hS.nil_ 1
    obtain ⟨d59, qd59, hS⟩ := noneN (p := np_SInt) (c := (AV.int .i64)) (z := 1) (m := nm_SInt) hS
    have hS : Own _ (⟨AV.nil, 1, ouw nm_SInt d59 ([] : List (List Int))⟩ :: ⟨.ptr ip19 wp19 0 0, 5, [.agg [v9, .nil, v13, v17, .int .i64 a0.At]]⟩ :: ⟨v17, 1, x16.map (AV.int .i64)⟩ :: ⟨v13, 1, x12.map (AV.int .i64)⟩ :: ⟨v9, 1, x8.map (AV.int .i64)⟩ :: ⟨.ptr ip4 wp4 0 0, 5, [.agg [.nil, .nil, .nil, .nil, .int .i64 0]]⟩ :: ⟨.ptr ip2 wp2 0 0, 5, [.agg [.fz (a0.Quanta.map (AV.int .i64)), .fz (a0.Queues.map (fzl (AV.int .i64))), .fz (a0.Credit.map (AV.int .i64)), .fz (a0.Sent.map (AV.int .i64)), .int .i64 a0.At]]⟩ :: ((inn np_SInt (AV.int .i64) 1 d59 ([] : List (List Int))) ++ (F))) := Own.catI_ (bl := [[⟨AV.nil, 1, ouw nm_SInt d59 ([] : List (List Int))⟩], (inn np_SInt (AV.int .i64) 1 d59 ([] : List (List Int))), [⟨.ptr ip19 wp19 0 0, 5, [.agg [v9, .nil, v13, v17, .int .i64 a0.At]]⟩], [⟨v17, 1, x16.map (AV.int .i64)⟩], [⟨v13, 1, x12.map (AV.int .i64)⟩], [⟨v9, 1, x8.map (AV.int .i64)⟩], [⟨.ptr ip4 wp4 0 0, 5, [.agg [.nil, .nil, .nil, .nil, .int .i64 0]]⟩], [⟨.ptr ip2 wp2 0 0, 5, [.agg [.fz (a0.Quanta.map (AV.int .i64)), .fz (a0.Queues.map (fzl (AV.int .i64))), .fz (a0.Credit.map (AV.int .i64)), .fz (a0.Sent.map (AV.int .i64)), .int .i64 a0.At]]⟩]]) (F := F) hS 8 rfl [0, 2, 3, 4, 5, 6, 7, 1] (by decide)
    have hS : Own _ (⟨v9, 1, x8.map (AV.int .i64)⟩ :: ⟨AV.nil, 1, ouw nm_SInt d59 ([] : List (List Int))⟩ :: ⟨v13, 1, x12.map (AV.int .i64)⟩ :: ⟨v17, 1, x16.map (AV.int .i64)⟩ :: ⟨.ptr ip4 wp4 0 0, 5, [.agg [.nil, .nil, .nil, .nil, .int .i64 0]]⟩ :: ⟨.ptr ip19 wp19 0 0, 5, [.agg [v9, .nil, v13, v17, .int .i64 a0.At]]⟩ :: ((inn np_SInt (AV.int .i64) 1 d59 ([] : List (List Int))) ++ (F))) := Own.catI_ (bl := [[⟨AV.nil, 1, ouw nm_SInt d59 ([] : List (List Int))⟩], [⟨.ptr ip19 wp19 0 0, 5, [.agg [v9, .nil, v13, v17, .int .i64 a0.At]]⟩], [⟨v17, 1, x16.map (AV.int .i64)⟩], [⟨v13, 1, x12.map (AV.int .i64)⟩], [⟨v9, 1, x8.map (AV.int .i64)⟩], [⟨.ptr ip4 wp4 0 0, 5, [.agg [.nil, .nil, .nil, .nil, .int .i64 0]]⟩], [⟨.ptr ip2 wp2 0 0, 5, [.agg [.fz (a0.Quanta.map (AV.int .i64)), .fz (a0.Queues.map (fzl (AV.int .i64))), .fz (a0.Credit.map (AV.int .i64)), .fz (a0.Sent.map (AV.int .i64)), .int .i64 a0.At]]⟩], (inn np_SInt (AV.int .i64) 1 d59 ([] : List (List Int)))]) (F := F) hS 8 rfl [4, 0, 3, 2, 5, 1, 7] (by decide)
    refine w_loop gC hw32 (fun x s H => match x with | (x23, x24) => ∃ v25 : AV, isSl v25 ∧ ∃ d27 : List AV, isSls d27 (x24).length ∧ s = [u, u, .ptr ip4 wp4 0 0, .ptr ip19 wp19 0 0, u, u, u, u, u, u, u, u, u, u, u, u, u, u, u, u, u, u, .fz (a0.Queues.map (fzl (AV.int .i64))), .int .i64 (a0.Queues.length : Int), .int .i64 x23, u, u, u, u, u, u, u, u, u, u, u, u, u] ∧ Own H (⟨v9, 1, x8.map (AV.int .i64)⟩ :: ⟨v25, 1, ouw nm_SInt d27 x24⟩ :: ⟨v13, 1, x12.map (AV.int .i64)⟩ :: ⟨v17, 1, x16.map (AV.int .i64)⟩ :: ⟨.ptr ip4 wp4 0 0, 5, [.agg [.nil, .nil, .nil, .nil, .int .i64 0]]⟩ :: ⟨.ptr ip19 wp19 0 0, 5, [.agg [v9, v25, v13, v17, .int .i64 a0.At]]⟩ :: ((inn np_SInt (AV.int .i64) 1 d27 x24) ++ F))) ⟨_, isSl_nil, _, qd59, rfl, hS⟩ (fun x y37 s H h hd36 hi K35 hK35 => ?_)
    obtain ⟨x23, x24⟩ := x
    try dsimp only at hi
    obtain ⟨v25, qv25, d27, qd27, rfl, hS⟩ := hi
    simp only [spec_l8Own_l0] at h
    refine w_seq fun K39 hK39 => ?_
    refine w_reg gC ?_
    try simp only [W, EE, Nat.reduceAdd]
    refine seq_n hK39 ?_
    refine w_seq fun K40 hK40 => ?_
    refine w_if ?_
    simp only [W]
    refine w_cnd h (fun hc h => ?_) (fun hc h => ?_)
    · refine w_skip ?_
      refine seq_n hK40 ?_
      refine w_seq fun K41 hK41 => ?_
      refine w_blk fun K42 hK42 => ?_
      refine w_seq fun K43 hK43 => ?_
      refine w_reg gC ?_
      try simp only [W, EE, Nat.reduceAdd]
      refine w_fz rfl rfl rfl (fun _ => rfl) h fun b44 hb44 h => ?_
      try simp only [W, EE, EN]
      refine seq_n hK43 ?_
      refine w_drawL gC [(8, []), (6, [])] (by kernel_rfl) rfl (by kernel_rfl) ?_
      try simp only [W, EE, reduceIte, Nat.reduceAdd, Nat.reduceBEq, hS.var 5 rfl, tabAt, qAt, Nat.reduceEqDiff]
      refine w_lit0 rfl rfl ?_
      try simp only [W]
      refine w_appQ rfl ?_
      simp only [W, EE]
      have hS := hS.e0_ 1
      refine w_appV (l := ([] : List Int)) (c := (AV.int .i64)) 0 hS rfl isSl_e0 rfl rfl rfl rfl (fun _ => rfl) rfl h fun v47 H x46 qv47 hm h hS => ?_
      try simp only [W]
      refine w_lit (el := [v47]) hS rfl rfl rfl rfl (fill1 (isSl.clen qv47) qv47.stora) rfl (sz1 (isSl.clen qv47)) fun v49 H qv49 hS => ?_
      have hS : Own _ (⟨v49, 1, [v47]⟩ :: ⟨v47, 1, x46.map (AV.int .i64)⟩ :: ⟨v9, 1, x8.map (AV.int .i64)⟩ :: ⟨v25, 1, ouw nm_SInt d27 x24⟩ :: ⟨v13, 1, x12.map (AV.int .i64)⟩ :: ⟨v17, 1, x16.map (AV.int .i64)⟩ :: ⟨.ptr ip4 wp4 0 0, 5, [.agg [.nil, .nil, .nil, .nil, .int .i64 0]]⟩ :: ⟨.ptr ip19 wp19 0 0, 5, [.agg [v9, v25, v13, v17, .int .i64 a0.At]]⟩ :: ((inn np_SInt (AV.int .i64) 1 d27 x24) ++ (F))) := hS
      obtain ⟨d50, qd50, hS⟩ := oneN (m := nm_SInt) (p := np_SInt) (c := (AV.int .i64)) (b := x46) hS qv47
      have hS : Own _ (⟨v49, 1, ouw nm_SInt d50 ([x46] : List (List Int))⟩ :: ⟨v9, 1, x8.map (AV.int .i64)⟩ :: ⟨v25, 1, ouw nm_SInt d27 x24⟩ :: ⟨v13, 1, x12.map (AV.int .i64)⟩ :: ⟨v17, 1, x16.map (AV.int .i64)⟩ :: ⟨.ptr ip4 wp4 0 0, 5, [.agg [.nil, .nil, .nil, .nil, .int .i64 0]]⟩ :: ⟨.ptr ip19 wp19 0 0, 5, [.agg [v9, v25, v13, v17, .int .i64 a0.At]]⟩ :: ((inn np_SInt (AV.int .i64) 1 d50 ([x46] : List (List Int))) ++ (((inn np_SInt (AV.int .i64) 1 d27 x24) ++ (F))))) := Own.catI_ (bl := [[⟨v49, 1, ouw nm_SInt d50 ([x46] : List (List Int))⟩], (inn np_SInt (AV.int .i64) 1 d50 ([x46] : List (List Int))), [⟨v9, 1, x8.map (AV.int .i64)⟩], [⟨v25, 1, ouw nm_SInt d27 x24⟩], [⟨v13, 1, x12.map (AV.int .i64)⟩], [⟨v17, 1, x16.map (AV.int .i64)⟩], [⟨.ptr ip4 wp4 0 0, 5, [.agg [.nil, .nil, .nil, .nil, .int .i64 0]]⟩], [⟨.ptr ip19 wp19 0 0, 5, [.agg [v9, v25, v13, v17, .int .i64 a0.At]]⟩], (inn np_SInt (AV.int .i64) 1 d27 x24)]) (F := F) hS 9 rfl [0, 2, 3, 4, 5, 6, 7, 1, 8] (by decide)
      try simp only [W, EE]
      have hS : Own _ (⟨v25, 1, ouw nm_SInt d27 x24⟩ :: ⟨v49, 1, ouw nm_SInt d50 ([x46] : List (List Int))⟩ :: ((inn np_SInt (AV.int .i64) 1 d27 x24) ++ (((inn np_SInt (AV.int .i64) 1 d50 ([x46] : List (List Int))) ++ (⟨v9, 1, x8.map (AV.int .i64)⟩ :: ⟨v13, 1, x12.map (AV.int .i64)⟩ :: ⟨v17, 1, x16.map (AV.int .i64)⟩ :: ⟨.ptr ip4 wp4 0 0, 5, [.agg [.nil, .nil, .nil, .nil, .int .i64 0]]⟩ :: ⟨.ptr ip19 wp19 0 0, 5, [.agg [v9, v25, v13, v17, .int .i64 a0.At]]⟩ :: F))))) := Own.catI_ (bl := [[⟨v49, 1, ouw nm_SInt d50 ([x46] : List (List Int))⟩], [⟨v9, 1, x8.map (AV.int .i64)⟩], [⟨v25, 1, ouw nm_SInt d27 x24⟩], [⟨v13, 1, x12.map (AV.int .i64)⟩], [⟨v17, 1, x16.map (AV.int .i64)⟩], [⟨.ptr ip4 wp4 0 0, 5, [.agg [.nil, .nil, .nil, .nil, .int .i64 0]]⟩], [⟨.ptr ip19 wp19 0 0, 5, [.agg [v9, v25, v13, v17, .int .i64 a0.At]]⟩], (inn np_SInt (AV.int .i64) 1 d50 ([x46] : List (List Int))), (inn np_SInt (AV.int .i64) 1 d27 x24)]) (F := F) hS 9 rfl [2, 0, 8, 7, 1, 3, 4, 5, 6] (by decide)
      refine w_appN (l := x24) (m := nm_SInt) (p := np_SInt) (c := (AV.int .i64)) hS qv25 qv49 qd27 qd50 rfl rfl rfl nc_SInt rfl h fun v52 H n54 d53 qv52 qd53 hm h hS => ?_
      have hS : Own _ (⟨v9, 1, x8.map (AV.int .i64)⟩ :: ⟨v52, 1, ouw nm_SInt d53 n54⟩ :: ⟨v13, 1, x12.map (AV.int .i64)⟩ :: ⟨v17, 1, x16.map (AV.int .i64)⟩ :: ⟨.ptr ip4 wp4 0 0, 5, [.agg [.nil, .nil, .nil, .nil, .int .i64 0]]⟩ :: ⟨.ptr ip19 wp19 0 0, 5, [.agg [v9, v25, v13, v17, .int .i64 a0.At]]⟩ :: ((inn np_SInt (AV.int .i64) 1 d53 n54) ++ (F))) := Own.catI_ (bl := [[⟨v52, 1, ouw nm_SInt d53 n54⟩], (inn np_SInt (AV.int .i64) 1 d53 n54), [⟨v9, 1, x8.map (AV.int .i64)⟩], [⟨v13, 1, x12.map (AV.int .i64)⟩], [⟨v17, 1, x16.map (AV.int .i64)⟩], [⟨.ptr ip4 wp4 0 0, 5, [.agg [.nil, .nil, .nil, .nil, .int .i64 0]]⟩], [⟨.ptr ip19 wp19 0 0, 5, [.agg [v9, v25, v13, v17, .int .i64 a0.At]]⟩]]) (F := F) hS 7 rfl [2, 0, 3, 4, 5, 6, 1] (by decide)
      try simp only [W, EE, Nat.reduceAdd, Nat.reduceBEq, hS.var 5 rfl]
      refine w_stv (a := v52) (y' := .agg [v9, v52, v13, v17, .int .i64 a0.At]) 5 hS rfl rfl rfl rfl (by rw [qv52.cells]; rfl) qv52.stora (qv52.wr _ _ (by simp)) rfl fun H hS => ?_
      try simp only [W]
      refine blk_n0 hK42 ?_
      refine seq_n hK41 ?_
      refine w_reg gC ?_
      try simp only [W, EE, Nat.reduceAdd]
      exact lp_n hK35 h ⟨_, qv52, _, qd53, rfl, hS⟩
    · refine w_exit ?_
      refine seq_x hK40 ?_
      try obtain rfl := Option.some.inj h
      obtain rfl := hd36 _ rfl
      have h : (some (x24) : Option ((List (List Int)))) = some (x24) := rfl
      refine lp_x hK35 ?_
      refine blk_e hK34 ?_
      exact cut_n hK33 ⟨_, (Option.some.inj h).symm, _, qv25, _, qd27, rfl, hS⟩
  · obtain ⟨x28, ey, v29, qv29, d30, qd30, rfl, hS⟩ := hq; obtain rfl := ey.symm
    replace h := g38
    try dsimp only at h
    refine seq_n hK21 ?_
    refine w_seq fun K60 hK60 => ?_
    refine w_reg gC ?_
    try simp only [W, EE, reduceIte, Nat.reduceAdd, Nat.reduceLeDiff, hS.var 5 rfl]
    refine w_stv (a := .agg [v9, v29, v13, v17, .int .i64 a0.At]) (y' := .agg [v9, v29, v13, v17, .int .i64 a0.At]) 4 hS rfl rfl rfl rfl rfl (by simp only [storA, List.all_cons, List.all_nil, qv9.stor, qv29.stor, qv13.stor, qv17.stor]; rfl) rfl rfl fun H hS => ?_
    try simp only [W]
    refine seq_n hK60 ?_
    refine w_ret ?_
    refine fin_r hK0 (res_c rfl rfl (hS.var 4 rfl) rfl rfl) ?_
    try obtain rfl := Option.some.inj h
    have hS : Own _ (⟨v9, 1, x8.map (AV.int .i64)⟩ :: ⟨v29, 1, ouw nm_SInt d30 x28⟩ :: ⟨v13, 1, x12.map (AV.int .i64)⟩ :: ⟨v17, 1, x16.map (AV.int .i64)⟩ :: ((inn np_SInt (AV.int .i64) 1 d30 x28) ++ (F))) := Own.catI_ (bl := [[⟨v9, 1, x8.map (AV.int .i64)⟩], [⟨v29, 1, ouw nm_SInt d30 x28⟩], [⟨v13, 1, x12.map (AV.int .i64)⟩], [⟨v17, 1, x16.map (AV.int .i64)⟩], [⟨.ptr ip4 wp4 0 0, 5, [.agg [v9, v29, v13, v17, .int .i64 a0.At]]⟩], [⟨.ptr ip19 wp19 0 0, 5, [.agg [v9, v29, v13, v17, .int .i64 a0.At]]⟩], (inn np_SInt (AV.int .i64) 1 d30 x28)]) (F := F) hS 7 rfl [0, 1, 2, 3, 6] (by decide)
    exact hP _ qv9 _ qv29 _ qd30 _ qv13 _ qv17 _ hS
theorem spec_PutPacket_w {a0 : Turns} {a1 : Int} {a2 : Int} {r : (Turns × Bool)} (h : spec_PutPacket a0 a1 a2 = some r) {F : List It} {H : Heap} (hS : Own H (F)) {P : AV → Heap → Prop} (hP : ∀ v48 : AV, isSl v48 → ∀ v50 : AV, isSl v50 → ∀ d52 : List AV, isSls d52 (r.1.Queues).length → ∀ v53 : AV, isSl v53 → ∀ v55 : AV, isSl v55 → ∀ H', Own H' (⟨v48, 1, r.1.Quanta.map (AV.int .i64)⟩ :: ⟨v50, 1, ouw nm_SInt d52 r.1.Queues⟩ :: ⟨v53, 1, r.1.Credit.map (AV.int .i64)⟩ :: ⟨v55, 1, r.1.Sent.map (AV.int .i64)⟩ :: ((inn np_SInt (AV.int .i64) 1 d52 r.1.Queues) ++ F)) → P (.tup [.agg [v48, v50, v53, v55, .int .i64 r.1.At], .bool r.2]) H') : ACall C 136 [.agg [.fz (a0.Quanta.map (AV.int .i64)), .fz (a0.Queues.map (fzl (AV.int .i64))), .fz (a0.Credit.map (AV.int .i64)), .fz (a0.Sent.map (AV.int .i64)), .int .i64 a0.At], .int .i64 a1, .int .i64 a2] H P := by
  refine acall_of gC (res := [.cell 6 75, .tmp 7]) (n := 53) rfl rfl rfl rfl fun K0 hK0 => ?_
  simp only [W, Nat.reduceSub, Nat.reduceAdd, List.replicate]
  unfold spec_PutPacket at h
  refine w_seq fun K1 hK1 => ?_
  refine w_reg gC ?_
  try simp only [W, Nat.reduceAdd]
  refine w_box hS rfl rfl rfl rfl fun ip2 wp2 H hS => ?_
  try simp only [W]
  refine w_alloc hS rfl rfl fun ip4 wp4 H hS => ?_
  try simp only [W]
  refine seq_n hK1 ?_
  refine w_seq fun K6 hK6 => ?_
  refine w_seq fun K7 hK7 => ?_
  obtain ⟨y9, h, g10⟩ := Option.bind_eq_some_iff.1 h
  refine w_join gC (fun s H => ∃ x8 : Bool, y9 = (x8) ∧ s = [u, .int .i64 a1, .int .i64 a2, .ptr ip2 wp2 0 0, u, u, .ptr ip4 wp4 0 0, u, u, u, u, u, u, u, u, u, u, u, u, u, u, u, u, u, u, u, u, u, u, u, u, u, u, u, u, u, .bool x8, u, u, u, u, u, u, u, u, u, u, u, u, u, u, u, u] ∧ Own H (⟨.ptr ip2 wp2 0 0, 5, [.agg [.fz (a0.Quanta.map (AV.int .i64)), .fz (a0.Queues.map (fzl (AV.int .i64))), .fz (a0.Credit.map (AV.int .i64)), .fz (a0.Sent.map (AV.int .i64)), .int .i64 a0.At]]⟩ :: ⟨.ptr ip4 wp4 0 0, 5, [.agg [.nil, .nil, .nil, .nil, .int .i64 0]]⟩ :: F)) (fun K11 hK11 => ?_) (fun s H hq => ?_)
  · refine w_seq fun K12 hK12 => ?_
    refine w_reg gC ?_
    try simp only [W, EE, reduceIte, Nat.reduceAdd, Nat.reduceLeDiff, hS.var 1 rfl]
    refine w_call h fun b13 hb13 h => ?_
    refine spec_GoodTurns_w hb13 hS fun H hS => ?_
    try simp only [W]
    refine w_grdT h (fun hc h => ?_) (fun hc h => ?_)
    · try simp only [W, hc]
      refine seq_n hK12 ?_
      refine w_kill ?_
      exact cut_n hK11 ⟨_, (Option.some.inj h).symm, rfl, (hS.sel 2 [1, 0] (by decide))⟩
    · try simp only [W, EE, reduceIte, Bool.false_eq_true, hc]
      refine w_grdT h (fun hc h => ?_) (fun hc h => ?_)
      · try simp only [W, hc]
        refine seq_n hK12 ?_
        refine w_kill ?_
        exact cut_n hK11 ⟨_, (Option.some.inj h).symm, rfl, (hS.sel 2 [1, 0] (by decide))⟩
      · try simp only [W, EE, reduceIte, Nat.reduceAdd, Nat.reduceBEq, Bool.false_eq_true, hS.var 1 rfl, hc]
        refine w_grdT h (fun hc h => ?_) (fun hc h => ?_)
        · try simp only [W, hc]
          refine seq_n hK12 ?_
          refine w_kill ?_
          exact cut_n hK11 ⟨_, (Option.some.inj h).symm, rfl, (hS.sel 2 [1, 0] (by decide))⟩
        · try simp only [W, hc]
          refine w_call h fun b14 hb14 h => ?_
          refine spec_l1In_w hb14 hS fun H hS => ?_
          try simp only [W, reduceIte, Bool.false_eq_true]
          refine w_grdT h (fun hc h => ?_) (fun hc h => ?_)
          · try simp only [W, hc]
            refine seq_n hK12 ?_
            refine w_kill ?_
            exact cut_n hK11 ⟨_, (Option.some.inj h).symm, rfl, (hS.sel 2 [1, 0] (by decide))⟩
          · try simp only [W, EE, Nat.reduceAdd, Nat.reduceBEq, hS.var 1 rfl, hc]
            refine w_fz rfl rfl rfl (fun _ => rfl) h fun b15 hb15 h => ?_
            try simp only [W, EE, EN, reduceIte, Bool.false_eq_true]
            refine seq_n hK12 ?_
            refine w_kill ?_
            exact cut_n hK11 ⟨_, (Option.some.inj h).symm, rfl, (hS.sel 2 [1, 0] (by decide))⟩
  · obtain ⟨x8, ey, rfl, hS⟩ := hq; obtain rfl := ey.symm
    replace h := g10
    try dsimp only at h
    refine seq_n hK7 ?_
    refine w_if ?_
    simp only [W]
    refine w_cnd h (fun hc h => ?_) (fun hc h => ?_)
    · refine w_seq fun K16 hK16 => ?_
      refine w_reg gC ?_
      try simp only [W, EE, Nat.reduceAdd]
      refine w_bld rfl rfl rfl rfl rfl ?_
      try simp only [W]
      refine w_stv (a := .agg [.nil, .nil, .nil, .nil, .int .i64 0]) (y' := .agg [.nil, .nil, .nil, .nil, .int .i64 0]) 1 hS rfl rfl rfl rfl rfl rfl rfl rfl fun H hS => ?_
      try simp only [W]
      refine seq_n hK16 ?_
      refine w_ret ?_
      refine seq_r hK6 ?_
      have hS := hS.nil_ 1
      have hS := hS.nil_ 1
      obtain ⟨d19, qd19, hS⟩ := noneN (p := np_SInt) (c := (AV.int .i64)) (z := 1) (m := nm_SInt) hS
      have hS : Own _ (⟨AV.nil, 1, ouw nm_SInt d19 ([] : List (List Int))⟩ :: ⟨AV.nil, 1, ([] : List Int).map (AV.int .i64)⟩ :: ⟨.ptr ip2 wp2 0 0, 5, [.agg [.fz (a0.Quanta.map (AV.int .i64)), .fz (a0.Queues.map (fzl (AV.int .i64))), .fz (a0.Credit.map (AV.int .i64)), .fz (a0.Sent.map (AV.int .i64)), .int .i64 a0.At]]⟩ :: ⟨.ptr ip4 wp4 0 0, 5, [.agg [.nil, .nil, .nil, .nil, .int .i64 0]]⟩ :: ((inn np_SInt (AV.int .i64) 1 d19 ([] : List (List Int))) ++ (F))) := Own.catI_ (bl := [[⟨AV.nil, 1, ouw nm_SInt d19 ([] : List (List Int))⟩], (inn np_SInt (AV.int .i64) 1 d19 ([] : List (List Int))), [⟨AV.nil, 1, ([] : List Int).map (AV.int .i64)⟩], [⟨.ptr ip2 wp2 0 0, 5, [.agg [.fz (a0.Quanta.map (AV.int .i64)), .fz (a0.Queues.map (fzl (AV.int .i64))), .fz (a0.Credit.map (AV.int .i64)), .fz (a0.Sent.map (AV.int .i64)), .int .i64 a0.At]]⟩], [⟨.ptr ip4 wp4 0 0, 5, [.agg [.nil, .nil, .nil, .nil, .int .i64 0]]⟩]]) (F := F) hS 5 rfl [0, 2, 3, 4, 1] (by decide)
      have hS := hS.nil_ 1
      have hS := hS.nil_ 1
      refine fin_r hK0 (res_c rfl rfl (hS.var 5 rfl) rfl (res_tc rfl rfl)) ?_
      try obtain rfl := Option.some.inj h
      have hS : Own _ (⟨AV.nil, 1, ([] : List Int).map (AV.int .i64)⟩ :: ⟨AV.nil, 1, ouw nm_SInt d19 ([] : List (List Int))⟩ :: ⟨AV.nil, 1, ([] : List Int).map (AV.int .i64)⟩ :: ⟨AV.nil, 1, ([] : List Int).map (AV.int .i64)⟩ :: ((inn np_SInt (AV.int .i64) 1 d19 ([] : List (List Int))) ++ (F))) := Own.catI_ (bl := [[⟨AV.nil, 1, ([] : List Int).map (AV.int .i64)⟩], [⟨AV.nil, 1, ([] : List Int).map (AV.int .i64)⟩], [⟨AV.nil, 1, ouw nm_SInt d19 ([] : List (List Int))⟩], [⟨AV.nil, 1, ([] : List Int).map (AV.int .i64)⟩], [⟨.ptr ip2 wp2 0 0, 5, [.agg [.fz (a0.Quanta.map (AV.int .i64)), .fz (a0.Queues.map (fzl (AV.int .i64))), .fz (a0.Credit.map (AV.int .i64)), .fz (a0.Sent.map (AV.int .i64)), .int .i64 a0.At]]⟩], [⟨.ptr ip4 wp4 0 0, 5, [.agg [.nil, .nil, .nil, .nil, .int .i64 0]]⟩], (inn np_SInt (AV.int .i64) 1 d19 ([] : List (List Int)))]) (F := F) hS 7 rfl [3, 2, 1, 0, 6] (by decide)
      exact hP _ isSl_nil _ isSl_nil _ qd19 _ isSl_nil _ isSl_nil _ hS
    · refine w_skip ?_
      refine seq_n hK6 ?_
      refine w_seq fun K22 hK22 => ?_
      refine w_reg gC ?_
      try simp only [W, EE, reduceIte, Nat.reduceAdd, Nat.reduceLeDiff, hS.var 0 rfl]
      refine w_call h fun b23 hb23 h => ?_
      refine spec_l8Own_w hb23 hS fun v24 qv24 v26 qv26 d28 qd28 v29 qv29 v31 qv31 H hS => ?_
      have hS : Own _ (⟨v24, 1, b23.Quanta.map (AV.int .i64)⟩ :: ⟨v26, 1, ouw nm_SInt d28 b23.Queues⟩ :: ⟨v29, 1, b23.Credit.map (AV.int .i64)⟩ :: ⟨v31, 1, b23.Sent.map (AV.int .i64)⟩ :: ⟨.ptr ip2 wp2 0 0, 5, [.agg [.fz (a0.Quanta.map (AV.int .i64)), .fz (a0.Queues.map (fzl (AV.int .i64))), .fz (a0.Credit.map (AV.int .i64)), .fz (a0.Sent.map (AV.int .i64)), .int .i64 a0.At]]⟩ :: ⟨.ptr ip4 wp4 0 0, 5, [.agg [.nil, .nil, .nil, .nil, .int .i64 0]]⟩ :: ((inn np_SInt (AV.int .i64) 1 d28 b23.Queues) ++ (F))) := Own.catI_ (bl := [[⟨v24, 1, b23.Quanta.map (AV.int .i64)⟩], [⟨v26, 1, ouw nm_SInt d28 b23.Queues⟩], [⟨v29, 1, b23.Credit.map (AV.int .i64)⟩], [⟨v31, 1, b23.Sent.map (AV.int .i64)⟩], (inn np_SInt (AV.int .i64) 1 d28 b23.Queues), [⟨.ptr ip2 wp2 0 0, 5, [.agg [.fz (a0.Quanta.map (AV.int .i64)), .fz (a0.Queues.map (fzl (AV.int .i64))), .fz (a0.Credit.map (AV.int .i64)), .fz (a0.Sent.map (AV.int .i64)), .int .i64 a0.At]]⟩], [⟨.ptr ip4 wp4 0 0, 5, [.agg [.nil, .nil, .nil, .nil, .int .i64 0]]⟩]]) (F := F) hS 7 rfl [0, 1, 2, 3, 5, 6, 4] (by decide)
      try simp only [W]
      refine w_alloc hS rfl rfl fun ip33 wp33 H hS => ?_
      try simp only [W]
      refine w_stv (a := .agg [v24, v26, v29, v31, .int .i64 b23.At]) (y' := .agg [v24, v26, v29, v31, .int .i64 b23.At]) 0 hS rfl rfl rfl rfl rfl (by simp only [storA, List.all_cons, List.all_nil, qv24.stor, qv26.stor, qv29.stor, qv31.stor]; rfl) rfl rfl fun H hS => ?_
      try simp only [W]
      refine seq_n hK22 ?_
      refine w_seq fun K35 hK35 => ?_
      refine w_drawL gC [(10, [0, 1, 2]), (12, [])] (by kernel_rfl) rfl (by kernel_rfl) ?_
      try simp only [W, EE, reduceIte, Nat.reduceAdd, Nat.reduceBEq, hS.var 0 rfl, tabAt, qAt, Nat.reduceEqDiff]
      obtain ⟨b37, hb37, h⟩ := Option.bind_eq_some_iff.1 h
      have hS : Own _ (⟨v26, 1, ouw nm_SInt d28 b23.Queues⟩ :: ((inn np_SInt (AV.int .i64) 1 d28 b23.Queues) ++ (⟨.ptr ip33 wp33 0 0, 5, [.agg [v24, v26, v29, v31, .int .i64 b23.At]]⟩ :: ⟨v24, 1, b23.Quanta.map (AV.int .i64)⟩ :: ⟨v29, 1, b23.Credit.map (AV.int .i64)⟩ :: ⟨v31, 1, b23.Sent.map (AV.int .i64)⟩ :: ⟨.ptr ip2 wp2 0 0, 5, [.agg [.fz (a0.Quanta.map (AV.int .i64)), .fz (a0.Queues.map (fzl (AV.int .i64))), .fz (a0.Credit.map (AV.int .i64)), .fz (a0.Sent.map (AV.int .i64)), .int .i64 a0.At]]⟩ :: ⟨.ptr ip4 wp4 0 0, 5, [.agg [.nil, .nil, .nil, .nil, .int .i64 0]]⟩ :: F))) := Own.catI_ (bl := [[⟨.ptr ip33 wp33 0 0, 5, [.agg [v24, v26, v29, v31, .int .i64 b23.At]]⟩], [⟨v24, 1, b23.Quanta.map (AV.int .i64)⟩], [⟨v26, 1, ouw nm_SInt d28 b23.Queues⟩], [⟨v29, 1, b23.Credit.map (AV.int .i64)⟩], [⟨v31, 1, b23.Sent.map (AV.int .i64)⟩], [⟨.ptr ip2 wp2 0 0, 5, [.agg [.fz (a0.Quanta.map (AV.int .i64)), .fz (a0.Queues.map (fzl (AV.int .i64))), .fz (a0.Credit.map (AV.int .i64)), .fz (a0.Sent.map (AV.int .i64)), .int .i64 a0.At]]⟩], [⟨.ptr ip4 wp4 0 0, 5, [.agg [.nil, .nil, .nil, .nil, .int .i64 0]]⟩], (inn np_SInt (AV.int .i64) 1 d28 b23.Queues)]) (F := F) hS 8 rfl [2, 7, 0, 1, 3, 4, 5, 6] (by decide)
      obtain ⟨v38, qv38, hS⟩ := openN (p := np_SInt) (c := (AV.int .i64)) (m := nm_SInt) (b := b37) hS qd28 hb37
      have hS : Own _ (⟨v38, 1, b37.map (AV.int .i64)⟩ :: ⟨.ptr ip33 wp33 0 0, 5, [.agg [v24, v26, v29, v31, .int .i64 b23.At]]⟩ :: ⟨v24, 1, b23.Quanta.map (AV.int .i64)⟩ :: ⟨v26, 1, (ouw nm_SInt d28 b23.Queues).set a1.toNat (v38)⟩ :: ⟨v29, 1, b23.Credit.map (AV.int .i64)⟩ :: ⟨v31, 1, b23.Sent.map (AV.int .i64)⟩ :: ⟨.ptr ip2 wp2 0 0, 5, [.agg [.fz (a0.Quanta.map (AV.int .i64)), .fz (a0.Queues.map (fzl (AV.int .i64))), .fz (a0.Credit.map (AV.int .i64)), .fz (a0.Sent.map (AV.int .i64)), .int .i64 a0.At]]⟩ :: ⟨.ptr ip4 wp4 0 0, 5, [.agg [.nil, .nil, .nil, .nil, .int .i64 0]]⟩ :: ((inx np_SInt (AV.int .i64) 1 d28 b23.Queues a1.toNat) ++ (F))) := Own.catI_ (bl := [[⟨v38, 1, b37.map (AV.int .i64)⟩], [⟨v26, 1, (ouw nm_SInt d28 b23.Queues).set a1.toNat (v38)⟩], (inx np_SInt (AV.int .i64) 1 d28 b23.Queues a1.toNat), [⟨.ptr ip33 wp33 0 0, 5, [.agg [v24, v26, v29, v31, .int .i64 b23.At]]⟩], [⟨v24, 1, b23.Quanta.map (AV.int .i64)⟩], [⟨v29, 1, b23.Credit.map (AV.int .i64)⟩], [⟨v31, 1, b23.Sent.map (AV.int .i64)⟩], [⟨.ptr ip2 wp2 0 0, 5, [.agg [.fz (a0.Quanta.map (AV.int .i64)), .fz (a0.Queues.map (fzl (AV.int .i64))), .fz (a0.Credit.map (AV.int .i64)), .fz (a0.Sent.map (AV.int .i64)), .int .i64 a0.At]]⟩], [⟨.ptr ip4 wp4 0 0, 5, [.agg [.nil, .nil, .nil, .nil, .int .i64 0]]⟩]]) (F := F) hS 9 rfl [0, 3, 4, 1, 5, 6, 7, 8, 2] (by decide)
      refine w_owE (x := v38) 3 hS rfl rfl rfl rfl rfl (idx_some hb37).1 (holeG qd28 hb37) qv26 (fun in36 wn36 on36 en36 hkn36 => ?_)
      obtain ⟨kn36, hbn36, hen36⟩ := hkn36
      try simp only [W, EE, hbn36, hen36, qv38.rd]
      refine w_lit (el := ([a2] : List Int).map (AV.int .i64)) hS rfl rfl rfl rfl rfl rfl rfl fun v40 H qv40 hS => ?_
      try simp only [W, EE]
      refine w_appV (l := b37) (c := (AV.int .i64)) 1 hS rfl qv38 rfl rfl rfl (hS.elems 0 rfl qv40) (fun _ => rfl) rfl h fun v43 H x42 qv43 hm h hS => ?_
      refine goK_late ?_
      refine lateG_s (by first | rfl | (simp [evalOp, W, EE, hS.var 2 rfl]; done) | exact ev_ow 4 hS rfl rfl rfl rfl rfl en36 hb37 rfl rfl rfl rfl | exact ev_le 4 hS rfl rfl en36 hb37 rfl rfl rfl) ?_
      refine lateG_s (by first | rfl | (simp [evalOp, W, EE, rdAt, mkT, subL, AV.cells, hS.var 2 rfl]; done) | exact ev_ow 4 hS rfl rfl rfl rfl rfl en36 hb37 rfl rfl rfl rfl | exact ev_le 4 hS rfl rfl en36 hb37 rfl rfl rfl) ?_
      refine lateG_s (by first | rfl | (simp [evalOp, W, EE, EN, rdAt, mkT, subL, AV.cells, hS.var 2 rfl, hS.var 7 rfl, hS.var 8 rfl]; done) | exact ev_ow 4 hS rfl rfl rfl rfl rfl en36 hb37 rfl rfl rfl rfl | exact ev_le 4 hS rfl rfl en36 hb37 rfl rfl rfl) ?_
      refine lateG_n ?_
      try simp only [W, EE]
      refine w_owE (x := v38) 4 hS rfl rfl rfl rfl rfl (idx_some hb37).1 (holeG qd28 hb37) qv26 (fun in45 wn45 on45 en45 hkn45 => ?_)
      obtain ⟨kn45, hbn45, hen45⟩ := hkn45
      try simp only [W]
      refine w_stE (a := v43) (y' := v43) (i := a1.toNat) 4 hS rfl en45 (holeG qd28 hb37) rfl rfl rfl (by rw [qv43.cells]; rfl) qv43.stora (qv43.wr2 qv38) (by first | rfl | (rw [qv43.cells]; rfl)) (List.set_set ..) fun H hS => ?_
      try simp only [W]
      refine seq_n hK35 ?_
      refine w_seq fun K46 hK46 => ?_
      refine w_reg gC ?_
      try simp only [W, EE, reduceIte, Nat.reduceAdd, Nat.reduceLeDiff, hS.var 2 rfl]
      refine w_stv (a := .agg [v24, v26, v29, v31, .int .i64 b23.At]) (y' := .agg [v24, v26, v29, v31, .int .i64 b23.At]) 8 hS rfl rfl rfl rfl rfl (by simp only [storA, List.all_cons, List.all_nil, qv24.stor, qv26.stor, qv29.stor, qv31.stor]; rfl) rfl rfl fun H hS => ?_
      try simp only [W]
      refine seq_n hK46 ?_
      refine w_ret ?_
      have hS : Own _ (⟨v43, 1, x42.map (AV.int .i64)⟩ :: ⟨v26, 1, (ouw nm_SInt d28 b23.Queues).set a1.toNat (v43)⟩ :: ((inx np_SInt (AV.int .i64) 1 d28 b23.Queues a1.toNat) ++ (⟨v40, 1, ([a2] : List Int).map (AV.int .i64)⟩ :: ⟨.ptr ip33 wp33 0 0, 5, [.agg [v24, v26, v29, v31, .int .i64 b23.At]]⟩ :: ⟨v24, 1, b23.Quanta.map (AV.int .i64)⟩ :: ⟨v29, 1, b23.Credit.map (AV.int .i64)⟩ :: ⟨v31, 1, b23.Sent.map (AV.int .i64)⟩ :: ⟨.ptr ip2 wp2 0 0, 5, [.agg [.fz (a0.Quanta.map (AV.int .i64)), .fz (a0.Queues.map (fzl (AV.int .i64))), .fz (a0.Credit.map (AV.int .i64)), .fz (a0.Sent.map (AV.int .i64)), .int .i64 a0.At]]⟩ :: ⟨.ptr ip4 wp4 0 0, 5, [.agg [v24, v26, v29, v31, .int .i64 b23.At]]⟩ :: F))) := Own.catI_ (bl := [[⟨v40, 1, ([a2] : List Int).map (AV.int .i64)⟩], [⟨v43, 1, x42.map (AV.int .i64)⟩], [⟨.ptr ip33 wp33 0 0, 5, [.agg [v24, v26, v29, v31, .int .i64 b23.At]]⟩], [⟨v24, 1, b23.Quanta.map (AV.int .i64)⟩], [⟨v26, 1, (ouw nm_SInt d28 b23.Queues).set a1.toNat (v43)⟩], [⟨v29, 1, b23.Credit.map (AV.int .i64)⟩], [⟨v31, 1, b23.Sent.map (AV.int .i64)⟩], [⟨.ptr ip2 wp2 0 0, 5, [.agg [.fz (a0.Quanta.map (AV.int .i64)), .fz (a0.Queues.map (fzl (AV.int .i64))), .fz (a0.Credit.map (AV.int .i64)), .fz (a0.Sent.map (AV.int .i64)), .int .i64 a0.At]]⟩], [⟨.ptr ip4 wp4 0 0, 5, [.agg [v24, v26, v29, v31, .int .i64 b23.At]]⟩], (inx np_SInt (AV.int .i64) 1 d28 b23.Queues a1.toNat)]) (F := F) hS 10 rfl [1, 4, 9, 0, 2, 3, 5, 6, 7, 8] (by decide)
      obtain ⟨d47, qd47, hS⟩ := closeN (p := np_SInt) (c := (AV.int .i64)) (m := nm_SInt) (b := b37) (y := x42) hS qd28 qv43 hb37
      have hS : Own _ (⟨v40, 1, ([a2] : List Int).map (AV.int .i64)⟩ :: ⟨.ptr ip33 wp33 0 0, 5, [.agg [v24, v26, v29, v31, .int .i64 b23.At]]⟩ :: ⟨v24, 1, b23.Quanta.map (AV.int .i64)⟩ :: ⟨v26, 1, ouw nm_SInt d47 (b23.Queues.set a1.toNat x42)⟩ :: ⟨v29, 1, b23.Credit.map (AV.int .i64)⟩ :: ⟨v31, 1, b23.Sent.map (AV.int .i64)⟩ :: ⟨.ptr ip2 wp2 0 0, 5, [.agg [.fz (a0.Quanta.map (AV.int .i64)), .fz (a0.Queues.map (fzl (AV.int .i64))), .fz (a0.Credit.map (AV.int .i64)), .fz (a0.Sent.map (AV.int .i64)), .int .i64 a0.At]]⟩ :: ⟨.ptr ip4 wp4 0 0, 5, [.agg [v24, v26, v29, v31, .int .i64 b23.At]]⟩ :: ((inn np_SInt (AV.int .i64) 1 d47 (b23.Queues.set a1.toNat x42)) ++ (F))) := Own.catI_ (bl := [[⟨v26, 1, ouw nm_SInt d47 (b23.Queues.set a1.toNat x42)⟩], (inn np_SInt (AV.int .i64) 1 d47 (b23.Queues.set a1.toNat x42)), [⟨v40, 1, ([a2] : List Int).map (AV.int .i64)⟩], [⟨.ptr ip33 wp33 0 0, 5, [.agg [v24, v26, v29, v31, .int .i64 b23.At]]⟩], [⟨v24, 1, b23.Quanta.map (AV.int .i64)⟩], [⟨v29, 1, b23.Credit.map (AV.int .i64)⟩], [⟨v31, 1, b23.Sent.map (AV.int .i64)⟩], [⟨.ptr ip2 wp2 0 0, 5, [.agg [.fz (a0.Quanta.map (AV.int .i64)), .fz (a0.Queues.map (fzl (AV.int .i64))), .fz (a0.Credit.map (AV.int .i64)), .fz (a0.Sent.map (AV.int .i64)), .int .i64 a0.At]]⟩], [⟨.ptr ip4 wp4 0 0, 5, [.agg [v24, v26, v29, v31, .int .i64 b23.At]]⟩]]) (F := F) hS 9 rfl [2, 3, 4, 0, 5, 6, 7, 8, 1] (by decide)
      refine fin_r hK0 (res_c rfl rfl (hS.var 7 rfl) rfl (res_tc rfl rfl)) ?_
      try obtain rfl := Option.some.inj h
      have hS : Own _ (⟨v24, 1, b23.Quanta.map (AV.int .i64)⟩ :: ⟨v26, 1, ouw nm_SInt d47 (b23.Queues.set a1.toNat x42)⟩ :: ⟨v29, 1, b23.Credit.map (AV.int .i64)⟩ :: ⟨v31, 1, b23.Sent.map (AV.int .i64)⟩ :: ((inn np_SInt (AV.int .i64) 1 d47 (b23.Queues.set a1.toNat x42)) ++ (F))) := Own.catI_ (bl := [[⟨v40, 1, ([a2] : List Int).map (AV.int .i64)⟩], [⟨.ptr ip33 wp33 0 0, 5, [.agg [v24, v26, v29, v31, .int .i64 b23.At]]⟩], [⟨v24, 1, b23.Quanta.map (AV.int .i64)⟩], [⟨v26, 1, ouw nm_SInt d47 (b23.Queues.set a1.toNat x42)⟩], [⟨v29, 1, b23.Credit.map (AV.int .i64)⟩], [⟨v31, 1, b23.Sent.map (AV.int .i64)⟩], [⟨.ptr ip2 wp2 0 0, 5, [.agg [.fz (a0.Quanta.map (AV.int .i64)), .fz (a0.Queues.map (fzl (AV.int .i64))), .fz (a0.Credit.map (AV.int .i64)), .fz (a0.Sent.map (AV.int .i64)), .int .i64 a0.At]]⟩], [⟨.ptr ip4 wp4 0 0, 5, [.agg [v24, v26, v29, v31, .int .i64 b23.At]]⟩], (inn np_SInt (AV.int .i64) 1 d47 (b23.Queues.set a1.toNat x42))]) (F := F) hS 9 rfl [2, 3, 4, 5, 8] (by decide)
      exact hP _ qv24 _ qv26 _ qd47 _ qv29 _ qv31 _ hS
theorem spec_l8Next_w {a0 : Turns} {m0 : AV} {m1 : AV} {d101 : List AV} {m2 : AV} {m3 : AV} {r : (Turns × List Int)} (h : spec_l8Next a0 = some r) {F : List It} {H : Heap} (hS : Own H (⟨m0, 1, a0.Quanta.map (AV.int .i64)⟩ :: ⟨m1, 1, ouw nm_SInt d101 a0.Queues⟩ :: ⟨m2, 1, a0.Credit.map (AV.int .i64)⟩ :: ⟨m3, 1, a0.Sent.map (AV.int .i64)⟩ :: ((inn np_SInt (AV.int .i64) 1 d101 a0.Queues) ++ F))) (qm0 : isSl m0) (qm1 : isSl m1) (qd101 : isSls d101 (a0.Queues).length) (qm2 : isSl m2) (qm3 : isSl m3) {P : AV → Heap → Prop} (hP : ∀ v108 : AV, isSl v108 → ∀ v110 : AV, isSl v110 → ∀ d112 : List AV, isSls d112 (r.1.Queues).length → ∀ v113 : AV, isSl v113 → ∀ v115 : AV, isSl v115 → ∀ v117 : AV, isSl v117 → ∀ H', Own H' (⟨v108, 1, r.1.Quanta.map (AV.int .i64)⟩ :: ⟨v110, 1, ouw nm_SInt d112 r.1.Queues⟩ :: ⟨v113, 1, r.1.Credit.map (AV.int .i64)⟩ :: ⟨v115, 1, r.1.Sent.map (AV.int .i64)⟩ :: ⟨v117, 1, r.2.map (AV.int .i64)⟩ :: ((inn np_SInt (AV.int .i64) 1 d112 r.1.Queues) ++ F)) → P (.tup [.agg [v108, v110, v113, v115, .int .i64 r.1.At], v117]) H') : ACall C 244 [.agg [m0, m1, m2, m3, .int .i64 a0.At]] H P := by
  refine acall_of gC (res := [.cell 2 75, .tmp 3]) (n := 94) rfl rfl rfl rfl fun K0 hK0 => ?_
  simp only [W, Nat.reduceSub, Nat.reduceAdd, List.replicate]
  unfold spec_l8Next at h
  refine w_seq fun K1 hK1 => ?_
  refine w_reg gC ?_
  try simp only [W, Nat.reduceAdd]
  refine w_box hS rfl rfl rfl (by simp only [W, storA, List.all_cons, List.all_nil, qm0.stor, qm1.stor, qm2.stor, qm3.stor]; rfl) fun ip2 wp2 H hS => ?_
  try simp only [W]
  refine w_alloc hS rfl rfl fun ip4 wp4 H hS => ?_
  try simp only [W]
  refine seq_n hK1 ?_
  refine w_seq fun K6 hK6 => ?_
  refine w_reg gC ?_
  try simp only [W, EE, Nat.reduceAdd, Nat.reduceBEq, hS.var 1 rfl]
  refine seq_n hK6 ?_
  refine w_seq fun K7 hK7 => ?_
  refine w_reg gC ?_
  try simp only [W, EE, Nat.reduceAdd, Nat.reduceBEq, hS.var 1 rfl]
  refine w_lenN 3 hS rfl qm1 qd101 rfl ?_
  try simp only [W, EE]
  refine w_num _ h fun x8 hx8 h => ?_
  try simp only [W, EE, Nat.reduceAdd, Nat.reduceBEq, hS.var 1 rfl]
  refine w_stv (a := .int .i64 x8) (y' := .agg [m0, m1, m2, m3, .int .i64 x8]) 1 hS rfl rfl rfl rfl rfl rfl rfl rfl fun H hS => ?_
  try simp only [W]
  refine seq_n hK7 ?_
  refine w_seq fun K9 hK9 => ?_
  refine w_reg gC ?_
  try simp only [W, Nat.reduceAdd]
  refine seq_n hK9 ?_
  refine w_seq fun K10 hK10 => ?_
  refine w_reg gC ?_
  try simp only [W, EE, Nat.reduceAdd, Nat.reduceBEq, hS.var 1 rfl]
  obtain ⟨b12, hb12, h⟩ := Option.bind_eq_some_iff.1 h
  have hS : Own _ (⟨m1, 1, ouw nm_SInt d101 a0.Queues⟩ :: ((inn np_SInt (AV.int .i64) 1 d101 a0.Queues) ++ (⟨.ptr ip4 wp4 0 0, 5, [.agg [.nil, .nil, .nil, .nil, .int .i64 0]]⟩ :: ⟨.ptr ip2 wp2 0 0, 5, [.agg [m0, m1, m2, m3, .int .i64 x8]]⟩ :: ⟨m0, 1, a0.Quanta.map (AV.int .i64)⟩ :: ⟨m2, 1, a0.Credit.map (AV.int .i64)⟩ :: ⟨m3, 1, a0.Sent.map (AV.int .i64)⟩ :: F))) := Own.catI_ (bl := [[⟨.ptr ip4 wp4 0 0, 5, [.agg [.nil, .nil, .nil, .nil, .int .i64 0]]⟩], [⟨.ptr ip2 wp2 0 0, 5, [.agg [m0, m1, m2, m3, .int .i64 x8]]⟩], [⟨m0, 1, a0.Quanta.map (AV.int .i64)⟩], [⟨m1, 1, ouw nm_SInt d101 a0.Queues⟩], [⟨m2, 1, a0.Credit.map (AV.int .i64)⟩], [⟨m3, 1, a0.Sent.map (AV.int .i64)⟩], (inn np_SInt (AV.int .i64) 1 d101 a0.Queues)]) (F := F) hS 7 rfl [3, 6, 0, 1, 2, 4, 5] (by decide)
  obtain ⟨v13, qv13, hS⟩ := openN (p := np_SInt) (c := (AV.int .i64)) (m := nm_SInt) (b := b12) hS qd101 hb12
  have hS : Own _ (⟨v13, 1, b12.map (AV.int .i64)⟩ :: ⟨.ptr ip4 wp4 0 0, 5, [.agg [.nil, .nil, .nil, .nil, .int .i64 0]]⟩ :: ⟨.ptr ip2 wp2 0 0, 5, [.agg [m0, m1, m2, m3, .int .i64 x8]]⟩ :: ⟨m0, 1, a0.Quanta.map (AV.int .i64)⟩ :: ⟨m1, 1, (ouw nm_SInt d101 a0.Queues).set a0.At.toNat (v13)⟩ :: ⟨m2, 1, a0.Credit.map (AV.int .i64)⟩ :: ⟨m3, 1, a0.Sent.map (AV.int .i64)⟩ :: ((inx np_SInt (AV.int .i64) 1 d101 a0.Queues a0.At.toNat) ++ (F))) := Own.catI_ (bl := [[⟨v13, 1, b12.map (AV.int .i64)⟩], [⟨m1, 1, (ouw nm_SInt d101 a0.Queues).set a0.At.toNat (v13)⟩], (inx np_SInt (AV.int .i64) 1 d101 a0.Queues a0.At.toNat), [⟨.ptr ip4 wp4 0 0, 5, [.agg [.nil, .nil, .nil, .nil, .int .i64 0]]⟩], [⟨.ptr ip2 wp2 0 0, 5, [.agg [m0, m1, m2, m3, .int .i64 x8]]⟩], [⟨m0, 1, a0.Quanta.map (AV.int .i64)⟩], [⟨m2, 1, a0.Credit.map (AV.int .i64)⟩], [⟨m3, 1, a0.Sent.map (AV.int .i64)⟩]]) (F := F) hS 8 rfl [0, 3, 4, 5, 1, 6, 7, 2] (by decide)
  refine w_owE (x := v13) 4 hS rfl rfl rfl rfl rfl (idx_some hb12).1 (holeG qd101 hb12) qm1 (fun in11 wn11 on11 en11 hkn11 => ?_)
  obtain ⟨kn11, hbn11, hen11⟩ := hkn11
  try simp only [W, EE, hbn11, hen11, qv13.rd]
  refine seq_n hK10 ?_
  refine w_seq fun K15 hK15 => ?_
  refine w_seq fun K16 hK16 => ?_
  refine w_reg gC ?_
  try simp only [W, EE, Nat.reduceAdd]
  refine w_len 0 hS rfl qv13 rfl ?_
  try simp only [W, EE]
  refine seq_n hK16 ?_
  obtain ⟨y18, h, g19⟩ := Option.bind_eq_some_iff.1 h
  refine w_join gC (fun s H => ∃ x17 : List Int, y18 = (x17) ∧ s = (u :: .ptr ip2 wp2 0 0 :: .ptr ip4 wp4 0 0 :: u :: .int .i64 a0.At :: .nil :: v13 :: u :: u :: u :: u :: u :: u :: u :: u :: u :: u :: u :: u :: u :: u :: u :: u :: u :: u :: u :: u :: u :: u :: u :: u :: u :: u :: u :: u :: u :: u :: u :: u :: u :: u :: u :: u :: u :: u :: u :: u :: u :: u :: u :: u :: u :: u :: u :: u :: u :: u :: u :: u :: u :: u :: u :: u :: u :: u :: u :: u :: u :: u :: u :: u :: u :: u :: u :: u :: u :: u :: u :: u :: u :: u :: u :: u :: u :: u :: u :: u :: u :: u :: u :: u :: u :: u :: u :: []) ∧ Own H (⟨v13, 1, b12.map (AV.int .i64)⟩ :: ⟨m0, 1, a0.Quanta.map (AV.int .i64)⟩ :: ⟨m1, 1, (ouw nm_SInt d101 a0.Queues).set a0.At.toNat (v13)⟩ :: ⟨m2, 1, x17.map (AV.int .i64)⟩ :: ⟨m3, 1, a0.Sent.map (AV.int .i64)⟩ :: ⟨.ptr ip2 wp2 0 0, 5, [.agg [m0, m1, m2, m3, .int .i64 x8]]⟩ :: ⟨.ptr ip4 wp4 0 0, 5, [.agg [.nil, .nil, .nil, .nil, .int .i64 0]]⟩ :: ((inx np_SInt (AV.int .i64) 1 d101 a0.Queues a0.At.toNat) ++ F))) (fun K20 hK20 => ?_) (fun s H hq => ?_)
  · refine w_seq fun K21 hK21 => ?_
    refine w_if ?_
    simp only [W]
    refine w_cnd h (fun hc h => ?_) (fun hc h => ?_)
    · refine w_drawL gC [(12, [])] (by kernel_rfl) rfl (by kernel_rfl) ?_
      try simp only [W, EE, reduceIte, Nat.reduceAdd, Nat.reduceBEq, hS.var 2 rfl, tabAt, qAt, Nat.reduceEqDiff]
      refine w_ow 5 hS rfl rfl rfl rfl rfl h (fun b22 in23 wn23 on23 hb22 h en23 => ?_) qm2.ne
      obtain ⟨kn23, hbn23, hen23⟩ := hS.elem 5 rfl en23 hb22
      try simp only [W, EE, Nat.reduceAdd, Nat.reduceBEq, hS.var 2 rfl, hbn23, hen23]
      refine w_ow 3 hS rfl rfl rfl rfl rfl h (fun b24 in25 wn25 on25 hb24 h en25 => ?_) qm0.ne
      obtain ⟨kn25, hbn25, hen25⟩ := hS.elem 3 rfl en25 hb24
      try simp only [W, EE, hbn25, hen25]
      refine w_ow 5 hS rfl rfl rfl rfl rfl h (fun b26 in27 wn27 on27 hb26 h en27 => ?_) qm2.ne
      obtain ⟨kn27, hbn27, hen27⟩ := hS.elem 5 rfl en27 hb26
      try simp only [W]
      refine w_ste (a := .int .i64 (IntKind.i64.wrap (b22 + b24))) (y' := (IntKind.i64.wrap (b22 + b24))) 5 hS rfl en27 hb26 rfl rfl rfl rfl rfl rfl rfl fun H hS => ?_
      try simp only [W]
      refine seq_n hK21 ?_
      refine w_killE (s' := (u :: .ptr ip2 wp2 0 0 :: .ptr ip4 wp4 0 0 :: u :: .int .i64 a0.At :: .nil :: v13 :: u :: u :: u :: u :: u :: u :: u :: u :: u :: u :: u :: u :: u :: u :: u :: u :: u :: u :: u :: u :: u :: u :: u :: u :: u :: u :: u :: u :: u :: u :: u :: u :: u :: u :: u :: u :: u :: u :: u :: u :: u :: u :: u :: u :: u :: u :: u :: u :: u :: u :: u :: u :: u :: u :: u :: u :: u :: u :: u :: u :: u :: u :: u :: u :: u :: u :: u :: u :: u :: u :: u :: u :: u :: u :: u :: u :: u :: u :: u :: u :: u :: u :: u :: u :: u :: u :: u :: [])) rfl ?_
      have hS : Own _ (⟨v13, 1, b12.map (AV.int .i64)⟩ :: ⟨m0, 1, a0.Quanta.map (AV.int .i64)⟩ :: ⟨m1, 1, (ouw nm_SInt d101 a0.Queues).set a0.At.toNat (v13)⟩ :: ⟨m2, 1, (a0.Credit.set a0.At.toNat (IntKind.i64.wrap (b22 + b24))).map (AV.int .i64)⟩ :: ⟨m3, 1, a0.Sent.map (AV.int .i64)⟩ :: ⟨.ptr ip2 wp2 0 0, 5, [.agg [m0, m1, m2, m3, .int .i64 x8]]⟩ :: ⟨.ptr ip4 wp4 0 0, 5, [.agg [.nil, .nil, .nil, .nil, .int .i64 0]]⟩ :: ((inx np_SInt (AV.int .i64) 1 d101 a0.Queues a0.At.toNat) ++ (F))) := Own.catI_ (bl := [[⟨v13, 1, b12.map (AV.int .i64)⟩], [⟨.ptr ip4 wp4 0 0, 5, [.agg [.nil, .nil, .nil, .nil, .int .i64 0]]⟩], [⟨.ptr ip2 wp2 0 0, 5, [.agg [m0, m1, m2, m3, .int .i64 x8]]⟩], [⟨m0, 1, a0.Quanta.map (AV.int .i64)⟩], [⟨m1, 1, (ouw nm_SInt d101 a0.Queues).set a0.At.toNat (v13)⟩], [⟨m2, 1, (a0.Credit.set a0.At.toNat (IntKind.i64.wrap (b22 + b24))).map (AV.int .i64)⟩], [⟨m3, 1, a0.Sent.map (AV.int .i64)⟩], (inx np_SInt (AV.int .i64) 1 d101 a0.Queues a0.At.toNat)]) (F := F) hS 8 rfl [0, 3, 4, 5, 6, 2, 1, 7] (by decide)
      exact cut_n hK20 ⟨_, (Option.some.inj h).symm, rfl, hS⟩
    · refine w_skip ?_
      refine seq_n hK21 ?_
      refine w_killE (s' := (u :: .ptr ip2 wp2 0 0 :: .ptr ip4 wp4 0 0 :: u :: .int .i64 a0.At :: .nil :: v13 :: u :: u :: u :: u :: u :: u :: u :: u :: u :: u :: u :: u :: u :: u :: u :: u :: u :: u :: u :: u :: u :: u :: u :: u :: u :: u :: u :: u :: u :: u :: u :: u :: u :: u :: u :: u :: u :: u :: u :: u :: u :: u :: u :: u :: u :: u :: u :: u :: u :: u :: u :: u :: u :: u :: u :: u :: u :: u :: u :: u :: u :: u :: u :: u :: u :: u :: u :: u :: u :: u :: u :: u :: u :: u :: u :: u :: u :: u :: u :: u :: u :: u :: u :: u :: u :: u :: u :: [])) rfl ?_
      have hS : Own _ (⟨v13, 1, b12.map (AV.int .i64)⟩ :: ⟨m0, 1, a0.Quanta.map (AV.int .i64)⟩ :: ⟨m1, 1, (ouw nm_SInt d101 a0.Queues).set a0.At.toNat (v13)⟩ :: ⟨m2, 1, a0.Credit.map (AV.int .i64)⟩ :: ⟨m3, 1, a0.Sent.map (AV.int .i64)⟩ :: ⟨.ptr ip2 wp2 0 0, 5, [.agg [m0, m1, m2, m3, .int .i64 x8]]⟩ :: ⟨.ptr ip4 wp4 0 0, 5, [.agg [.nil, .nil, .nil, .nil, .int .i64 0]]⟩ :: ((inx np_SInt (AV.int .i64) 1 d101 a0.Queues a0.At.toNat) ++ (F))) := Own.catI_ (bl := [[⟨v13, 1, b12.map (AV.int .i64)⟩], [⟨.ptr ip4 wp4 0 0, 5, [.agg [.nil, .nil, .nil, .nil, .int .i64 0]]⟩], [⟨.ptr ip2 wp2 0 0, 5, [.agg [m0, m1, m2, m3, .int .i64 x8]]⟩], [⟨m0, 1, a0.Quanta.map (AV.int .i64)⟩], [⟨m1, 1, (ouw nm_SInt d101 a0.Queues).set a0.At.toNat (v13)⟩], [⟨m2, 1, a0.Credit.map (AV.int .i64)⟩], [⟨m3, 1, a0.Sent.map (AV.int .i64)⟩], (inx np_SInt (AV.int .i64) 1 d101 a0.Queues a0.At.toNat)]) (F := F) hS 8 rfl [0, 3, 4, 5, 6, 2, 1, 7] (by decide)
      exact cut_n hK20 ⟨_, (Option.some.inj h).symm, rfl, hS⟩
  · obtain ⟨x17, ey, rfl, hS⟩ := hq; obtain rfl := ey.symm
    replace h := g19
    try dsimp only at h
    refine seq_n hK15 ?_
    refine w_seq fun K28 hK28 => ?_
    obtain ⟨y43, hw44, g50⟩ := Option.bind_eq_some_iff.1 h
    refine w_join gC (fun s H => ∃ x37 : List Int, ∃ x39 : List Int, ∃ x41 : List Int, ∃ x42 : List Int, y43 = (x37, x39, x41, x42) ∧ ∃ v38 : AV, isSl v38 ∧ ∃ v40 : AV, isSl v40 ∧ s = (u :: .ptr ip2 wp2 0 0 :: .ptr ip4 wp4 0 0 :: u :: .int .i64 a0.At :: v38 :: v40 :: u :: u :: u :: u :: u :: u :: u :: u :: u :: u :: u :: u :: u :: u :: u :: u :: u :: u :: u :: u :: u :: u :: u :: u :: u :: u :: u :: u :: u :: u :: u :: u :: u :: u :: u :: u :: u :: u :: u :: u :: u :: u :: u :: u :: u :: u :: u :: u :: u :: u :: u :: u :: u :: u :: u :: u :: u :: u :: u :: u :: u :: u :: u :: u :: u :: u :: u :: u :: u :: u :: u :: u :: u :: u :: u :: u :: u :: u :: u :: u :: u :: u :: u :: u :: u :: u :: u :: []) ∧ Own H (⟨v38, 1, x37.map (AV.int .i64)⟩ :: ⟨v40, 1, x39.map (AV.int .i64)⟩ :: ⟨m0, 1, a0.Quanta.map (AV.int .i64)⟩ :: ⟨m1, 1, (ouw nm_SInt d101 a0.Queues).set a0.At.toNat (v13)⟩ :: ⟨m2, 1, x41.map (AV.int .i64)⟩ :: ⟨m3, 1, x42.map (AV.int .i64)⟩ :: ⟨.ptr ip2 wp2 0 0, 5, [.agg [m0, m1, m2, m3, .int .i64 x8]]⟩ :: ⟨.ptr ip4 wp4 0 0, 5, [.agg [.nil, .nil, .nil, .nil, .int .i64 0]]⟩ :: ((inx np_SInt (AV.int .i64) 1 d101 a0.Queues a0.At.toNat) ++ F))) (fun K45 hK45 => ?_) (fun s H hq => ?_)
    · refine w_blk fun K46 hK46 => ?_
      have hS := hS.nil_ 1
      refine w_loop gC hw44 (fun x s H => match x with | (x29, x32, x35, x36) => ∃ v30 : AV, isSl v30 ∧ ∃ v33 : AV, isSl v33 ∧ s = (u :: .ptr ip2 wp2 0 0 :: .ptr ip4 wp4 0 0 :: u :: .int .i64 a0.At :: v30 :: v33 :: u :: u :: u :: u :: u :: u :: u :: u :: u :: u :: u :: u :: u :: u :: u :: u :: u :: u :: u :: u :: u :: u :: u :: u :: u :: u :: u :: u :: u :: u :: u :: u :: u :: u :: u :: u :: u :: u :: u :: u :: u :: u :: u :: u :: u :: u :: u :: u :: u :: u :: u :: u :: u :: u :: u :: u :: u :: u :: u :: u :: u :: u :: u :: u :: u :: u :: u :: u :: u :: u :: u :: u :: u :: u :: u :: u :: u :: u :: u :: u :: u :: u :: u :: u :: u :: u :: u :: []) ∧ Own H (⟨v30, 1, x29.map (AV.int .i64)⟩ :: ⟨v33, 1, x32.map (AV.int .i64)⟩ :: ⟨m0, 1, a0.Quanta.map (AV.int .i64)⟩ :: ⟨m1, 1, (ouw nm_SInt d101 a0.Queues).set a0.At.toNat (v13)⟩ :: ⟨m2, 1, x35.map (AV.int .i64)⟩ :: ⟨m3, 1, x36.map (AV.int .i64)⟩ :: ⟨.ptr ip2 wp2 0 0, 5, [.agg [m0, m1, m2, m3, .int .i64 x8]]⟩ :: ⟨.ptr ip4 wp4 0 0, 5, [.agg [.nil, .nil, .nil, .nil, .int .i64 0]]⟩ :: ((inx np_SInt (AV.int .i64) 1 d101 a0.Queues a0.At.toNat) ++ F))) ⟨_, isSl_nil, _, qv13, rfl, hS⟩ (fun x y49 s H h hd48 hi K47 hK47 => ?_)
      obtain ⟨x29, x32, x35, x36⟩ := x
      try dsimp only at hi
      obtain ⟨v30, qv30, v33, qv33, rfl, hS⟩ := hi
      simp only [spec_l8Next_l0] at h
      refine w_seq fun K51 hK51 => ?_
      refine w_seq fun K52 hK52 => ?_
      obtain ⟨y54, h, g55⟩ := Option.bind_eq_some_iff.1 h
      refine w_join gC (fun s H => ∃ x53 : Bool, y54 = (x53) ∧ s = (u :: .ptr ip2 wp2 0 0 :: .ptr ip4 wp4 0 0 :: u :: .int .i64 a0.At :: v30 :: v33 :: u :: u :: u :: u :: u :: u :: u :: u :: u :: u :: u :: u :: u :: u :: u :: u :: u :: u :: u :: u :: u :: u :: u :: u :: u :: u :: u :: u :: u :: u :: u :: u :: u :: u :: u :: u :: u :: u :: u :: u :: u :: u :: .bool x53 :: u :: u :: u :: u :: u :: u :: u :: u :: u :: u :: u :: u :: u :: u :: u :: u :: u :: u :: u :: u :: u :: u :: u :: u :: u :: u :: u :: u :: u :: u :: u :: u :: u :: u :: u :: u :: u :: u :: u :: u :: u :: u :: u :: u :: []) ∧ Own H (⟨v30, 1, x29.map (AV.int .i64)⟩ :: ⟨v33, 1, x32.map (AV.int .i64)⟩ :: ⟨m0, 1, a0.Quanta.map (AV.int .i64)⟩ :: ⟨m1, 1, (ouw nm_SInt d101 a0.Queues).set a0.At.toNat (v13)⟩ :: ⟨m2, 1, x35.map (AV.int .i64)⟩ :: ⟨m3, 1, x36.map (AV.int .i64)⟩ :: ⟨.ptr ip2 wp2 0 0, 5, [.agg [m0, m1, m2, m3, .int .i64 x8]]⟩ :: ⟨.ptr ip4 wp4 0 0, 5, [.agg [.nil, .nil, .nil, .nil, .int .i64 0]]⟩ :: ((inx np_SInt (AV.int .i64) 1 d101 a0.Queues a0.At.toNat) ++ F))) (fun K56 hK56 => ?_) (fun s H hq => ?_)
      · refine w_seq fun K57 hK57 => ?_
        refine w_draw0 gC (by kernel_rfl) ?_
        try simp only [W, EE, Nat.reduceAdd]
        refine w_len 1 hS rfl qv33 rfl ?_
        try simp only [W, EE]
        refine w_grdT h (fun hc h => ?_) (fun hc h => ?_)
        · try simp only [W, EE, hc]
          refine w_ow 1 hS rfl rfl rfl rfl rfl h (fun b58 in59 wn59 on59 hb58 h en59 => ?_) qv33.ne
          obtain ⟨kn59, hbn59, hen59⟩ := hS.elem 1 rfl en59 hb58
          try simp only [W, EE, Nat.reduceAdd, Nat.reduceBEq, hS.var 6 rfl, hbn59, hen59]
          refine w_ow 4 hS rfl rfl rfl rfl rfl h (fun b60 in61 wn61 on61 hb60 h en61 => ?_) qm2.ne
          obtain ⟨kn61, hbn61, hen61⟩ := hS.elem 4 rfl en61 hb60
          try simp only [W, EE, reduceIte, hbn61, hen61]
          refine seq_n hK57 ?_
          refine w_killE (s' := (u :: .ptr ip2 wp2 0 0 :: .ptr ip4 wp4 0 0 :: u :: .int .i64 a0.At :: v30 :: v33 :: u :: u :: u :: u :: u :: u :: u :: u :: u :: u :: u :: u :: u :: u :: u :: u :: u :: u :: u :: u :: u :: u :: u :: u :: u :: u :: u :: u :: u :: u :: u :: u :: u :: u :: u :: u :: u :: u :: u :: u :: u :: u :: .bool (decide (b58 ≤ b60)) :: u :: u :: u :: u :: u :: u :: u :: u :: u :: u :: u :: u :: u :: u :: u :: u :: u :: u :: u :: u :: u :: u :: u :: u :: u :: u :: u :: u :: u :: u :: u :: u :: u :: u :: u :: u :: u :: u :: u :: u :: u :: u :: u :: u :: [])) rfl ?_
          exact cut_n hK56 ⟨_, (Option.some.inj h).symm, rfl, hS⟩
        · try simp only [W, hc]
          refine seq_n hK57 ?_
          refine w_killE (s' := (u :: .ptr ip2 wp2 0 0 :: .ptr ip4 wp4 0 0 :: u :: .int .i64 a0.At :: v30 :: v33 :: u :: u :: u :: u :: u :: u :: u :: u :: u :: u :: u :: u :: u :: u :: u :: u :: u :: u :: u :: u :: u :: u :: u :: u :: u :: u :: u :: u :: u :: u :: u :: u :: u :: u :: u :: u :: u :: u :: u :: u :: u :: u :: .bool false :: u :: u :: u :: u :: u :: u :: u :: u :: u :: u :: u :: u :: u :: u :: u :: u :: u :: u :: u :: u :: u :: u :: u :: u :: u :: u :: u :: u :: u :: u :: u :: u :: u :: u :: u :: u :: u :: u :: u :: u :: u :: u :: u :: u :: [])) rfl ?_
          exact cut_n hK56 ⟨_, (Option.some.inj h).symm, rfl, hS⟩
      · obtain ⟨x53, ey, rfl, hS⟩ := hq; obtain rfl := ey.symm
        replace h := g55
        try dsimp only at h
        refine seq_n hK52 ?_
        refine w_if ?_
        simp only [W]
        refine w_cnd h (fun hc h => ?_) (fun hc h => ?_)
        · refine w_skip ?_
          refine seq_n hK51 ?_
          refine w_blk fun K62 hK62 => ?_
          refine w_seq fun K63 hK63 => ?_
          refine w_drawL gC [(10, [])] (by kernel_rfl) rfl (by kernel_rfl) ?_
          try simp only [W, EE, reduceIte, Nat.reduceAdd, Nat.reduceBEq, hS.var 6 rfl, tabAt, qAt, Nat.reduceEqDiff]
          refine w_ow 4 hS rfl rfl rfl rfl rfl h (fun b64 in65 wn65 on65 hb64 h en65 => ?_) qm2.ne
          obtain ⟨kn65, hbn65, hen65⟩ := hS.elem 4 rfl en65 hb64
          try simp only [W, EE, hbn65, hen65]
          refine w_ow 1 hS rfl rfl rfl rfl rfl h (fun b66 in67 wn67 on67 hb66 h en67 => ?_) qv33.ne
          obtain ⟨kn67, hbn67, hen67⟩ := hS.elem 1 rfl en67 hb66
          try simp only [W, EE, hbn67, hen67]
          refine w_ow 4 hS rfl rfl rfl rfl rfl h (fun b68 in69 wn69 on69 hb68 h en69 => ?_) qm2.ne
          obtain ⟨kn69, hbn69, hen69⟩ := hS.elem 4 rfl en69 hb68
          try simp only [W]
          refine w_ste (a := .int .i64 (IntKind.i64.wrap (b64 - b66))) (y' := (IntKind.i64.wrap (b64 - b66))) 4 hS rfl en69 hb68 rfl rfl rfl rfl rfl rfl rfl fun H hS => ?_
          try simp only [W]
          refine seq_n hK63 ?_
          refine w_seq fun K70 hK70 => ?_
          refine w_drawL gC [(10, [])] (by kernel_rfl) rfl (by kernel_rfl) ?_
          try simp only [W, EE, reduceIte, Nat.reduceAdd, Nat.reduceBEq, hS.var 6 rfl, tabAt, qAt, Nat.reduceEqDiff]
          refine w_ow 5 hS rfl rfl rfl rfl rfl h (fun b71 in72 wn72 on72 hb71 h en72 => ?_) qm3.ne
          obtain ⟨kn72, hbn72, hen72⟩ := hS.elem 5 rfl en72 hb71
          try simp only [W, EE, hbn72, hen72]
          refine w_ow 1 hS rfl rfl rfl rfl rfl h (fun b73 in74 wn74 on74 hb73 h en74 => ?_) qv33.ne
          obtain ⟨kn74, hbn74, hen74⟩ := hS.elem 1 rfl en74 hb73
          try simp only [W, EE, hbn74, hen74]
          refine w_ow 5 hS rfl rfl rfl rfl rfl h (fun b75 in76 wn76 on76 hb75 h en76 => ?_) qm3.ne
          obtain ⟨kn76, hbn76, hen76⟩ := hS.elem 5 rfl en76 hb75
          try simp only [W]
          refine w_ste (a := .int .i64 (IntKind.i64.wrap (b71 + b73))) (y' := (IntKind.i64.wrap (b71 + b73))) 5 hS rfl en76 hb75 rfl rfl rfl rfl rfl rfl rfl fun H hS => ?_
          try simp only [W]
          refine seq_n hK70 ?_
          refine w_seq fun K77 hK77 => ?_
          refine w_reg gC ?_
          try simp only [W, EE, Nat.reduceAdd]
          refine w_ow 1 hS rfl rfl rfl rfl rfl h (fun b78 in79 wn79 on79 hb78 h en79 => ?_) qv33.ne
          obtain ⟨kn79, hbn79, hen79⟩ := hS.elem 1 rfl en79 hb78
          try simp only [W, EE, hbn79, hen79]
          refine w_lit (el := ([b78] : List Int).map (AV.int .i64)) hS rfl rfl rfl rfl rfl rfl rfl fun v80 H qv80 hS => ?_
          try simp only [W, EE]
          refine w_appV (l := x29) (c := (AV.int .i64)) 1 hS rfl qv30 rfl rfl rfl (hS.elems 0 rfl qv80) (fun _ => rfl) rfl h fun v83 H x82 qv83 hm h hS => ?_
          try simp only [W]
          refine seq_n hK77 ?_
          refine w_reg gC ?_
          try simp only [W, EE, Nat.reduceAdd]
          refine w_slO 2 hS rfl qv33 rfl rfl rfl h fun v86 x85 qv86 hx85 h hS => ?_
          try simp only [W]
          refine blk_n0 hK62 ?_
          have hS : Own _ (⟨v83, 1, x82.map (AV.int .i64)⟩ :: ⟨v86, 1, x85.map (AV.int .i64)⟩ :: ⟨m0, 1, a0.Quanta.map (AV.int .i64)⟩ :: ⟨m1, 1, (ouw nm_SInt d101 a0.Queues).set a0.At.toNat (v13)⟩ :: ⟨m2, 1, (x35.set a0.At.toNat (IntKind.i64.wrap (b64 - b66))).map (AV.int .i64)⟩ :: ⟨m3, 1, (x36.set a0.At.toNat (IntKind.i64.wrap (b71 + b73))).map (AV.int .i64)⟩ :: ⟨.ptr ip2 wp2 0 0, 5, [.agg [m0, m1, m2, m3, .int .i64 x8]]⟩ :: ⟨.ptr ip4 wp4 0 0, 5, [.agg [.nil, .nil, .nil, .nil, .int .i64 0]]⟩ :: ((inx np_SInt (AV.int .i64) 1 d101 a0.Queues a0.At.toNat) ++ (F))) := Own.catI_ (bl := [[⟨v80, 1, ([b78] : List Int).map (AV.int .i64)⟩], [⟨v83, 1, x82.map (AV.int .i64)⟩], [⟨v86, 1, x85.map (AV.int .i64)⟩], [⟨m0, 1, a0.Quanta.map (AV.int .i64)⟩], [⟨m1, 1, (ouw nm_SInt d101 a0.Queues).set a0.At.toNat (v13)⟩], [⟨m2, 1, (x35.set a0.At.toNat (IntKind.i64.wrap (b64 - b66))).map (AV.int .i64)⟩], [⟨m3, 1, (x36.set a0.At.toNat (IntKind.i64.wrap (b71 + b73))).map (AV.int .i64)⟩], [⟨.ptr ip2 wp2 0 0, 5, [.agg [m0, m1, m2, m3, .int .i64 x8]]⟩], [⟨.ptr ip4 wp4 0 0, 5, [.agg [.nil, .nil, .nil, .nil, .int .i64 0]]⟩], (inx np_SInt (AV.int .i64) 1 d101 a0.Queues a0.At.toNat)]) (F := F) hS 10 rfl [1, 2, 3, 4, 5, 6, 7, 8, 9] (by decide)
          exact lp_n hK47 h ⟨_, qv83, _, qv86, rfl, hS⟩
        · refine w_exit ?_
          refine seq_x hK51 ?_
          try obtain rfl := Option.some.inj h
          obtain rfl := hd48 _ rfl
          have h : (some (x29, x32, x35, x36) : Option ((List Int) × (List Int) × (List Int) × (List Int))) = some (x29, x32, x35, x36) := rfl
          refine lp_x hK47 ?_
          refine blk_e hK46 ?_
          exact cut_n hK45 ⟨_, _, _, _, (Option.some.inj h).symm, _, qv30, _, qv33, rfl, hS⟩
    · obtain ⟨x37, x39, x41, x42, rfl, v38, qv38, v40, qv40, rfl, hS⟩ := hq
      replace h := g50
      try dsimp only at h
      refine seq_n hK28 ?_
      refine w_seq fun K91 hK91 => ?_
      refine w_seq fun K92 hK92 => ?_
      refine w_reg gC ?_
      try simp only [W, EE, Nat.reduceAdd]
      refine w_len 1 hS rfl qv40 rfl ?_
      try simp only [W, EE]
      refine seq_n hK92 ?_
      obtain ⟨y94, h, g95⟩ := Option.bind_eq_some_iff.1 h
      refine w_join gC (fun s H => ∃ x93 : List Int, y94 = (x93) ∧ s = (u :: .ptr ip2 wp2 0 0 :: .ptr ip4 wp4 0 0 :: u :: .int .i64 a0.At :: v38 :: v40 :: u :: u :: u :: u :: u :: u :: u :: u :: u :: u :: u :: u :: u :: u :: u :: u :: u :: u :: u :: u :: u :: u :: u :: u :: u :: u :: u :: u :: u :: u :: u :: u :: u :: u :: u :: u :: u :: u :: u :: u :: u :: u :: u :: u :: u :: u :: u :: u :: u :: u :: u :: u :: u :: u :: u :: u :: u :: u :: u :: u :: u :: u :: u :: u :: u :: u :: u :: u :: u :: u :: u :: u :: u :: u :: u :: u :: u :: u :: u :: u :: u :: u :: u :: u :: u :: u :: u :: []) ∧ Own H (⟨v38, 1, x37.map (AV.int .i64)⟩ :: ⟨v40, 1, x39.map (AV.int .i64)⟩ :: ⟨m0, 1, a0.Quanta.map (AV.int .i64)⟩ :: ⟨m1, 1, (ouw nm_SInt d101 a0.Queues).set a0.At.toNat (v13)⟩ :: ⟨m2, 1, x93.map (AV.int .i64)⟩ :: ⟨m3, 1, x42.map (AV.int .i64)⟩ :: ⟨.ptr ip2 wp2 0 0, 5, [.agg [m0, m1, m2, m3, .int .i64 x8]]⟩ :: ⟨.ptr ip4 wp4 0 0, 5, [.agg [.nil, .nil, .nil, .nil, .int .i64 0]]⟩ :: ((inx np_SInt (AV.int .i64) 1 d101 a0.Queues a0.At.toNat) ++ F))) (fun K96 hK96 => ?_) (fun s H hq => ?_)
      · refine w_seq fun K97 hK97 => ?_
        refine w_if ?_
        simp only [W]
        refine w_cnd h (fun hc h => ?_) (fun hc h => ?_)
        · refine w_reg gC ?_
          try simp only [W, EE, Nat.reduceAdd, Nat.reduceBEq, hS.var 6 rfl]
          refine w_ow 4 hS rfl rfl rfl rfl rfl h (fun b98 in99 wn99 on99 hb98 h en99 => ?_) qm2.ne
          obtain ⟨kn99, hbn99, hen99⟩ := hS.elem 4 rfl en99 hb98
          try simp only [W]
          refine w_ste (a := .int .i64 0) (y' := 0) 4 hS rfl en99 hb98 rfl rfl rfl rfl rfl rfl rfl fun H hS => ?_
          try simp only [W]
          refine seq_n hK97 ?_
          refine w_killE (s' := (u :: .ptr ip2 wp2 0 0 :: .ptr ip4 wp4 0 0 :: u :: .int .i64 a0.At :: v38 :: v40 :: u :: u :: u :: u :: u :: u :: u :: u :: u :: u :: u :: u :: u :: u :: u :: u :: u :: u :: u :: u :: u :: u :: u :: u :: u :: u :: u :: u :: u :: u :: u :: u :: u :: u :: u :: u :: u :: u :: u :: u :: u :: u :: u :: u :: u :: u :: u :: u :: u :: u :: u :: u :: u :: u :: u :: u :: u :: u :: u :: u :: u :: u :: u :: u :: u :: u :: u :: u :: u :: u :: u :: u :: u :: u :: u :: u :: u :: u :: u :: u :: u :: u :: u :: u :: u :: u :: u :: [])) rfl ?_
          exact cut_n hK96 ⟨_, (Option.some.inj h).symm, rfl, hS⟩
        · refine w_skip ?_
          refine seq_n hK97 ?_
          refine w_killE (s' := (u :: .ptr ip2 wp2 0 0 :: .ptr ip4 wp4 0 0 :: u :: .int .i64 a0.At :: v38 :: v40 :: u :: u :: u :: u :: u :: u :: u :: u :: u :: u :: u :: u :: u :: u :: u :: u :: u :: u :: u :: u :: u :: u :: u :: u :: u :: u :: u :: u :: u :: u :: u :: u :: u :: u :: u :: u :: u :: u :: u :: u :: u :: u :: u :: u :: u :: u :: u :: u :: u :: u :: u :: u :: u :: u :: u :: u :: u :: u :: u :: u :: u :: u :: u :: u :: u :: u :: u :: u :: u :: u :: u :: u :: u :: u :: u :: u :: u :: u :: u :: u :: u :: u :: u :: u :: u :: u :: u :: [])) rfl ?_
          exact cut_n hK96 ⟨_, (Option.some.inj h).symm, rfl, hS⟩
      · obtain ⟨x93, ey, rfl, hS⟩ := hq; obtain rfl := ey.symm
        replace h := g95
        try dsimp only at h
        refine seq_n hK91 ?_
        refine w_seq fun K100 hK100 => ?_
        refine w_drawL gC [(7, [])] (by kernel_rfl) rfl (by kernel_rfl) ?_
        try simp only [W, EE, reduceIte, Nat.reduceAdd, Nat.reduceBEq, hS.var 6 rfl, tabAt, qAt, Nat.reduceEqDiff]
        refine w_lit0 rfl rfl ?_
        try simp only [W]
        refine w_appQ rfl ?_
        simp only [W, EE]
        have hS := hS.e0_ 1
        refine w_appV (l := ([] : List Int)) (c := (AV.int .i64)) 0 hS rfl isSl_e0 rfl rfl rfl (hS.elems 2 rfl qv40) (fun _ => rfl) rfl h fun v103 H x102 qv103 hm h hS => ?_
        try simp only [W, EE]
        refine w_owE (x := v13) 4 hS rfl rfl rfl rfl rfl (idx_some hb12).1 (holeG qd101 hb12) qm1 (fun in105 wn105 on105 en105 hkn105 => ?_)
        obtain ⟨kn105, hbn105, hen105⟩ := hkn105
        try simp only [W]
        refine w_stE (a := v103) (y' := v103) (i := a0.At.toNat) 4 hS rfl en105 (holeG qd101 hb12) rfl rfl rfl (by rw [qv103.cells]; rfl) qv103.stora (qv103.wr2 qv13) (by first | rfl | (rw [qv103.cells]; rfl)) (List.set_set ..) fun H hS => ?_
        try simp only [W]
        refine seq_n hK100 ?_
        refine w_seq fun K106 hK106 => ?_
        refine w_reg gC ?_
        try simp only [W, EE, reduceIte, Nat.reduceAdd, Nat.reduceLeDiff, hS.var 7 rfl]
        refine w_stv (a := .agg [m0, m1, m2, m3, .int .i64 x8]) (y' := .agg [m0, m1, m2, m3, .int .i64 x8]) 8 hS rfl rfl rfl rfl rfl (by simp only [storA, List.all_cons, List.all_nil, qm0.stor, qm1.stor, qm2.stor, qm3.stor]; rfl) rfl rfl fun H hS => ?_
        try simp only [W]
        refine seq_n hK106 ?_
        refine w_ret ?_
        have hS : Own _ (⟨v103, 1, x102.map (AV.int .i64)⟩ :: ⟨m1, 1, (ouw nm_SInt d101 a0.Queues).set a0.At.toNat (v103)⟩ :: ((inx np_SInt (AV.int .i64) 1 d101 a0.Queues a0.At.toNat) ++ (⟨v38, 1, x37.map (AV.int .i64)⟩ :: ⟨v40, 1, x39.map (AV.int .i64)⟩ :: ⟨m0, 1, a0.Quanta.map (AV.int .i64)⟩ :: ⟨m2, 1, x93.map (AV.int .i64)⟩ :: ⟨m3, 1, x42.map (AV.int .i64)⟩ :: ⟨.ptr ip2 wp2 0 0, 5, [.agg [m0, m1, m2, m3, .int .i64 x8]]⟩ :: ⟨.ptr ip4 wp4 0 0, 5, [.agg [m0, m1, m2, m3, .int .i64 x8]]⟩ :: F))) := Own.catI_ (bl := [[⟨v103, 1, x102.map (AV.int .i64)⟩], [⟨v38, 1, x37.map (AV.int .i64)⟩], [⟨v40, 1, x39.map (AV.int .i64)⟩], [⟨m0, 1, a0.Quanta.map (AV.int .i64)⟩], [⟨m1, 1, (ouw nm_SInt d101 a0.Queues).set a0.At.toNat (v103)⟩], [⟨m2, 1, x93.map (AV.int .i64)⟩], [⟨m3, 1, x42.map (AV.int .i64)⟩], [⟨.ptr ip2 wp2 0 0, 5, [.agg [m0, m1, m2, m3, .int .i64 x8]]⟩], [⟨.ptr ip4 wp4 0 0, 5, [.agg [m0, m1, m2, m3, .int .i64 x8]]⟩], (inx np_SInt (AV.int .i64) 1 d101 a0.Queues a0.At.toNat)]) (F := F) hS 10 rfl [0, 4, 9, 1, 2, 3, 5, 6, 7, 8] (by decide)
        obtain ⟨d107, qd107, hS⟩ := closeN (p := np_SInt) (c := (AV.int .i64)) (m := nm_SInt) (b := b12) (y := x102) hS qd101 qv103 hb12
        have hS : Own _ (⟨v38, 1, x37.map (AV.int .i64)⟩ :: ⟨v40, 1, x39.map (AV.int .i64)⟩ :: ⟨m0, 1, a0.Quanta.map (AV.int .i64)⟩ :: ⟨m1, 1, ouw nm_SInt d107 (a0.Queues.set a0.At.toNat x102)⟩ :: ⟨m2, 1, x93.map (AV.int .i64)⟩ :: ⟨m3, 1, x42.map (AV.int .i64)⟩ :: ⟨.ptr ip2 wp2 0 0, 5, [.agg [m0, m1, m2, m3, .int .i64 x8]]⟩ :: ⟨.ptr ip4 wp4 0 0, 5, [.agg [m0, m1, m2, m3, .int .i64 x8]]⟩ :: ((inn np_SInt (AV.int .i64) 1 d107 (a0.Queues.set a0.At.toNat x102)) ++ (F))) := Own.catI_ (bl := [[⟨m1, 1, ouw nm_SInt d107 (a0.Queues.set a0.At.toNat x102)⟩], (inn np_SInt (AV.int .i64) 1 d107 (a0.Queues.set a0.At.toNat x102)), [⟨v38, 1, x37.map (AV.int .i64)⟩], [⟨v40, 1, x39.map (AV.int .i64)⟩], [⟨m0, 1, a0.Quanta.map (AV.int .i64)⟩], [⟨m2, 1, x93.map (AV.int .i64)⟩], [⟨m3, 1, x42.map (AV.int .i64)⟩], [⟨.ptr ip2 wp2 0 0, 5, [.agg [m0, m1, m2, m3, .int .i64 x8]]⟩], [⟨.ptr ip4 wp4 0 0, 5, [.agg [m0, m1, m2, m3, .int .i64 x8]]⟩]]) (F := F) hS 9 rfl [2, 3, 4, 0, 5, 6, 7, 8, 1] (by decide)
        refine fin_r hK0 (res_c rfl rfl (hS.var 7 rfl) rfl (res_tc rfl rfl)) ?_
        try obtain rfl := Option.some.inj h
        have hS : Own _ (⟨m0, 1, a0.Quanta.map (AV.int .i64)⟩ :: ⟨m1, 1, ouw nm_SInt d107 (a0.Queues.set a0.At.toNat x102)⟩ :: ⟨m2, 1, x93.map (AV.int .i64)⟩ :: ⟨m3, 1, x42.map (AV.int .i64)⟩ :: ⟨v38, 1, x37.map (AV.int .i64)⟩ :: ((inn np_SInt (AV.int .i64) 1 d107 (a0.Queues.set a0.At.toNat x102)) ++ (F))) := Own.catI_ (bl := [[⟨v38, 1, x37.map (AV.int .i64)⟩], [⟨v40, 1, x39.map (AV.int .i64)⟩], [⟨m0, 1, a0.Quanta.map (AV.int .i64)⟩], [⟨m1, 1, ouw nm_SInt d107 (a0.Queues.set a0.At.toNat x102)⟩], [⟨m2, 1, x93.map (AV.int .i64)⟩], [⟨m3, 1, x42.map (AV.int .i64)⟩], [⟨.ptr ip2 wp2 0 0, 5, [.agg [m0, m1, m2, m3, .int .i64 x8]]⟩], [⟨.ptr ip4 wp4 0 0, 5, [.agg [m0, m1, m2, m3, .int .i64 x8]]⟩], (inn np_SInt (AV.int .i64) 1 d107 (a0.Queues.set a0.At.toNat x102))]) (F := F) hS 9 rfl [2, 3, 4, 5, 0, 8] (by decide)
        exact hP _ qm0 _ qm1 _ qd107 _ qm2 _ qm3 _ qv38 _ hS
theorem spec_NextTurn_w {a0 : Turns} {r : (Turns × List Int × Bool)} (h : spec_NextTurn a0 = some r) {F : List It} {H : Heap} (hS : Own H (F)) {P : AV → Heap → Prop} (hP : ∀ v69 : AV, isSl v69 → ∀ v71 : AV, isSl v71 → ∀ d73 : List AV, isSls d73 (r.1.Queues).length → ∀ v74 : AV, isSl v74 → ∀ v76 : AV, isSl v76 → ∀ v78 : AV, isSl v78 → ∀ H', Own H' (⟨v69, 1, r.1.Quanta.map (AV.int .i64)⟩ :: ⟨v71, 1, ouw nm_SInt d73 r.1.Queues⟩ :: ⟨v74, 1, r.1.Credit.map (AV.int .i64)⟩ :: ⟨v76, 1, r.1.Sent.map (AV.int .i64)⟩ :: ⟨v78, 1, r.2.1.map (AV.int .i64)⟩ :: ((inn np_SInt (AV.int .i64) 1 d73 r.1.Queues) ++ F)) → P (.tup [.agg [v69, v71, v74, v76, .int .i64 r.1.At], v78, .bool r.2.2]) H') : ACall C 128 [.agg [.fz (a0.Quanta.map (AV.int .i64)), .fz (a0.Queues.map (fzl (AV.int .i64))), .fz (a0.Credit.map (AV.int .i64)), .fz (a0.Sent.map (AV.int .i64)), .int .i64 a0.At]] H P := by
  refine acall_of gC (res := [.cell 2 75, .tmp 3, .tmp 4]) (n := 24) rfl rfl rfl rfl fun K0 hK0 => ?_
  simp only [W, Nat.reduceSub, Nat.reduceAdd, List.replicate]
  unfold spec_NextTurn at h
  refine w_seq fun K1 hK1 => ?_
  refine w_reg gC ?_
  try simp only [W, Nat.reduceAdd]
  refine w_box hS rfl rfl rfl rfl fun ip2 wp2 H hS => ?_
  try simp only [W]
  refine w_alloc hS rfl rfl fun ip4 wp4 H hS => ?_
  try simp only [W]
  refine seq_n hK1 ?_
  refine w_seq fun K6 hK6 => ?_
  refine w_seq fun K7 hK7 => ?_
  refine w_reg gC ?_
  try simp only [W, EE, reduceIte, Nat.reduceAdd, Nat.reduceLeDiff, hS.var 1 rfl]
  refine w_call h fun b8 hb8 h => ?_
  refine spec_GoodTurns_w hb8 hS fun H hS => ?_
  try simp only [W]
  refine seq_n hK7 ?_
  refine w_if ?_
  simp only [W]
  refine w_cnd h (fun hc h => ?_) (fun hc h => ?_)
  · refine w_seq fun K9 hK9 => ?_
    refine w_reg gC ?_
    try simp only [W, EE, Nat.reduceAdd]
    refine w_bld rfl rfl rfl rfl rfl ?_
    try simp only [W]
    refine w_stv (a := .agg [.nil, .nil, .nil, .nil, .int .i64 0]) (y' := .agg [.nil, .nil, .nil, .nil, .int .i64 0]) 0 hS rfl rfl rfl rfl rfl rfl rfl rfl fun H hS => ?_
    try simp only [W]
    refine seq_n hK9 ?_
    refine w_ret ?_
    refine seq_r hK6 ?_
    have hS := hS.nil_ 1
    have hS := hS.nil_ 1
    obtain ⟨d12, qd12, hS⟩ := noneN (p := np_SInt) (c := (AV.int .i64)) (z := 1) (m := nm_SInt) hS
    have hS : Own _ (⟨AV.nil, 1, ouw nm_SInt d12 ([] : List (List Int))⟩ :: ⟨AV.nil, 1, ([] : List Int).map (AV.int .i64)⟩ :: ⟨.ptr ip4 wp4 0 0, 5, [.agg [.nil, .nil, .nil, .nil, .int .i64 0]]⟩ :: ⟨.ptr ip2 wp2 0 0, 5, [.agg [.fz (a0.Quanta.map (AV.int .i64)), .fz (a0.Queues.map (fzl (AV.int .i64))), .fz (a0.Credit.map (AV.int .i64)), .fz (a0.Sent.map (AV.int .i64)), .int .i64 a0.At]]⟩ :: ((inn np_SInt (AV.int .i64) 1 d12 ([] : List (List Int))) ++ (F))) := Own.catI_ (bl := [[⟨AV.nil, 1, ouw nm_SInt d12 ([] : List (List Int))⟩], (inn np_SInt (AV.int .i64) 1 d12 ([] : List (List Int))), [⟨AV.nil, 1, ([] : List Int).map (AV.int .i64)⟩], [⟨.ptr ip4 wp4 0 0, 5, [.agg [.nil, .nil, .nil, .nil, .int .i64 0]]⟩], [⟨.ptr ip2 wp2 0 0, 5, [.agg [.fz (a0.Quanta.map (AV.int .i64)), .fz (a0.Queues.map (fzl (AV.int .i64))), .fz (a0.Credit.map (AV.int .i64)), .fz (a0.Sent.map (AV.int .i64)), .int .i64 a0.At]]⟩]]) (F := F) hS 5 rfl [0, 2, 3, 4, 1] (by decide)
    have hS := hS.nil_ 1
    have hS := hS.nil_ 1
    have hS := hS.nil_ 1
    refine fin_r hK0 (res_c rfl rfl (hS.var 5 rfl) rfl (res_tc rfl (res_tc rfl rfl))) ?_
    try obtain rfl := Option.some.inj h
    have hS : Own _ (⟨AV.nil, 1, ([] : List Int).map (AV.int .i64)⟩ :: ⟨AV.nil, 1, ouw nm_SInt d12 ([] : List (List Int))⟩ :: ⟨AV.nil, 1, ([] : List Int).map (AV.int .i64)⟩ :: ⟨AV.nil, 1, ([] : List Int).map (AV.int .i64)⟩ :: ⟨AV.nil, 1, ([] : List Int).map (AV.int .i64)⟩ :: ((inn np_SInt (AV.int .i64) 1 d12 ([] : List (List Int))) ++ (F))) := Own.catI_ (bl := [[⟨AV.nil, 1, ([] : List Int).map (AV.int .i64)⟩], [⟨AV.nil, 1, ([] : List Int).map (AV.int .i64)⟩], [⟨AV.nil, 1, ([] : List Int).map (AV.int .i64)⟩], [⟨AV.nil, 1, ouw nm_SInt d12 ([] : List (List Int))⟩], [⟨AV.nil, 1, ([] : List Int).map (AV.int .i64)⟩], [⟨.ptr ip4 wp4 0 0, 5, [.agg [.nil, .nil, .nil, .nil, .int .i64 0]]⟩], [⟨.ptr ip2 wp2 0 0, 5, [.agg [.fz (a0.Quanta.map (AV.int .i64)), .fz (a0.Queues.map (fzl (AV.int .i64))), .fz (a0.Credit.map (AV.int .i64)), .fz (a0.Sent.map (AV.int .i64)), .int .i64 a0.At]]⟩], (inn np_SInt (AV.int .i64) 1 d12 ([] : List (List Int)))]) (F := F) hS 8 rfl [4, 3, 2, 1, 0, 7] (by decide)
    exact hP _ isSl_nil _ isSl_nil _ qd12 _ isSl_nil _ isSl_nil _ isSl_nil _ hS
  · refine w_skip ?_
    refine seq_n hK6 ?_
    refine w_seq fun K16 hK16 => ?_
    refine w_reg gC ?_
    try simp only [W, EE, reduceIte, Nat.reduceAdd, Nat.reduceLeDiff, hS.var 1 rfl]
    refine w_call h fun b17 hb17 h => ?_
    refine spec_l8Own_w hb17 hS fun v18 qv18 v20 qv20 d22 qd22 v23 qv23 v25 qv25 H hS => ?_
    have hS : Own _ (⟨v18, 1, b17.Quanta.map (AV.int .i64)⟩ :: ⟨v20, 1, ouw nm_SInt d22 b17.Queues⟩ :: ⟨v23, 1, b17.Credit.map (AV.int .i64)⟩ :: ⟨v25, 1, b17.Sent.map (AV.int .i64)⟩ :: ⟨.ptr ip4 wp4 0 0, 5, [.agg [.nil, .nil, .nil, .nil, .int .i64 0]]⟩ :: ⟨.ptr ip2 wp2 0 0, 5, [.agg [.fz (a0.Quanta.map (AV.int .i64)), .fz (a0.Queues.map (fzl (AV.int .i64))), .fz (a0.Credit.map (AV.int .i64)), .fz (a0.Sent.map (AV.int .i64)), .int .i64 a0.At]]⟩ :: ((inn np_SInt (AV.int .i64) 1 d22 b17.Queues) ++ (F))) := Own.catI_ (bl := [[⟨v18, 1, b17.Quanta.map (AV.int .i64)⟩], [⟨v20, 1, ouw nm_SInt d22 b17.Queues⟩], [⟨v23, 1, b17.Credit.map (AV.int .i64)⟩], [⟨v25, 1, b17.Sent.map (AV.int .i64)⟩], (inn np_SInt (AV.int .i64) 1 d22 b17.Queues), [⟨.ptr ip4 wp4 0 0, 5, [.agg [.nil, .nil, .nil, .nil, .int .i64 0]]⟩], [⟨.ptr ip2 wp2 0 0, 5, [.agg [.fz (a0.Quanta.map (AV.int .i64)), .fz (a0.Queues.map (fzl (AV.int .i64))), .fz (a0.Credit.map (AV.int .i64)), .fz (a0.Sent.map (AV.int .i64)), .int .i64 a0.At]]⟩]]) (F := F) hS 7 rfl [0, 1, 2, 3, 5, 6, 4] (by decide)
    try simp only [W]
    have hS : Own _ (⟨v18, 1, b17.Quanta.map (AV.int .i64)⟩ :: ⟨v20, 1, ouw nm_SInt d22 b17.Queues⟩ :: ⟨v23, 1, b17.Credit.map (AV.int .i64)⟩ :: ⟨v25, 1, b17.Sent.map (AV.int .i64)⟩ :: ((inn np_SInt (AV.int .i64) 1 d22 b17.Queues) ++ (⟨.ptr ip4 wp4 0 0, 5, [.agg [.nil, .nil, .nil, .nil, .int .i64 0]]⟩ :: ⟨.ptr ip2 wp2 0 0, 5, [.agg [.fz (a0.Quanta.map (AV.int .i64)), .fz (a0.Queues.map (fzl (AV.int .i64))), .fz (a0.Credit.map (AV.int .i64)), .fz (a0.Sent.map (AV.int .i64)), .int .i64 a0.At]]⟩ :: F))) := Own.catI_ (bl := [[⟨v18, 1, b17.Quanta.map (AV.int .i64)⟩], [⟨v20, 1, ouw nm_SInt d22 b17.Queues⟩], [⟨v23, 1, b17.Credit.map (AV.int .i64)⟩], [⟨v25, 1, b17.Sent.map (AV.int .i64)⟩], [⟨.ptr ip4 wp4 0 0, 5, [.agg [.nil, .nil, .nil, .nil, .int .i64 0]]⟩], [⟨.ptr ip2 wp2 0 0, 5, [.agg [.fz (a0.Quanta.map (AV.int .i64)), .fz (a0.Queues.map (fzl (AV.int .i64))), .fz (a0.Credit.map (AV.int .i64)), .fz (a0.Sent.map (AV.int .i64)), .int .i64 a0.At]]⟩], (inn np_SInt (AV.int .i64) 1 d22 b17.Queues)]) (F := F) hS 7 rfl [0, 1, 2, 3, 6, 4, 5] (by decide)
    refine w_call h fun b27 hb27 h => ?_
    obtain ⟨b28, b29⟩ := b27
    try dsimp only at h
    refine spec_l8Next_w hb27 hS qv18 qv20 qd22 qv23 qv25 fun v30 qv30 v32 qv32 d34 qd34 v35 qv35 v37 qv37 v39 qv39 H hS => ?_
    have hS : Own _ (⟨v30, 1, b28.Quanta.map (AV.int .i64)⟩ :: ⟨v32, 1, ouw nm_SInt d34 b28.Queues⟩ :: ⟨v35, 1, b28.Credit.map (AV.int .i64)⟩ :: ⟨v37, 1, b28.Sent.map (AV.int .i64)⟩ :: ⟨v39, 1, b29.map (AV.int .i64)⟩ :: ⟨.ptr ip4 wp4 0 0, 5, [.agg [.nil, .nil, .nil, .nil, .int .i64 0]]⟩ :: ⟨.ptr ip2 wp2 0 0, 5, [.agg [.fz (a0.Quanta.map (AV.int .i64)), .fz (a0.Queues.map (fzl (AV.int .i64))), .fz (a0.Credit.map (AV.int .i64)), .fz (a0.Sent.map (AV.int .i64)), .int .i64 a0.At]]⟩ :: ((inn np_SInt (AV.int .i64) 1 d34 b28.Queues) ++ (F))) := Own.catI_ (bl := [[⟨v30, 1, b28.Quanta.map (AV.int .i64)⟩], [⟨v32, 1, ouw nm_SInt d34 b28.Queues⟩], [⟨v35, 1, b28.Credit.map (AV.int .i64)⟩], [⟨v37, 1, b28.Sent.map (AV.int .i64)⟩], [⟨v39, 1, b29.map (AV.int .i64)⟩], (inn np_SInt (AV.int .i64) 1 d34 b28.Queues), [⟨.ptr ip4 wp4 0 0, 5, [.agg [.nil, .nil, .nil, .nil, .int .i64 0]]⟩], [⟨.ptr ip2 wp2 0 0, 5, [.agg [.fz (a0.Quanta.map (AV.int .i64)), .fz (a0.Queues.map (fzl (AV.int .i64))), .fz (a0.Credit.map (AV.int .i64)), .fz (a0.Sent.map (AV.int .i64)), .int .i64 a0.At]]⟩]]) (F := F) hS 8 rfl [0, 1, 2, 3, 4, 6, 7, 5] (by decide)
    try simp only [W]
    refine w_alloc hS rfl rfl fun ip41 wp41 H hS => ?_
    try simp only [W]
    refine w_stv (a := .agg [v30, v32, v35, v37, .int .i64 b28.At]) (y' := .agg [v30, v32, v35, v37, .int .i64 b28.At]) 0 hS rfl rfl rfl rfl rfl (by simp only [storA, List.all_cons, List.all_nil, qv30.stor, qv32.stor, qv35.stor, qv37.stor]; rfl) rfl rfl fun H hS => ?_
    try simp only [W]
    refine seq_n hK16 ?_
    refine w_seq fun K43 hK43 => ?_
    refine w_seq fun K44 hK44 => ?_
    refine w_reg gC ?_
    try simp only [W, EE, reduceIte, Nat.reduceAdd, Nat.reduceLeDiff, hS.var 0 rfl]
    have hS : Own _ (⟨.ptr ip41 wp41 0 0, 5, [.agg [v30, v32, v35, v37, .int .i64 b28.At]]⟩ :: ⟨v30, 1, b28.Quanta.map (AV.int .i64)⟩ :: ⟨v32, 1, ouw nm_SInt d34 b28.Queues⟩ :: ⟨v35, 1, b28.Credit.map (AV.int .i64)⟩ :: ⟨v37, 1, b28.Sent.map (AV.int .i64)⟩ :: ⟨v39, 1, b29.map (AV.int .i64)⟩ :: ⟨.ptr ip4 wp4 0 0, 5, [.agg [.nil, .nil, .nil, .nil, .int .i64 0]]⟩ :: ⟨.ptr ip2 wp2 0 0, 5, [.agg [.fz (a0.Quanta.map (AV.int .i64)), .fz (a0.Queues.map (fzl (AV.int .i64))), .fz (a0.Credit.map (AV.int .i64)), .fz (a0.Sent.map (AV.int .i64)), .int .i64 a0.At]]⟩ :: ((inn np_SInt (AV.int .i64) 1 d34 b28.Queues) ++ F)) := hS
    refine w_callS (rsh := [[.sc]]) (ys := [.agg [.fz (b28.Quanta.map (AV.int .i64)), .fz (b28.Queues.map (fzl (AV.int .i64))), .fz (b28.Credit.map (AV.int .i64)), .fz (b28.Sent.map (AV.int .i64)), .int .i64 b28.At]]) h rfl (pv_c (sn_agg (sm_c (sn_ow hS 1 rfl qv30 (fun _ => rfl)) (sm_c (sn_owN (enc := (fzl (AV.int .i64))) hS 2 rfl qv32 qd34 (fun _ h => (List.mem_cons_of_mem _ (List.mem_cons_of_mem _ (List.mem_cons_of_mem _ (List.mem_cons_of_mem _ (List.mem_cons_of_mem _ (List.mem_cons_of_mem _ (List.mem_cons_of_mem _ (List.mem_cons_of_mem _ (List.mem_append_left _ h)))))))))) (fun _ _ ha hk => sn_it hk ha (fun _ => rfl))) (sm_c (sn_ow hS 3 rfl qv35 (fun _ => rfl)) (sm_c (sn_ow hS 4 rfl qv37 (fun _ => rfl)) (sm_c rfl (sm_n _))))))) pv_n) fun b45 hb45 h => ⟨.bool b45, spec_GoodTurns_w hb45 (Own.nil _) fun H hS => TV_ok rfl (TV_p rfl (TV_n rfl)), ⟨rfl, rfl, fun _ => rfl⟩, ?_⟩
    try simp only [W]
    refine seq_n hK44 ?_
    refine w_if ?_
    simp only [W]
    refine w_cnd h (fun hc h => ?_) (fun hc h => ?_)
    · refine w_seq fun K46 hK46 => ?_
      refine w_reg gC ?_
      try simp only [W, EE, Nat.reduceAdd]
      refine w_bld rfl rfl rfl rfl rfl ?_
      try simp only [W]
      refine w_stv (a := .agg [.nil, .nil, .nil, .nil, .int .i64 0]) (y' := .agg [.nil, .nil, .nil, .nil, .int .i64 0]) 6 hS rfl rfl rfl rfl rfl rfl rfl rfl fun H hS => ?_
      try simp only [W]
      refine seq_n hK46 ?_
      refine w_ret ?_
      refine seq_r hK43 ?_
      have hS := hS.nil_ 1
      have hS := hS.nil_ 1
      obtain ⟨d49, qd49, hS⟩ := noneN (p := np_SInt) (c := (AV.int .i64)) (z := 1) (m := nm_SInt) hS
      have hS : Own _ (⟨AV.nil, 1, ouw nm_SInt d49 ([] : List (List Int))⟩ :: ⟨AV.nil, 1, ([] : List Int).map (AV.int .i64)⟩ :: ⟨.ptr ip41 wp41 0 0, 5, [.agg [v30, v32, v35, v37, .int .i64 b28.At]]⟩ :: ⟨v30, 1, b28.Quanta.map (AV.int .i64)⟩ :: ⟨v32, 1, ouw nm_SInt d34 b28.Queues⟩ :: ⟨v35, 1, b28.Credit.map (AV.int .i64)⟩ :: ⟨v37, 1, b28.Sent.map (AV.int .i64)⟩ :: ⟨v39, 1, b29.map (AV.int .i64)⟩ :: ⟨.ptr ip4 wp4 0 0, 5, [.agg [.nil, .nil, .nil, .nil, .int .i64 0]]⟩ :: ⟨.ptr ip2 wp2 0 0, 5, [.agg [.fz (a0.Quanta.map (AV.int .i64)), .fz (a0.Queues.map (fzl (AV.int .i64))), .fz (a0.Credit.map (AV.int .i64)), .fz (a0.Sent.map (AV.int .i64)), .int .i64 a0.At]]⟩ :: ((inn np_SInt (AV.int .i64) 1 d49 ([] : List (List Int))) ++ (((inn np_SInt (AV.int .i64) 1 d34 b28.Queues) ++ (F))))) := Own.catI_ (bl := [[⟨AV.nil, 1, ouw nm_SInt d49 ([] : List (List Int))⟩], (inn np_SInt (AV.int .i64) 1 d49 ([] : List (List Int))), [⟨AV.nil, 1, ([] : List Int).map (AV.int .i64)⟩], [⟨.ptr ip41 wp41 0 0, 5, [.agg [v30, v32, v35, v37, .int .i64 b28.At]]⟩], [⟨v30, 1, b28.Quanta.map (AV.int .i64)⟩], [⟨v32, 1, ouw nm_SInt d34 b28.Queues⟩], [⟨v35, 1, b28.Credit.map (AV.int .i64)⟩], [⟨v37, 1, b28.Sent.map (AV.int .i64)⟩], [⟨v39, 1, b29.map (AV.int .i64)⟩], [⟨.ptr ip4 wp4 0 0, 5, [.agg [.nil, .nil, .nil, .nil, .int .i64 0]]⟩], [⟨.ptr ip2 wp2 0 0, 5, [.agg [.fz (a0.Quanta.map (AV.int .i64)), .fz (a0.Queues.map (fzl (AV.int .i64))), .fz (a0.Credit.map (AV.int .i64)), .fz (a0.Sent.map (AV.int .i64)), .int .i64 a0.At]]⟩], (inn np_SInt (AV.int .i64) 1 d34 b28.Queues)]) (F := F) hS 12 rfl [0, 2, 3, 4, 5, 6, 7, 8, 9, 10, 1, 11] (by decide)
      have hS := hS.nil_ 1
      have hS := hS.nil_ 1
      have hS := hS.nil_ 1
      refine fin_r hK0 (res_c rfl rfl (hS.var 11 rfl) rfl (res_tc rfl (res_tc rfl rfl))) ?_
      try obtain rfl := Option.some.inj h
      have hS : Own _ (⟨AV.nil, 1, ([] : List Int).map (AV.int .i64)⟩ :: ⟨AV.nil, 1, ouw nm_SInt d49 ([] : List (List Int))⟩ :: ⟨AV.nil, 1, ([] : List Int).map (AV.int .i64)⟩ :: ⟨AV.nil, 1, ([] : List Int).map (AV.int .i64)⟩ :: ⟨AV.nil, 1, ([] : List Int).map (AV.int .i64)⟩ :: ((inn np_SInt (AV.int .i64) 1 d49 ([] : List (List Int))) ++ (F))) := Own.catI_ (bl := [[⟨AV.nil, 1, ([] : List Int).map (AV.int .i64)⟩], [⟨AV.nil, 1, ([] : List Int).map (AV.int .i64)⟩], [⟨AV.nil, 1, ([] : List Int).map (AV.int .i64)⟩], [⟨AV.nil, 1, ouw nm_SInt d49 ([] : List (List Int))⟩], [⟨AV.nil, 1, ([] : List Int).map (AV.int .i64)⟩], [⟨.ptr ip41 wp41 0 0, 5, [.agg [v30, v32, v35, v37, .int .i64 b28.At]]⟩], [⟨v30, 1, b28.Quanta.map (AV.int .i64)⟩], [⟨v32, 1, ouw nm_SInt d34 b28.Queues⟩], [⟨v35, 1, b28.Credit.map (AV.int .i64)⟩], [⟨v37, 1, b28.Sent.map (AV.int .i64)⟩], [⟨v39, 1, b29.map (AV.int .i64)⟩], [⟨.ptr ip4 wp4 0 0, 5, [.agg [.nil, .nil, .nil, .nil, .int .i64 0]]⟩], [⟨.ptr ip2 wp2 0 0, 5, [.agg [.fz (a0.Quanta.map (AV.int .i64)), .fz (a0.Queues.map (fzl (AV.int .i64))), .fz (a0.Credit.map (AV.int .i64)), .fz (a0.Sent.map (AV.int .i64)), .int .i64 a0.At]]⟩], (inn np_SInt (AV.int .i64) 1 d49 ([] : List (List Int))), (inn np_SInt (AV.int .i64) 1 d34 b28.Queues)]) (F := F) hS 15 rfl [4, 3, 2, 1, 0, 13] (by decide)
      exact hP _ isSl_nil _ isSl_nil _ qd49 _ isSl_nil _ isSl_nil _ isSl_nil _ hS
    · refine w_skip ?_
      refine seq_n hK43 ?_
      refine w_seq fun K53 hK53 => ?_
      refine w_reg gC ?_
      try simp only [W, EE, reduceIte, Nat.reduceAdd, Nat.reduceLeDiff, Nat.reduceBEq, hS.var 0 rfl, List.contains_cons, Nat.reduceBEq, Bool.or_self]
      have hS : Own _ (⟨.ptr ip41 wp41 0 0, 5, [.agg [v30, v32, v35, v37, .int .i64 b28.At]]⟩ :: ⟨v30, 1, b28.Quanta.map (AV.int .i64)⟩ :: ⟨v32, 1, ouw nm_SInt d34 b28.Queues⟩ :: ⟨v35, 1, b28.Credit.map (AV.int .i64)⟩ :: ⟨v37, 1, b28.Sent.map (AV.int .i64)⟩ :: ⟨v39, 1, b29.map (AV.int .i64)⟩ :: ⟨.ptr ip4 wp4 0 0, 5, [.agg [.nil, .nil, .nil, .nil, .int .i64 0]]⟩ :: ⟨.ptr ip2 wp2 0 0, 5, [.agg [.fz (a0.Quanta.map (AV.int .i64)), .fz (a0.Queues.map (fzl (AV.int .i64))), .fz (a0.Credit.map (AV.int .i64)), .fz (a0.Sent.map (AV.int .i64)), .int .i64 a0.At]]⟩ :: ((inn np_SInt (AV.int .i64) 1 d34 b28.Queues) ++ F)) := hS
      refine w_callO (rsh := [[.sl [.sc], .sl [.sl [.sc]], .sl [.sc], .sl [.sc], .sc]]) (ys := [.agg [.fz (b28.Quanta.map (AV.int .i64)), .fz (b28.Queues.map (fzl (AV.int .i64))), .fz (b28.Credit.map (AV.int .i64)), .fz (b28.Sent.map (AV.int .i64)), .int .i64 b28.At]]) h rfl (pv_c (sn_agg (sm_c (sn_ow hS 1 rfl qv30 (fun _ => rfl)) (sm_c (sn_owN (enc := (fzl (AV.int .i64))) hS 2 rfl qv32 qd34 (fun _ h => (List.mem_cons_of_mem _ (List.mem_cons_of_mem _ (List.mem_cons_of_mem _ (List.mem_cons_of_mem _ (List.mem_cons_of_mem _ (List.mem_cons_of_mem _ (List.mem_cons_of_mem _ (List.mem_cons_of_mem _ (List.mem_append_left _ h)))))))))) (fun _ _ ha hk => sn_it hk ha (fun _ => rfl))) (sm_c (sn_ow hS 3 rfl qv35 (fun _ => rfl)) (sm_c (sn_ow hS 4 rfl qv37 (fun _ => rfl)) (sm_c rfl (sm_n _))))))) pv_n) fun b54 hb54 h => ⟨.agg [.own 1 (b54.Quanta.map (AV.int .i64)), .own 1 (b54.Queues.map nd_SInt), .own 1 (b54.Credit.map (AV.int .i64)), .own 1 (b54.Sent.map (AV.int .i64)), .int .i64 b54.At], spec_l8Own_w hb54 (Own.nil _) fun v55 qv55 v56 qv56 d57 qd57 v58 qv58 v59 qv59 H hS => TV_ok rfl (TV_a (TC_ow 0 hS rfl qv55 (fun _ _ => by simp [takeE, takeT, plainA]) fun H hS => TC_owN (d := nd_SInt) (Own.catI_ (bl := [[⟨v56, 1, ouw nm_SInt d57 b54.Queues⟩], [⟨v58, 1, b54.Credit.map (AV.int .i64)⟩], [⟨v59, 1, b54.Sent.map (AV.int .i64)⟩], (inn np_SInt (AV.int .i64) 1 d57 b54.Queues)]) (F := []) hS 4 rfl [0, 3, 1, 2] (by decide)) qv56 qd57 nt_SInt fun H hS => TC_ow 0 hS rfl qv58 (fun _ _ => by simp [takeE, takeT, plainA]) fun H hS => TC_ow 0 hS rfl qv59 (fun _ _ => by simp [takeE, takeT, plainA]) fun H hS => TC_sc rfl (TC_nil (TV_n rfl)))), (nf_a (nf_c (noFz_o _ (fun _ => rfl) _) (nf_c (noFz_o _ nf_SInt _) (nf_c (noFz_o _ (fun _ => rfl) _) (nf_c (noFz_o _ (fun _ => rfl) _) (nf_c rfl nf_n)))))), ?_⟩
      refine thaw_1 ?_
      refine TH_a ?_
      refine TH_o hS (fun _ _ => rfl) (fun _ => rfl) fun v61 H qv61 hS => ?_
      refine TH_oN (l := b54.Queues) (d := nd_SInt) (m := nm_SInt) (p := np_SInt) (c := (AV.int .i64)) hS nc_SInt nh_SInt fun v63 d64 H qv63 qd64 hS => ?_
      have hS : Own _ (⟨v63, 1, ouw nm_SInt d64 b54.Queues⟩ :: ⟨v61, 1, b54.Quanta.map (AV.int .i64)⟩ :: ⟨.ptr ip41 wp41 0 0, 5, [.agg [v30, v32, v35, v37, .int .i64 b28.At]]⟩ :: ⟨v30, 1, b28.Quanta.map (AV.int .i64)⟩ :: ⟨v32, 1, ouw nm_SInt d34 b28.Queues⟩ :: ⟨v35, 1, b28.Credit.map (AV.int .i64)⟩ :: ⟨v37, 1, b28.Sent.map (AV.int .i64)⟩ :: ⟨v39, 1, b29.map (AV.int .i64)⟩ :: ⟨.ptr ip4 wp4 0 0, 5, [.agg [.nil, .nil, .nil, .nil, .int .i64 0]]⟩ :: ⟨.ptr ip2 wp2 0 0, 5, [.agg [.fz (a0.Quanta.map (AV.int .i64)), .fz (a0.Queues.map (fzl (AV.int .i64))), .fz (a0.Credit.map (AV.int .i64)), .fz (a0.Sent.map (AV.int .i64)), .int .i64 a0.At]]⟩ :: ((inn np_SInt (AV.int .i64) 1 d64 b54.Queues) ++ (((inn np_SInt (AV.int .i64) 1 d34 b28.Queues) ++ (F))))) := Own.catI_ (bl := [[⟨v63, 1, ouw nm_SInt d64 b54.Queues⟩], (inn np_SInt (AV.int .i64) 1 d64 b54.Queues), [⟨v61, 1, b54.Quanta.map (AV.int .i64)⟩], [⟨.ptr ip41 wp41 0 0, 5, [.agg [v30, v32, v35, v37, .int .i64 b28.At]]⟩], [⟨v30, 1, b28.Quanta.map (AV.int .i64)⟩], [⟨v32, 1, ouw nm_SInt d34 b28.Queues⟩], [⟨v35, 1, b28.Credit.map (AV.int .i64)⟩], [⟨v37, 1, b28.Sent.map (AV.int .i64)⟩], [⟨v39, 1, b29.map (AV.int .i64)⟩], [⟨.ptr ip4 wp4 0 0, 5, [.agg [.nil, .nil, .nil, .nil, .int .i64 0]]⟩], [⟨.ptr ip2 wp2 0 0, 5, [.agg [.fz (a0.Quanta.map (AV.int .i64)), .fz (a0.Queues.map (fzl (AV.int .i64))), .fz (a0.Credit.map (AV.int .i64)), .fz (a0.Sent.map (AV.int .i64)), .int .i64 a0.At]]⟩], (inn np_SInt (AV.int .i64) 1 d34 b28.Queues)]) (F := F) hS 12 rfl [0, 2, 3, 4, 5, 6, 7, 8, 9, 10, 1, 11] (by decide)
      refine TH_o hS (fun _ _ => rfl) (fun _ => rfl) fun v66 H qv66 hS => ?_
      refine TH_o hS (fun _ _ => rfl) (fun _ => rfl) fun v68 H qv68 hS => ?_
      refine TH_p (fun _ => rfl) ?_
      refine TH_n ?_
      refine TH_n ?_
      try simp only [List.headD_cons]
      try simp only [W]
      refine w_stv (a := .agg [v61, v63, v66, v68, .int .i64 b54.At]) (y' := .agg [v61, v63, v66, v68, .int .i64 b54.At]) 10 hS rfl rfl rfl rfl rfl (by simp only [storA, List.all_cons, List.all_nil, qv61.stor, qv63.stor, qv66.stor, qv68.stor]; rfl) rfl rfl fun H hS => ?_
      try simp only [W]
      refine seq_n hK53 ?_
      refine w_ret ?_
      refine fin_r hK0 (res_c rfl rfl (hS.var 10 rfl) rfl (res_tc rfl (res_tc rfl rfl))) ?_
      try obtain rfl := Option.some.inj h
      have hS : Own _ (⟨v61, 1, b54.Quanta.map (AV.int .i64)⟩ :: ⟨v63, 1, ouw nm_SInt d64 b54.Queues⟩ :: ⟨v66, 1, b54.Credit.map (AV.int .i64)⟩ :: ⟨v68, 1, b54.Sent.map (AV.int .i64)⟩ :: ⟨v39, 1, b29.map (AV.int .i64)⟩ :: ((inn np_SInt (AV.int .i64) 1 d64 b54.Queues) ++ (F))) := Own.catI_ (bl := [[⟨v68, 1, b54.Sent.map (AV.int .i64)⟩], [⟨v66, 1, b54.Credit.map (AV.int .i64)⟩], [⟨v63, 1, ouw nm_SInt d64 b54.Queues⟩], [⟨v61, 1, b54.Quanta.map (AV.int .i64)⟩], [⟨.ptr ip41 wp41 0 0, 5, [.agg [v30, v32, v35, v37, .int .i64 b28.At]]⟩], [⟨v30, 1, b28.Quanta.map (AV.int .i64)⟩], [⟨v32, 1, ouw nm_SInt d34 b28.Queues⟩], [⟨v35, 1, b28.Credit.map (AV.int .i64)⟩], [⟨v37, 1, b28.Sent.map (AV.int .i64)⟩], [⟨v39, 1, b29.map (AV.int .i64)⟩], [⟨.ptr ip4 wp4 0 0, 5, [.agg [v61, v63, v66, v68, .int .i64 b54.At]]⟩], [⟨.ptr ip2 wp2 0 0, 5, [.agg [.fz (a0.Quanta.map (AV.int .i64)), .fz (a0.Queues.map (fzl (AV.int .i64))), .fz (a0.Credit.map (AV.int .i64)), .fz (a0.Sent.map (AV.int .i64)), .int .i64 a0.At]]⟩], (inn np_SInt (AV.int .i64) 1 d64 b54.Queues), (inn np_SInt (AV.int .i64) 1 d34 b28.Queues)]) (F := F) hS 14 rfl [3, 2, 1, 0, 9, 12] (by decide)
      exact hP _ qv61 _ qv63 _ qd64 _ qv66 _ qv68 _ qv39 _ hS
theorem spec_l1Cur_turns_w {a0 : L1Cur} {i0 : Nat} {w0 : Nat} {r : (Turns × L1Cur)} (h : spec_l1Cur_turns a0 = some r) {F : List It} {H : Heap} (hS : Own H (⟨.ptr i0 w0 0 0, 3, [.agg [.fz (a0.Code.map (AV.int .u8)), .int .i64 a0.At, .int .u64 a0.Seed]]⟩ :: F)) {P : AV → Heap → Prop} (hP : ∀ v287 : AV, isSl v287 → ∀ v289 : AV, isSl v289 → ∀ d291 : List AV, isSls d291 (r.1.Queues).length → ∀ v292 : AV, isSl v292 → ∀ v294 : AV, isSl v294 → ∀ H', Own H' (⟨v287, 1, r.1.Quanta.map (AV.int .i64)⟩ :: ⟨v289, 1, ouw nm_SInt d291 r.1.Queues⟩ :: ⟨v292, 1, r.1.Credit.map (AV.int .i64)⟩ :: ⟨v294, 1, r.1.Sent.map (AV.int .i64)⟩ :: ⟨.ptr i0 w0 0 0, 3, [.agg [.fz (r.2.Code.map (AV.int .u8)), .int .i64 r.2.At, .int .u64 r.2.Seed]]⟩ :: ((inn np_SInt (AV.int .i64) 1 d291 r.1.Queues) ++ F)) → P (.agg [v287, v289, v292, v294, .int .i64 r.1.At]) H') : ACall C 186 [.ptr i0 w0 0 0] H P := by
  refine acall_of gC (res := [.cell 2 75]) (n := 78) rfl rfl rfl rfl fun K0 hK0 => ?_
  simp only [W, Nat.reduceSub, Nat.reduceAdd, List.replicate]
  unfold spec_l1Cur_turns at h
  refine w_seq fun K1 hK1 => ?_
  refine w_reg gC ?_
  try simp only [W, Nat.reduceAdd]
  refine w_alloc hS rfl rfl fun ip2 wp2 H hS => ?_
  try simp only [W]
  refine seq_n hK1 ?_
  refine w_seq fun K4 hK4 => ?_
  refine w_reg gC ?_
  try simp only [W, Nat.reduceAdd, Nat.reduceBEq, List.contains_cons, Nat.reduceBEq, Bool.or_self]
  refine w_call h fun b5 hb5 h => ?_
  obtain ⟨b6, b7⟩ := b5
  try dsimp only at h
  refine spec_l1Cur_quanta_w hb5 (hS.sel 2 [1, 0] (by decide)) fun v8 qv8 H hS => ?_
  try simp only [W]
  refine w_callO (rsh := [[.sl [.sc], .sl [.sl [.sc]], .sl [.sc], .sl [.sc], .sc], [.sc]]) (ys := [.fz (b6.map (AV.int .i64))]) h rfl (pv_c (sn_ow hS 0 rfl qv8 (fun _ => rfl)) pv_n) fun b10 hb10 h => ⟨.tup [.agg [.own 1 (b10.1.Quanta.map (AV.int .i64)), .own 1 (b10.1.Queues.map nd_SInt), .own 1 (b10.1.Credit.map (AV.int .i64)), .own 1 (b10.1.Sent.map (AV.int .i64)), .int .i64 b10.1.At], .bool b10.2], spec_NewTurns_w hb10 (Own.nil _) fun v13 qv13 v14 qv14 d15 qd15 v16 qv16 v17 qv17 H hS => TV_ok rfl (TV_a (TC_ow 0 hS rfl qv13 (fun _ _ => by simp [takeE, takeT, plainA]) fun H hS => TC_owN (d := nd_SInt) (Own.catI_ (bl := [[⟨v14, 1, ouw nm_SInt d15 b10.1.Queues⟩], [⟨v16, 1, b10.1.Credit.map (AV.int .i64)⟩], [⟨v17, 1, b10.1.Sent.map (AV.int .i64)⟩], (inn np_SInt (AV.int .i64) 1 d15 b10.1.Queues)]) (F := []) hS 4 rfl [0, 3, 1, 2] (by decide)) qv14 qd15 nt_SInt fun H hS => TC_ow 0 hS rfl qv16 (fun _ _ => by simp [takeE, takeT, plainA]) fun H hS => TC_ow 0 hS rfl qv17 (fun _ _ => by simp [takeE, takeT, plainA]) fun H hS => TC_sc rfl (TC_nil (TV_p rfl (TV_n rfl))))), (nf_t (nf_c (nf_a (nf_c (noFz_o _ (fun _ => rfl) _) (nf_c (noFz_o _ nf_SInt _) (nf_c (noFz_o _ (fun _ => rfl) _) (nf_c (noFz_o _ (fun _ => rfl) _) (nf_c rfl nf_n)))))) (nf_c rfl nf_n))), ?_⟩
  obtain ⟨b11, b12⟩ := b10
  try dsimp only at h
  dsimp only
  refine thaw_tup ?_
  refine TH_a ?_
  refine TH_o hS (fun _ _ => rfl) (fun _ => rfl) fun v19 H qv19 hS => ?_
  refine TH_oN (l := b11.Queues) (d := nd_SInt) (m := nm_SInt) (p := np_SInt) (c := (AV.int .i64)) hS nc_SInt nh_SInt fun v21 d22 H qv21 qd22 hS => ?_
  have hS : Own _ (⟨v21, 1, ouw nm_SInt d22 b11.Queues⟩ :: ⟨v19, 1, b11.Quanta.map (AV.int .i64)⟩ :: ⟨v8, 1, b6.map (AV.int .i64)⟩ :: ⟨.ptr i0 w0 0 0, 3, [.agg [.fz (b7.Code.map (AV.int .u8)), .int .i64 b7.At, .int .u64 b7.Seed]]⟩ :: ⟨.ptr ip2 wp2 0 0, 5, [.agg [.nil, .nil, .nil, .nil, .int .i64 0]]⟩ :: ((inn np_SInt (AV.int .i64) 1 d22 b11.Queues) ++ (F))) := Own.catI_ (bl := [[⟨v21, 1, ouw nm_SInt d22 b11.Queues⟩], (inn np_SInt (AV.int .i64) 1 d22 b11.Queues), [⟨v19, 1, b11.Quanta.map (AV.int .i64)⟩], [⟨v8, 1, b6.map (AV.int .i64)⟩], [⟨.ptr i0 w0 0 0, 3, [.agg [.fz (b7.Code.map (AV.int .u8)), .int .i64 b7.At, .int .u64 b7.Seed]]⟩], [⟨.ptr ip2 wp2 0 0, 5, [.agg [.nil, .nil, .nil, .nil, .int .i64 0]]⟩]]) (F := F) hS 6 rfl [0, 2, 3, 4, 5, 1] (by decide)
  refine TH_o hS (fun _ _ => rfl) (fun _ => rfl) fun v24 H qv24 hS => ?_
  refine TH_o hS (fun _ _ => rfl) (fun _ => rfl) fun v26 H qv26 hS => ?_
  refine TH_p (fun _ => rfl) ?_
  refine TH_n ?_
  refine TH_p (fun _ => rfl) ?_
  refine TH_n ?_
  try simp only [List.headD_cons]
  try simp only [W]
  refine w_alloc hS rfl rfl fun ip27 wp27 H hS => ?_
  try simp only [W]
  refine w_stv (a := .agg [v19, v21, v24, v26, .int .i64 b11.At]) (y' := .agg [v19, v21, v24, v26, .int .i64 b11.At]) 0 hS rfl rfl rfl rfl rfl (by simp only [storA, List.all_cons, List.all_nil, qv19.stor, qv21.stor, qv24.stor, qv26.stor]; rfl) rfl rfl fun H hS => ?_
  try simp only [W]
  refine seq_n hK4 ?_
  refine w_seq fun K29 hK29 => ?_
  refine w_seq fun K30 hK30 => ?_
  refine w_reg gC ?_
  try simp only [W, Nat.reduceAdd]
  refine seq_n hK30 ?_
  obtain ⟨y45, h, g46⟩ := Option.bind_eq_some_iff.1 h
  refine w_join gC (fun s H => ∃ x31 : List Int, ∃ x34 : List (List Int), ∃ x38 : List Int, ∃ x41 : List Int, ∃ x44 : Int, y45 = (x31, x34, x38, x41, x44) ∧ ∃ v32 : AV, isSl v32 ∧ ∃ v35 : AV, isSl v35 ∧ ∃ v39 : AV, isSl v39 ∧ ∃ v42 : AV, isSl v42 ∧ ∃ d37 : List AV, isSls d37 (x34).length ∧ s = (.ptr i0 w0 0 0 :: u :: .ptr ip2 wp2 0 0 :: .ptr ip27 wp27 0 0 :: u :: u :: u :: u :: u :: u :: u :: u :: u :: u :: u :: u :: u :: u :: u :: u :: u :: u :: u :: u :: u :: u :: u :: u :: u :: u :: u :: u :: u :: u :: u :: u :: u :: u :: u :: u :: u :: u :: u :: u :: u :: u :: u :: u :: u :: u :: u :: u :: u :: u :: u :: u :: u :: u :: u :: u :: u :: u :: u :: u :: u :: u :: u :: u :: u :: u :: u :: u :: u :: u :: u :: u :: u :: u :: []) ∧ Own H (⟨v32, 1, x31.map (AV.int .i64)⟩ :: ⟨v35, 1, ouw nm_SInt d37 x34⟩ :: ⟨v39, 1, x38.map (AV.int .i64)⟩ :: ⟨v42, 1, x41.map (AV.int .i64)⟩ :: ⟨.ptr i0 w0 0 0, 3, [.agg [.fz (b7.Code.map (AV.int .u8)), .int .i64 b7.At, .int .u64 b7.Seed]]⟩ :: ⟨.ptr ip2 wp2 0 0, 5, [.agg [.nil, .nil, .nil, .nil, .int .i64 0]]⟩ :: ⟨.ptr ip27 wp27 0 0, 5, [.agg [v32, v35, v39, v42, .int .i64 x44]]⟩ :: ((inn np_SInt (AV.int .i64) 1 d37 x34) ++ F))) (fun K47 hK47 => ?_) (fun s H hq => ?_)
  · refine w_seq fun K48 hK48 => ?_
    refine w_if ?_
    simp only [W]
    refine w_cnd h (fun hc h => ?_) (fun hc h => ?_)
    · refine w_reg gC ?_
      try simp only [W, Nat.reduceAdd, Nat.reduceBEq, List.contains_cons, Nat.reduceBEq, Bool.or_self]
      refine w_lit (el := ([20] : List Int).map (AV.int .i64)) hS rfl rfl rfl rfl rfl rfl rfl fun v49 H qv49 hS => ?_
      try simp only [W]
      have hS : Own _ (⟨v49, 1, ([20] : List Int).map (AV.int .i64)⟩ :: ⟨.ptr ip27 wp27 0 0, 5, [.agg [v19, v21, v24, v26, .int .i64 b11.At]]⟩ :: ⟨v26, 1, b11.Sent.map (AV.int .i64)⟩ :: ⟨v24, 1, b11.Credit.map (AV.int .i64)⟩ :: ⟨v21, 1, ouw nm_SInt d22 b11.Queues⟩ :: ⟨v19, 1, b11.Quanta.map (AV.int .i64)⟩ :: ⟨v8, 1, b6.map (AV.int .i64)⟩ :: ⟨.ptr i0 w0 0 0, 3, [.agg [.fz (b7.Code.map (AV.int .u8)), .int .i64 b7.At, .int .u64 b7.Seed]]⟩ :: ⟨.ptr ip2 wp2 0 0, 5, [.agg [.nil, .nil, .nil, .nil, .int .i64 0]]⟩ :: ((inn np_SInt (AV.int .i64) 1 d22 b11.Queues) ++ F)) := hS
      refine w_callO (rsh := [[.sl [.sc], .sl [.sl [.sc]], .sl [.sc], .sl [.sc], .sc], [.sc]]) (ys := [.fz (([20] : List Int).map (AV.int .i64))]) h rfl (pv_c (sn_ow hS 0 rfl qv49 (fun _ => rfl)) pv_n) fun b51 hb51 h => ⟨.tup [.agg [.own 1 (b51.1.Quanta.map (AV.int .i64)), .own 1 (b51.1.Queues.map nd_SInt), .own 1 (b51.1.Credit.map (AV.int .i64)), .own 1 (b51.1.Sent.map (AV.int .i64)), .int .i64 b51.1.At], .bool b51.2], spec_NewTurns_w hb51 (Own.nil _) fun v54 qv54 v55 qv55 d56 qd56 v57 qv57 v58 qv58 H hS => TV_ok rfl (TV_a (TC_ow 0 hS rfl qv54 (fun _ _ => by simp [takeE, takeT, plainA]) fun H hS => TC_owN (d := nd_SInt) (Own.catI_ (bl := [[⟨v55, 1, ouw nm_SInt d56 b51.1.Queues⟩], [⟨v57, 1, b51.1.Credit.map (AV.int .i64)⟩], [⟨v58, 1, b51.1.Sent.map (AV.int .i64)⟩], (inn np_SInt (AV.int .i64) 1 d56 b51.1.Queues)]) (F := []) hS 4 rfl [0, 3, 1, 2] (by decide)) qv55 qd56 nt_SInt fun H hS => TC_ow 0 hS rfl qv57 (fun _ _ => by simp [takeE, takeT, plainA]) fun H hS => TC_ow 0 hS rfl qv58 (fun _ _ => by simp [takeE, takeT, plainA]) fun H hS => TC_sc rfl (TC_nil (TV_p rfl (TV_n rfl))))), (nf_t (nf_c (nf_a (nf_c (noFz_o _ (fun _ => rfl) _) (nf_c (noFz_o _ nf_SInt _) (nf_c (noFz_o _ (fun _ => rfl) _) (nf_c (noFz_o _ (fun _ => rfl) _) (nf_c rfl nf_n)))))) (nf_c rfl nf_n))), ?_⟩
      obtain ⟨b52, b53⟩ := b51
      try dsimp only at h
      dsimp only
      refine thaw_tup ?_
      refine TH_a ?_
      refine TH_o hS (fun _ _ => rfl) (fun _ => rfl) fun v60 H qv60 hS => ?_
      refine TH_oN (l := b52.Queues) (d := nd_SInt) (m := nm_SInt) (p := np_SInt) (c := (AV.int .i64)) hS nc_SInt nh_SInt fun v62 d63 H qv62 qd63 hS => ?_
      have hS : Own _ (⟨v62, 1, ouw nm_SInt d63 b52.Queues⟩ :: ⟨v60, 1, b52.Quanta.map (AV.int .i64)⟩ :: ⟨v49, 1, ([20] : List Int).map (AV.int .i64)⟩ :: ⟨.ptr ip27 wp27 0 0, 5, [.agg [v19, v21, v24, v26, .int .i64 b11.At]]⟩ :: ⟨v26, 1, b11.Sent.map (AV.int .i64)⟩ :: ⟨v24, 1, b11.Credit.map (AV.int .i64)⟩ :: ⟨v21, 1, ouw nm_SInt d22 b11.Queues⟩ :: ⟨v19, 1, b11.Quanta.map (AV.int .i64)⟩ :: ⟨v8, 1, b6.map (AV.int .i64)⟩ :: ⟨.ptr i0 w0 0 0, 3, [.agg [.fz (b7.Code.map (AV.int .u8)), .int .i64 b7.At, .int .u64 b7.Seed]]⟩ :: ⟨.ptr ip2 wp2 0 0, 5, [.agg [.nil, .nil, .nil, .nil, .int .i64 0]]⟩ :: ((inn np_SInt (AV.int .i64) 1 d63 b52.Queues) ++ (((inn np_SInt (AV.int .i64) 1 d22 b11.Queues) ++ (F))))) := Own.catI_ (bl := [[⟨v62, 1, ouw nm_SInt d63 b52.Queues⟩], (inn np_SInt (AV.int .i64) 1 d63 b52.Queues), [⟨v60, 1, b52.Quanta.map (AV.int .i64)⟩], [⟨v49, 1, ([20] : List Int).map (AV.int .i64)⟩], [⟨.ptr ip27 wp27 0 0, 5, [.agg [v19, v21, v24, v26, .int .i64 b11.At]]⟩], [⟨v26, 1, b11.Sent.map (AV.int .i64)⟩], [⟨v24, 1, b11.Credit.map (AV.int .i64)⟩], [⟨v21, 1, ouw nm_SInt d22 b11.Queues⟩], [⟨v19, 1, b11.Quanta.map (AV.int .i64)⟩], [⟨v8, 1, b6.map (AV.int .i64)⟩], [⟨.ptr i0 w0 0 0, 3, [.agg [.fz (b7.Code.map (AV.int .u8)), .int .i64 b7.At, .int .u64 b7.Seed]]⟩], [⟨.ptr ip2 wp2 0 0, 5, [.agg [.nil, .nil, .nil, .nil, .int .i64 0]]⟩], (inn np_SInt (AV.int .i64) 1 d22 b11.Queues)]) (F := F) hS 13 rfl [0, 2, 3, 4, 5, 6, 7, 8, 9, 10, 11, 1, 12] (by decide)
      refine TH_o hS (fun _ _ => rfl) (fun _ => rfl) fun v65 H qv65 hS => ?_
      refine TH_o hS (fun _ _ => rfl) (fun _ => rfl) fun v67 H qv67 hS => ?_
      refine TH_p (fun _ => rfl) ?_
      refine TH_n ?_
      refine TH_p (fun _ => rfl) ?_
      refine TH_n ?_
      try simp only [List.headD_cons]
      try simp only [W]
      refine w_stv (a := .agg [v60, v62, v65, v67, .int .i64 b52.At]) (y' := .agg [v60, v62, v65, v67, .int .i64 b52.At]) 5 hS rfl rfl rfl rfl rfl (by simp only [storA, List.all_cons, List.all_nil, qv60.stor, qv62.stor, qv65.stor, qv67.stor]; rfl) rfl rfl fun H hS => ?_
      try simp only [W]
      refine seq_n hK48 ?_
      refine w_killE (s' := (.ptr i0 w0 0 0 :: u :: .ptr ip2 wp2 0 0 :: .ptr ip27 wp27 0 0 :: u :: u :: u :: u :: u :: u :: u :: u :: u :: u :: u :: u :: u :: u :: u :: u :: u :: u :: u :: u :: u :: u :: u :: u :: u :: u :: u :: u :: u :: u :: u :: u :: u :: u :: u :: u :: u :: u :: u :: u :: u :: u :: u :: u :: u :: u :: u :: u :: u :: u :: u :: u :: u :: u :: u :: u :: u :: u :: u :: u :: u :: u :: u :: u :: u :: u :: u :: u :: u :: u :: u :: u :: u :: u :: [])) rfl ?_
      have hS : Own _ (⟨v60, 1, b52.Quanta.map (AV.int .i64)⟩ :: ⟨v62, 1, ouw nm_SInt d63 b52.Queues⟩ :: ⟨v65, 1, b52.Credit.map (AV.int .i64)⟩ :: ⟨v67, 1, b52.Sent.map (AV.int .i64)⟩ :: ⟨.ptr i0 w0 0 0, 3, [.agg [.fz (b7.Code.map (AV.int .u8)), .int .i64 b7.At, .int .u64 b7.Seed]]⟩ :: ⟨.ptr ip2 wp2 0 0, 5, [.agg [.nil, .nil, .nil, .nil, .int .i64 0]]⟩ :: ⟨.ptr ip27 wp27 0 0, 5, [.agg [v60, v62, v65, v67, .int .i64 b52.At]]⟩ :: ((inn np_SInt (AV.int .i64) 1 d63 b52.Queues) ++ (F))) := Own.catI_ (bl := [[⟨v67, 1, b52.Sent.map (AV.int .i64)⟩], [⟨v65, 1, b52.Credit.map (AV.int .i64)⟩], [⟨v62, 1, ouw nm_SInt d63 b52.Queues⟩], [⟨v60, 1, b52.Quanta.map (AV.int .i64)⟩], [⟨v49, 1, ([20] : List Int).map (AV.int .i64)⟩], [⟨.ptr ip27 wp27 0 0, 5, [.agg [v60, v62, v65, v67, .int .i64 b52.At]]⟩], [⟨v26, 1, b11.Sent.map (AV.int .i64)⟩], [⟨v24, 1, b11.Credit.map (AV.int .i64)⟩], [⟨v21, 1, ouw nm_SInt d22 b11.Queues⟩], [⟨v19, 1, b11.Quanta.map (AV.int .i64)⟩], [⟨v8, 1, b6.map (AV.int .i64)⟩], [⟨.ptr i0 w0 0 0, 3, [.agg [.fz (b7.Code.map (AV.int .u8)), .int .i64 b7.At, .int .u64 b7.Seed]]⟩], [⟨.ptr ip2 wp2 0 0, 5, [.agg [.nil, .nil, .nil, .nil, .int .i64 0]]⟩], (inn np_SInt (AV.int .i64) 1 d63 b52.Queues), (inn np_SInt (AV.int .i64) 1 d22 b11.Queues)]) (F := F) hS 15 rfl [3, 2, 1, 0, 11, 12, 5, 13] (by decide)
      exact cut_n hK47 ⟨_, _, _, _, _, (Option.some.inj h).symm, _, qv60, _, qv62, _, qv65, _, qv67, _, qd63, rfl, hS⟩
    · refine w_skip ?_
      refine seq_n hK48 ?_
      refine w_killE (s' := (.ptr i0 w0 0 0 :: u :: .ptr ip2 wp2 0 0 :: .ptr ip27 wp27 0 0 :: u :: u :: u :: u :: u :: u :: u :: u :: u :: u :: u :: u :: u :: u :: u :: u :: u :: u :: u :: u :: u :: u :: u :: u :: u :: u :: u :: u :: u :: u :: u :: u :: u :: u :: u :: u :: u :: u :: u :: u :: u :: u :: u :: u :: u :: u :: u :: u :: u :: u :: u :: u :: u :: u :: u :: u :: u :: u :: u :: u :: u :: u :: u :: u :: u :: u :: u :: u :: u :: u :: u :: u :: u :: u :: [])) rfl ?_
      have hS : Own _ (⟨v19, 1, b11.Quanta.map (AV.int .i64)⟩ :: ⟨v21, 1, ouw nm_SInt d22 b11.Queues⟩ :: ⟨v24, 1, b11.Credit.map (AV.int .i64)⟩ :: ⟨v26, 1, b11.Sent.map (AV.int .i64)⟩ :: ⟨.ptr i0 w0 0 0, 3, [.agg [.fz (b7.Code.map (AV.int .u8)), .int .i64 b7.At, .int .u64 b7.Seed]]⟩ :: ⟨.ptr ip2 wp2 0 0, 5, [.agg [.nil, .nil, .nil, .nil, .int .i64 0]]⟩ :: ⟨.ptr ip27 wp27 0 0, 5, [.agg [v19, v21, v24, v26, .int .i64 b11.At]]⟩ :: ((inn np_SInt (AV.int .i64) 1 d22 b11.Queues) ++ (F))) := Own.catI_ (bl := [[⟨.ptr ip27 wp27 0 0, 5, [.agg [v19, v21, v24, v26, .int .i64 b11.At]]⟩], [⟨v26, 1, b11.Sent.map (AV.int .i64)⟩], [⟨v24, 1, b11.Credit.map (AV.int .i64)⟩], [⟨v21, 1, ouw nm_SInt d22 b11.Queues⟩], [⟨v19, 1, b11.Quanta.map (AV.int .i64)⟩], [⟨v8, 1, b6.map (AV.int .i64)⟩], [⟨.ptr i0 w0 0 0, 3, [.agg [.fz (b7.Code.map (AV.int .u8)), .int .i64 b7.At, .int .u64 b7.Seed]]⟩], [⟨.ptr ip2 wp2 0 0, 5, [.agg [.nil, .nil, .nil, .nil, .int .i64 0]]⟩], (inn np_SInt (AV.int .i64) 1 d22 b11.Queues)]) (F := F) hS 9 rfl [4, 3, 2, 1, 6, 7, 0, 8] (by decide)
      exact cut_n hK47 ⟨_, _, _, _, _, (Option.some.inj h).symm, _, qv19, _, qv21, _, qv24, _, qv26, _, qd22, rfl, hS⟩
  · obtain ⟨x31, x34, x38, x41, x44, rfl, v32, qv32, v35, qv35, v39, qv39, v42, qv42, d37, qd37, rfl, hS⟩ := hq
    replace h := g46
    try dsimp only at h
    refine seq_n hK29 ?_
    refine w_seq fun K68 hK68 => ?_
    refine w_seq fun K69 hK69 => ?_
    refine w_reg gC ?_
    try simp only [W, Nat.reduceAdd]
    refine w_call h fun b70 hb70 h => ?_
    obtain ⟨b71, b72⟩ := b70
    try dsimp only at h
    refine spec_l1Cur_pick_w hb70 (hS.sel 7 [4, 0, 1, 2, 3, 5, 6] (by decide)) fun H hS => ?_
    try simp only [W]
    refine seq_n hK69 ?_
    obtain ⟨y104, hw105, g111⟩ := Option.bind_eq_some_iff.1 h
    refine w_join gC (fun s H => ∃ x91 : List Int, ∃ x92 : Int, ∃ x93 : Int, ∃ x94 : List Int, ∃ x96 : List (List Int), ∃ x99 : List Int, ∃ x101 : List Int, ∃ x103 : Int, y104 = (x91, x92, x93, x94, x96, x99, x101, x103) ∧ ∃ v95 : AV, isSl v95 ∧ ∃ v97 : AV, isSl v97 ∧ ∃ v100 : AV, isSl v100 ∧ ∃ v102 : AV, isSl v102 ∧ ∃ d98 : List AV, isSls d98 (x96).length ∧ s = (.ptr i0 w0 0 0 :: u :: .ptr ip2 wp2 0 0 :: .ptr ip27 wp27 0 0 :: u :: u :: u :: u :: u :: u :: u :: u :: u :: u :: u :: u :: u :: u :: u :: u :: u :: u :: u :: u :: u :: u :: u :: u :: u :: u :: u :: u :: u :: u :: u :: u :: u :: u :: u :: u :: u :: u :: u :: u :: u :: u :: u :: u :: u :: u :: u :: u :: u :: u :: u :: u :: u :: u :: u :: u :: u :: u :: u :: u :: u :: u :: u :: u :: u :: u :: u :: u :: u :: u :: u :: u :: u :: u :: []) ∧ Own H (⟨v95, 1, x94.map (AV.int .i64)⟩ :: ⟨v97, 1, ouw nm_SInt d98 x96⟩ :: ⟨v100, 1, x99.map (AV.int .i64)⟩ :: ⟨v102, 1, x101.map (AV.int .i64)⟩ :: ⟨.ptr i0 w0 0 0, 3, [.agg [.fz (x91.map (AV.int .u8)), .int .i64 x92, .int .u64 x93]]⟩ :: ⟨.ptr ip2 wp2 0 0, 5, [.agg [.nil, .nil, .nil, .nil, .int .i64 0]]⟩ :: ⟨.ptr ip27 wp27 0 0, 5, [.agg [v95, v97, v100, v102, .int .i64 x103]]⟩ :: ((inn np_SInt (AV.int .i64) 1 d98 x96) ++ F))) (fun K106 hK106 => ?_) (fun s H hq => ?_)
    · refine w_blk fun K107 hK107 => ?_
      have hS : Own _ (⟨v32, 1, x31.map (AV.int .i64)⟩ :: ⟨v35, 1, ouw nm_SInt d37 x34⟩ :: ⟨v39, 1, x38.map (AV.int .i64)⟩ :: ⟨v42, 1, x41.map (AV.int .i64)⟩ :: ⟨.ptr i0 w0 0 0, 3, [.agg [.fz (b72.Code.map (AV.int .u8)), .int .i64 b72.At, .int .u64 b72.Seed]]⟩ :: ⟨.ptr ip2 wp2 0 0, 5, [.agg [.nil, .nil, .nil, .nil, .int .i64 0]]⟩ :: ⟨.ptr ip27 wp27 0 0, 5, [.agg [v32, v35, v39, v42, .int .i64 x44]]⟩ :: ((inn np_SInt (AV.int .i64) 1 d37 x34) ++ (F))) := Own.catI_ (bl := [[⟨.ptr i0 w0 0 0, 3, [.agg [.fz (b72.Code.map (AV.int .u8)), .int .i64 b72.At, .int .u64 b72.Seed]]⟩], [⟨v32, 1, x31.map (AV.int .i64)⟩], [⟨v35, 1, ouw nm_SInt d37 x34⟩], [⟨v39, 1, x38.map (AV.int .i64)⟩], [⟨v42, 1, x41.map (AV.int .i64)⟩], [⟨.ptr ip2 wp2 0 0, 5, [.agg [.nil, .nil, .nil, .nil, .int .i64 0]]⟩], [⟨.ptr ip27 wp27 0 0, 5, [.agg [v32, v35, v39, v42, .int .i64 x44]]⟩], (inn np_SInt (AV.int .i64) 1 d37 x34)]) (F := F) hS 8 rfl [1, 2, 3, 4, 0, 5, 6, 7] (by decide)
      refine w_loop gC hw105 (fun x s H => match x with | (x73, x74, x75, x76, x77, x80, x84, x87, x90) => ∃ v78 : AV, isSl v78 ∧ ∃ v81 : AV, isSl v81 ∧ ∃ v85 : AV, isSl v85 ∧ ∃ v88 : AV, isSl v88 ∧ ∃ d83 : List AV, isSls d83 (x80).length ∧ s = (.ptr i0 w0 0 0 :: u :: .ptr ip2 wp2 0 0 :: .ptr ip27 wp27 0 0 :: u :: .int .i64 x73 :: u :: u :: u :: u :: u :: u :: u :: u :: u :: u :: u :: u :: u :: u :: u :: u :: u :: u :: u :: u :: u :: u :: u :: u :: u :: u :: u :: u :: u :: u :: u :: u :: u :: u :: u :: u :: u :: u :: u :: u :: u :: u :: u :: u :: u :: u :: u :: u :: u :: u :: u :: u :: u :: u :: u :: u :: u :: u :: u :: u :: u :: u :: u :: u :: u :: u :: u :: u :: u :: u :: u :: u :: []) ∧ Own H (⟨v78, 1, x77.map (AV.int .i64)⟩ :: ⟨v81, 1, ouw nm_SInt d83 x80⟩ :: ⟨v85, 1, x84.map (AV.int .i64)⟩ :: ⟨v88, 1, x87.map (AV.int .i64)⟩ :: ⟨.ptr i0 w0 0 0, 3, [.agg [.fz (x74.map (AV.int .u8)), .int .i64 x75, .int .u64 x76]]⟩ :: ⟨.ptr ip2 wp2 0 0, 5, [.agg [.nil, .nil, .nil, .nil, .int .i64 0]]⟩ :: ⟨.ptr ip27 wp27 0 0, 5, [.agg [v78, v81, v85, v88, .int .i64 x90]]⟩ :: ((inn np_SInt (AV.int .i64) 1 d83 x80) ++ F))) ⟨_, qv32, _, qv35, _, qv39, _, qv42, _, qd37, rfl, hS⟩ (fun x y110 s H h hd109 hi K108 hK108 => ?_)
      obtain ⟨x73, x74, x75, x76, x77, x80, x84, x87, x90⟩ := x
      try dsimp only at hi
      obtain ⟨v78, qv78, v81, qv81, v85, qv85, v88, qv88, d83, qd83, rfl, hS⟩ := hi
      simp only [spec_l1Cur_turns_l0] at h
      refine w_seq fun K112 hK112 => ?_
      refine w_seq fun K113 hK113 => ?_
      refine w_reg gC ?_
      try simp only [W, EE, Nat.reduceAdd]
      refine seq_n hK113 ?_
      refine w_if ?_
      simp only [W]
      refine w_cnd h (fun hc h => ?_) (fun hc h => ?_)
      · refine w_skip ?_
        refine seq_n hK112 ?_
        refine w_seq fun K114 hK114 => ?_
        obtain ⟨y129, h, g130⟩ := Option.bind_eq_some_iff.1 h
        refine w_join gC (fun s H => ∃ x116 : List Int, ∃ x117 : Int, ∃ x118 : Int, ∃ x119 : List Int, ∃ x121 : List (List Int), ∃ x124 : List Int, ∃ x126 : List Int, ∃ x128 : Int, y129 = (x116, x117, x118, x119, x121, x124, x126, x128) ∧ ∃ v120 : AV, isSl v120 ∧ ∃ v122 : AV, isSl v122 ∧ ∃ v125 : AV, isSl v125 ∧ ∃ v127 : AV, isSl v127 ∧ ∃ d123 : List AV, isSls d123 (x121).length ∧ s = (.ptr i0 w0 0 0 :: u :: .ptr ip2 wp2 0 0 :: .ptr ip27 wp27 0 0 :: u :: .int .i64 x73 :: u :: u :: u :: u :: u :: u :: u :: u :: u :: u :: u :: u :: u :: u :: u :: u :: u :: u :: u :: u :: u :: u :: u :: u :: u :: u :: u :: u :: u :: u :: u :: u :: u :: u :: u :: u :: u :: u :: u :: u :: u :: u :: u :: u :: u :: u :: u :: u :: u :: u :: u :: u :: u :: u :: u :: u :: u :: u :: u :: u :: u :: u :: u :: u :: u :: u :: u :: u :: u :: u :: u :: u :: []) ∧ Own H (⟨v120, 1, x119.map (AV.int .i64)⟩ :: ⟨v122, 1, ouw nm_SInt d123 x121⟩ :: ⟨v125, 1, x124.map (AV.int .i64)⟩ :: ⟨v127, 1, x126.map (AV.int .i64)⟩ :: ⟨.ptr i0 w0 0 0, 3, [.agg [.fz (x116.map (AV.int .u8)), .int .i64 x117, .int .u64 x118]]⟩ :: ⟨.ptr ip2 wp2 0 0, 5, [.agg [.nil, .nil, .nil, .nil, .int .i64 0]]⟩ :: ⟨.ptr ip27 wp27 0 0, 5, [.agg [v120, v122, v125, v127, .int .i64 x128]]⟩ :: ((inn np_SInt (AV.int .i64) 1 d123 x121) ++ F))) (fun K131 hK131 => ?_) (fun s H hq => ?_)
        · refine w_blk fun K115 hK115 => ?_
          refine w_seq fun K132 hK132 => ?_
          refine w_seq fun K133 hK133 => ?_
          refine w_drawL gC [(6, [0, 5]), (7, [0]), (14, [12])] (by kernel_rfl) rfl (by kernel_rfl) ?_
          try simp only [W, EE, reduceIte, Nat.reduceAdd, Nat.reduceLeDiff, Nat.reduceBEq, hS.var 6 rfl, tabAt, qAt, Nat.reduceEqDiff, permL_d, pO_d, pO_o, pO_g, ren_c, Nat.reduceEqDiff, List.contains_cons, Nat.reduceBEq, Bool.or_self]
          refine w_lenN 1 hS rfl qv81 qd83 rfl ?_
          try simp only [W]
          refine w_call h fun b134 hb134 h => ?_
          obtain ⟨b135, b136⟩ := b134
          try dsimp only at h
          refine spec_l1Cur_pick_w hb134 (hS.sel 7 [4, 0, 1, 2, 3, 5, 6] (by decide)) fun H hS => ?_
          refine goK_late ?_
          refine lateG_s (by first | rfl | (simp [evalOp, W, EE, rdAt, mkT, subL, AV.cells, pO_o, hS.var 6 rfl]; done)) ?_
          refine lateG_s (by first | rfl | (simp [evalOp, W, EE, EN, rdAt, mkT, subL, AV.cells, pO_o, pO_d, pO_g, hS.var 0 rfl, hS.var 5 rfl, hS.var 6 rfl]; done)) ?_
          refine lateG_n ?_
          try simp only [W]
          refine w_call h fun b137 hb137 h => ?_
          obtain ⟨b138, b139⟩ := b137
          try dsimp only at h
          refine spec_l1Cur_pick_w hb137 hS fun H hS => ?_
          refine goK_late ?_
          refine lateG_s (by first | rfl | (simp [evalOp, W, EE, rdAt, mkT, subL, AV.cells, pO_o, hS.var 6 rfl]; done)) ?_
          refine lateG_n ?_
          try simp only [W, EE]
          have hS : Own _ (⟨.ptr i0 w0 0 0, 3, [.agg [.fz (b139.Code.map (AV.int .u8)), .int .i64 b139.At, .int .u64 b139.Seed]]⟩ :: ⟨v78, 1, x77.map (AV.int .i64)⟩ :: ⟨v81, 1, ouw nm_SInt d83 x80⟩ :: ⟨v85, 1, x84.map (AV.int .i64)⟩ :: ⟨v88, 1, x87.map (AV.int .i64)⟩ :: ⟨.ptr ip2 wp2 0 0, 5, [.agg [.nil, .nil, .nil, .nil, .int .i64 0]]⟩ :: ⟨.ptr ip27 wp27 0 0, 5, [.agg [v78, v81, v85, v88, .int .i64 x90]]⟩ :: ((inn np_SInt (AV.int .i64) 1 d83 x80) ++ F)) := hS
          refine w_callO (rsh := [[.sl [.sc], .sl [.sl [.sc]], .sl [.sc], .sl [.sc], .sc], [.sc]]) (ys := [.agg [.fz (x77.map (AV.int .i64)), .fz (x80.map (fzl (AV.int .i64))), .fz (x84.map (AV.int .i64)), .fz (x87.map (AV.int .i64)), .int .i64 x90], .int .i64 b135, .int .i64 (IntKind.i64.wrap (1 + b138))]) h rfl (pv_c (sn_agg (sm_c (sn_ow hS 1 rfl qv78 (fun _ => rfl)) (sm_c (sn_owN (enc := (fzl (AV.int .i64))) hS 2 rfl qv81 qd83 (fun _ h => (List.mem_cons_of_mem _ (List.mem_cons_of_mem _ (List.mem_cons_of_mem _ (List.mem_cons_of_mem _ (List.mem_cons_of_mem _ (List.mem_cons_of_mem _ (List.mem_cons_of_mem _ (List.mem_append_left _ h))))))))) (fun _ _ ha hk => sn_it hk ha (fun _ => rfl))) (sm_c (sn_ow hS 3 rfl qv85 (fun _ => rfl)) (sm_c (sn_ow hS 4 rfl qv88 (fun _ => rfl)) (sm_c rfl (sm_n _))))))) (pv_c rfl (pv_c rfl pv_n))) fun b140 hb140 h => ⟨.tup [.agg [.own 1 (b140.1.Quanta.map (AV.int .i64)), .own 1 (b140.1.Queues.map nd_SInt), .own 1 (b140.1.Credit.map (AV.int .i64)), .own 1 (b140.1.Sent.map (AV.int .i64)), .int .i64 b140.1.At], .bool b140.2], spec_PutPacket_w hb140 (Own.nil _) fun v143 qv143 v144 qv144 d145 qd145 v146 qv146 v147 qv147 H hS => TV_ok rfl (TV_a (TC_ow 0 hS rfl qv143 (fun _ _ => by simp [takeE, takeT, plainA]) fun H hS => TC_owN (d := nd_SInt) (Own.catI_ (bl := [[⟨v144, 1, ouw nm_SInt d145 b140.1.Queues⟩], [⟨v146, 1, b140.1.Credit.map (AV.int .i64)⟩], [⟨v147, 1, b140.1.Sent.map (AV.int .i64)⟩], (inn np_SInt (AV.int .i64) 1 d145 b140.1.Queues)]) (F := []) hS 4 rfl [0, 3, 1, 2] (by decide)) qv144 qd145 nt_SInt fun H hS => TC_ow 0 hS rfl qv146 (fun _ _ => by simp [takeE, takeT, plainA]) fun H hS => TC_ow 0 hS rfl qv147 (fun _ _ => by simp [takeE, takeT, plainA]) fun H hS => TC_sc rfl (TC_nil (TV_p rfl (TV_n rfl))))), (nf_t (nf_c (nf_a (nf_c (noFz_o _ (fun _ => rfl) _) (nf_c (noFz_o _ nf_SInt _) (nf_c (noFz_o _ (fun _ => rfl) _) (nf_c (noFz_o _ (fun _ => rfl) _) (nf_c rfl nf_n)))))) (nf_c rfl nf_n))), ?_⟩
          obtain ⟨b141, b142⟩ := b140
          try dsimp only at h
          dsimp only
          refine thaw_tup ?_
          refine TH_a ?_
          refine TH_o hS (fun _ _ => rfl) (fun _ => rfl) fun v149 H qv149 hS => ?_
          refine TH_oN (l := b141.Queues) (d := nd_SInt) (m := nm_SInt) (p := np_SInt) (c := (AV.int .i64)) hS nc_SInt nh_SInt fun v151 d152 H qv151 qd152 hS => ?_
          have hS : Own _ (⟨v151, 1, ouw nm_SInt d152 b141.Queues⟩ :: ⟨v149, 1, b141.Quanta.map (AV.int .i64)⟩ :: ⟨.ptr i0 w0 0 0, 3, [.agg [.fz (b139.Code.map (AV.int .u8)), .int .i64 b139.At, .int .u64 b139.Seed]]⟩ :: ⟨v78, 1, x77.map (AV.int .i64)⟩ :: ⟨v81, 1, ouw nm_SInt d83 x80⟩ :: ⟨v85, 1, x84.map (AV.int .i64)⟩ :: ⟨v88, 1, x87.map (AV.int .i64)⟩ :: ⟨.ptr ip2 wp2 0 0, 5, [.agg [.nil, .nil, .nil, .nil, .int .i64 0]]⟩ :: ⟨.ptr ip27 wp27 0 0, 5, [.agg [v78, v81, v85, v88, .int .i64 x90]]⟩ :: ((inn np_SInt (AV.int .i64) 1 d152 b141.Queues) ++ (((inn np_SInt (AV.int .i64) 1 d83 x80) ++ (F))))) := Own.catI_ (bl := [[⟨v151, 1, ouw nm_SInt d152 b141.Queues⟩], (inn np_SInt (AV.int .i64) 1 d152 b141.Queues), [⟨v149, 1, b141.Quanta.map (AV.int .i64)⟩], [⟨.ptr i0 w0 0 0, 3, [.agg [.fz (b139.Code.map (AV.int .u8)), .int .i64 b139.At, .int .u64 b139.Seed]]⟩], [⟨v78, 1, x77.map (AV.int .i64)⟩], [⟨v81, 1, ouw nm_SInt d83 x80⟩], [⟨v85, 1, x84.map (AV.int .i64)⟩], [⟨v88, 1, x87.map (AV.int .i64)⟩], [⟨.ptr ip2 wp2 0 0, 5, [.agg [.nil, .nil, .nil, .nil, .int .i64 0]]⟩], [⟨.ptr ip27 wp27 0 0, 5, [.agg [v78, v81, v85, v88, .int .i64 x90]]⟩], (inn np_SInt (AV.int .i64) 1 d83 x80)]) (F := F) hS 11 rfl [0, 2, 3, 4, 5, 6, 7, 8, 9, 1, 10] (by decide)
          refine TH_o hS (fun _ _ => rfl) (fun _ => rfl) fun v154 H qv154 hS => ?_
          refine TH_o hS (fun _ _ => rfl) (fun _ => rfl) fun v156 H qv156 hS => ?_
          refine TH_p (fun _ => rfl) ?_
          refine TH_n ?_
          refine TH_p (fun _ => rfl) ?_
          refine TH_n ?_
          try simp only [List.headD_cons]
          try simp only [W]
          refine w_alloc hS rfl rfl fun ip157 wp157 H hS => ?_
          try simp only [W]
          refine w_stv (a := .agg [v149, v151, v154, v156, .int .i64 b141.At]) (y' := .agg [v149, v151, v154, v156, .int .i64 b141.At]) 0 hS rfl rfl rfl rfl rfl (by simp only [storA, List.all_cons, List.all_nil, qv149.stor, qv151.stor, qv154.stor, qv156.stor]; rfl) rfl rfl fun H hS => ?_
          refine goK_late ?_
          refine lateG_s (by first | rfl | (simp [evalOp, W, EE, EN, rdAt, mkT, subL, AV.cells, pO_o, pO_d, pO_g, hS.var 0 rfl, hS.var 5 rfl, hS.var 10 rfl, hS.var 11 rfl]; done)) ?_
          refine lateG_n ?_
          try simp only [W]
          refine seq_n hK133 ?_
          refine w_seq fun K159 hK159 => ?_
          refine w_reg gC ?_
          try simp only [W, Nat.reduceAdd]
          refine seq_n hK159 ?_
          obtain ⟨y174, h, g175⟩ := Option.bind_eq_some_iff.1 h
          refine w_join gC (fun s H => ∃ x160 : List Int, ∃ x163 : List (List Int), ∃ x167 : List Int, ∃ x170 : List Int, ∃ x173 : Int, y174 = (x160, x163, x167, x170, x173) ∧ ∃ v161 : AV, isSl v161 ∧ ∃ v164 : AV, isSl v164 ∧ ∃ v168 : AV, isSl v168 ∧ ∃ v171 : AV, isSl v171 ∧ ∃ d166 : List AV, isSls d166 (x163).length ∧ s = (.ptr i0 w0 0 0 :: u :: .ptr ip2 wp2 0 0 :: .ptr ip27 wp27 0 0 :: u :: .int .i64 x73 :: u :: u :: u :: u :: u :: u :: u :: u :: u :: u :: u :: u :: u :: u :: u :: u :: u :: u :: u :: u :: u :: u :: u :: u :: u :: u :: u :: u :: u :: u :: u :: u :: u :: u :: u :: u :: u :: u :: u :: u :: u :: u :: u :: u :: u :: u :: u :: u :: u :: u :: u :: u :: u :: u :: u :: u :: u :: u :: u :: u :: u :: u :: u :: u :: u :: u :: u :: u :: u :: u :: u :: u :: []) ∧ Own H (⟨v161, 1, x160.map (AV.int .i64)⟩ :: ⟨v164, 1, ouw nm_SInt d166 x163⟩ :: ⟨v168, 1, x167.map (AV.int .i64)⟩ :: ⟨v171, 1, x170.map (AV.int .i64)⟩ :: ⟨.ptr i0 w0 0 0, 3, [.agg [.fz (b139.Code.map (AV.int .u8)), .int .i64 b139.At, .int .u64 b139.Seed]]⟩ :: ⟨.ptr ip2 wp2 0 0, 5, [.agg [.nil, .nil, .nil, .nil, .int .i64 0]]⟩ :: ⟨.ptr ip27 wp27 0 0, 5, [.agg [v161, v164, v168, v171, .int .i64 x173]]⟩ :: ((inn np_SInt (AV.int .i64) 1 d166 x163) ++ F))) (fun K176 hK176 => ?_) (fun s H hq => ?_)
          · refine w_seq fun K177 hK177 => ?_
            refine w_if ?_
            simp only [W]
            refine w_cnd h (fun hc h => ?_) (fun hc h => ?_)
            · refine w_reg gC ?_
              try simp only [W, EE, reduceIte, Nat.reduceAdd, Nat.reduceLeDiff, hS.var 0 rfl]
              refine w_stv (a := .agg [v149, v151, v154, v156, .int .i64 b141.At]) (y' := .agg [v149, v151, v154, v156, .int .i64 b141.At]) 11 hS rfl rfl rfl rfl rfl (by simp only [storA, List.all_cons, List.all_nil, qv149.stor, qv151.stor, qv154.stor, qv156.stor]; rfl) rfl rfl fun H hS => ?_
              try simp only [W]
              refine seq_n hK177 ?_
              refine w_killE (s' := (.ptr i0 w0 0 0 :: u :: .ptr ip2 wp2 0 0 :: .ptr ip27 wp27 0 0 :: u :: .int .i64 x73 :: u :: u :: u :: u :: u :: u :: u :: u :: u :: u :: u :: u :: u :: u :: u :: u :: u :: u :: u :: u :: u :: u :: u :: u :: u :: u :: u :: u :: u :: u :: u :: u :: u :: u :: u :: u :: u :: u :: u :: u :: u :: u :: u :: u :: u :: u :: u :: u :: u :: u :: u :: u :: u :: u :: u :: u :: u :: u :: u :: u :: u :: u :: u :: u :: u :: u :: u :: u :: u :: u :: u :: u :: [])) rfl ?_
              have hS : Own _ (⟨v149, 1, b141.Quanta.map (AV.int .i64)⟩ :: ⟨v151, 1, ouw nm_SInt d152 b141.Queues⟩ :: ⟨v154, 1, b141.Credit.map (AV.int .i64)⟩ :: ⟨v156, 1, b141.Sent.map (AV.int .i64)⟩ :: ⟨.ptr i0 w0 0 0, 3, [.agg [.fz (b139.Code.map (AV.int .u8)), .int .i64 b139.At, .int .u64 b139.Seed]]⟩ :: ⟨.ptr ip2 wp2 0 0, 5, [.agg [.nil, .nil, .nil, .nil, .int .i64 0]]⟩ :: ⟨.ptr ip27 wp27 0 0, 5, [.agg [v149, v151, v154, v156, .int .i64 b141.At]]⟩ :: ((inn np_SInt (AV.int .i64) 1 d152 b141.Queues) ++ (F))) := Own.catI_ (bl := [[⟨.ptr ip157 wp157 0 0, 5, [.agg [v149, v151, v154, v156, .int .i64 b141.At]]⟩], [⟨v156, 1, b141.Sent.map (AV.int .i64)⟩], [⟨v154, 1, b141.Credit.map (AV.int .i64)⟩], [⟨v151, 1, ouw nm_SInt d152 b141.Queues⟩], [⟨v149, 1, b141.Quanta.map (AV.int .i64)⟩], [⟨.ptr i0 w0 0 0, 3, [.agg [.fz (b139.Code.map (AV.int .u8)), .int .i64 b139.At, .int .u64 b139.Seed]]⟩], [⟨v78, 1, x77.map (AV.int .i64)⟩], [⟨v81, 1, ouw nm_SInt d83 x80⟩], [⟨v85, 1, x84.map (AV.int .i64)⟩], [⟨v88, 1, x87.map (AV.int .i64)⟩], [⟨.ptr ip2 wp2 0 0, 5, [.agg [.nil, .nil, .nil, .nil, .int .i64 0]]⟩], [⟨.ptr ip27 wp27 0 0, 5, [.agg [v149, v151, v154, v156, .int .i64 b141.At]]⟩], (inn np_SInt (AV.int .i64) 1 d152 b141.Queues), (inn np_SInt (AV.int .i64) 1 d83 x80)]) (F := F) hS 14 rfl [4, 3, 2, 1, 5, 10, 11, 12] (by decide)
              exact cut_n hK176 ⟨_, _, _, _, _, (Option.some.inj h).symm, _, qv149, _, qv151, _, qv154, _, qv156, _, qd152, rfl, hS⟩
            · refine w_skip ?_
              refine seq_n hK177 ?_
              refine w_killE (s' := (.ptr i0 w0 0 0 :: u :: .ptr ip2 wp2 0 0 :: .ptr ip27 wp27 0 0 :: u :: .int .i64 x73 :: u :: u :: u :: u :: u :: u :: u :: u :: u :: u :: u :: u :: u :: u :: u :: u :: u :: u :: u :: u :: u :: u :: u :: u :: u :: u :: u :: u :: u :: u :: u :: u :: u :: u :: u :: u :: u :: u :: u :: u :: u :: u :: u :: u :: u :: u :: u :: u :: u :: u :: u :: u :: u :: u :: u :: u :: u :: u :: u :: u :: u :: u :: u :: u :: u :: u :: u :: u :: u :: u :: u :: u :: [])) rfl ?_
              have hS : Own _ (⟨v78, 1, x77.map (AV.int .i64)⟩ :: ⟨v81, 1, ouw nm_SInt d83 x80⟩ :: ⟨v85, 1, x84.map (AV.int .i64)⟩ :: ⟨v88, 1, x87.map (AV.int .i64)⟩ :: ⟨.ptr i0 w0 0 0, 3, [.agg [.fz (b139.Code.map (AV.int .u8)), .int .i64 b139.At, .int .u64 b139.Seed]]⟩ :: ⟨.ptr ip2 wp2 0 0, 5, [.agg [.nil, .nil, .nil, .nil, .int .i64 0]]⟩ :: ⟨.ptr ip27 wp27 0 0, 5, [.agg [v78, v81, v85, v88, .int .i64 x90]]⟩ :: ((inn np_SInt (AV.int .i64) 1 d83 x80) ++ (F))) := Own.catI_ (bl := [[⟨.ptr ip157 wp157 0 0, 5, [.agg [v149, v151, v154, v156, .int .i64 b141.At]]⟩], [⟨v156, 1, b141.Sent.map (AV.int .i64)⟩], [⟨v154, 1, b141.Credit.map (AV.int .i64)⟩], [⟨v151, 1, ouw nm_SInt d152 b141.Queues⟩], [⟨v149, 1, b141.Quanta.map (AV.int .i64)⟩], [⟨.ptr i0 w0 0 0, 3, [.agg [.fz (b139.Code.map (AV.int .u8)), .int .i64 b139.At, .int .u64 b139.Seed]]⟩], [⟨v78, 1, x77.map (AV.int .i64)⟩], [⟨v81, 1, ouw nm_SInt d83 x80⟩], [⟨v85, 1, x84.map (AV.int .i64)⟩], [⟨v88, 1, x87.map (AV.int .i64)⟩], [⟨.ptr ip2 wp2 0 0, 5, [.agg [.nil, .nil, .nil, .nil, .int .i64 0]]⟩], [⟨.ptr ip27 wp27 0 0, 5, [.agg [v78, v81, v85, v88, .int .i64 x90]]⟩], (inn np_SInt (AV.int .i64) 1 d152 b141.Queues), (inn np_SInt (AV.int .i64) 1 d83 x80)]) (F := F) hS 14 rfl [6, 7, 8, 9, 5, 10, 11, 13] (by decide)
              exact cut_n hK176 ⟨_, _, _, _, _, (Option.some.inj h).symm, _, qv78, _, qv81, _, qv85, _, qv88, _, qd83, rfl, hS⟩
          · obtain ⟨x160, x163, x167, x170, x173, rfl, v161, qv161, v164, qv164, v168, qv168, v171, qv171, d166, qd166, rfl, hS⟩ := hq
            replace h := g175
            try dsimp only at h
            refine seq_n hK132 ?_
            refine w_seq fun K178 hK178 => ?_
            refine w_reg gC ?_
            try simp only [W, EE, reduceIte, Nat.reduceAdd, Nat.reduceLeDiff, Nat.reduceBEq, hS.var 6 rfl, List.contains_cons, Nat.reduceBEq, Bool.or_self]
            have hS : Own _ (⟨v161, 1, x160.map (AV.int .i64)⟩ :: ⟨v164, 1, ouw nm_SInt d166 x163⟩ :: ⟨v168, 1, x167.map (AV.int .i64)⟩ :: ⟨v171, 1, x170.map (AV.int .i64)⟩ :: ⟨.ptr i0 w0 0 0, 3, [.agg [.fz (b139.Code.map (AV.int .u8)), .int .i64 b139.At, .int .u64 b139.Seed]]⟩ :: ⟨.ptr ip2 wp2 0 0, 5, [.agg [.nil, .nil, .nil, .nil, .int .i64 0]]⟩ :: ⟨.ptr ip27 wp27 0 0, 5, [.agg [v161, v164, v168, v171, .int .i64 x173]]⟩ :: ((inn np_SInt (AV.int .i64) 1 d166 x163) ++ F)) := hS
            refine w_callO (rsh := [[.sl [.sc], .sl [.sl [.sc]], .sl [.sc], .sl [.sc], .sc], [.sl [.sc]], [.sc]]) (ys := [.agg [.fz (x160.map (AV.int .i64)), .fz (x163.map (fzl (AV.int .i64))), .fz (x167.map (AV.int .i64)), .fz (x170.map (AV.int .i64)), .int .i64 x173]]) h rfl (pv_c (sn_agg (sm_c (sn_ow hS 0 rfl qv161 (fun _ => rfl)) (sm_c (sn_owN (enc := (fzl (AV.int .i64))) hS 1 rfl qv164 qd166 (fun _ h => (List.mem_cons_of_mem _ (List.mem_cons_of_mem _ (List.mem_cons_of_mem _ (List.mem_cons_of_mem _ (List.mem_cons_of_mem _ (List.mem_cons_of_mem _ (List.mem_cons_of_mem _ (List.mem_append_left _ h))))))))) (fun _ _ ha hk => sn_it hk ha (fun _ => rfl))) (sm_c (sn_ow hS 2 rfl qv168 (fun _ => rfl)) (sm_c (sn_ow hS 3 rfl qv171 (fun _ => rfl)) (sm_c rfl (sm_n _))))))) pv_n) fun b179 hb179 h => ⟨.tup [.agg [.own 1 (b179.1.Quanta.map (AV.int .i64)), .own 1 (b179.1.Queues.map nd_SInt), .own 1 (b179.1.Credit.map (AV.int .i64)), .own 1 (b179.1.Sent.map (AV.int .i64)), .int .i64 b179.1.At], .own 1 (b179.2.1.map (AV.int .i64)), .bool b179.2.2], spec_NextTurn_w hb179 (Own.nil _) fun v183 qv183 v184 qv184 d185 qd185 v186 qv186 v187 qv187 v188 qv188 H hS => TV_ok rfl (TV_a (TC_ow 0 hS rfl qv183 (fun _ _ => by simp [takeE, takeT, plainA]) fun H hS => TC_owN (d := nd_SInt) (Own.catI_ (bl := [[⟨v184, 1, ouw nm_SInt d185 b179.1.Queues⟩], [⟨v186, 1, b179.1.Credit.map (AV.int .i64)⟩], [⟨v187, 1, b179.1.Sent.map (AV.int .i64)⟩], [⟨v188, 1, b179.2.1.map (AV.int .i64)⟩], (inn np_SInt (AV.int .i64) 1 d185 b179.1.Queues)]) (F := []) hS 5 rfl [0, 4, 1, 2, 3] (by decide)) qv184 qd185 nt_SInt fun H hS => TC_ow 0 hS rfl qv186 (fun _ _ => by simp [takeE, takeT, plainA]) fun H hS => TC_ow 0 hS rfl qv187 (fun _ _ => by simp [takeE, takeT, plainA]) fun H hS => TC_sc rfl (TC_nil (TV_o 0 hS rfl qv188 (fun _ _ => by simp [takeE, takeT, plainA]) fun H hS => TV_p rfl (TV_n rfl))))), (nf_t (nf_c (nf_a (nf_c (noFz_o _ (fun _ => rfl) _) (nf_c (noFz_o _ nf_SInt _) (nf_c (noFz_o _ (fun _ => rfl) _) (nf_c (noFz_o _ (fun _ => rfl) _) (nf_c rfl nf_n)))))) (nf_c (noFz_o _ (fun _ => rfl) _) (nf_c rfl nf_n)))), ?_⟩
            obtain ⟨b180, b181, b182⟩ := b179
            try dsimp only at h
            dsimp only
            refine thaw_tup ?_
            refine TH_a ?_
            refine TH_o hS (fun _ _ => rfl) (fun _ => rfl) fun v190 H qv190 hS => ?_
            refine TH_oN (l := b180.Queues) (d := nd_SInt) (m := nm_SInt) (p := np_SInt) (c := (AV.int .i64)) hS nc_SInt nh_SInt fun v192 d193 H qv192 qd193 hS => ?_
            have hS : Own _ (⟨v192, 1, ouw nm_SInt d193 b180.Queues⟩ :: ⟨v190, 1, b180.Quanta.map (AV.int .i64)⟩ :: ⟨v161, 1, x160.map (AV.int .i64)⟩ :: ⟨v164, 1, ouw nm_SInt d166 x163⟩ :: ⟨v168, 1, x167.map (AV.int .i64)⟩ :: ⟨v171, 1, x170.map (AV.int .i64)⟩ :: ⟨.ptr i0 w0 0 0, 3, [.agg [.fz (b139.Code.map (AV.int .u8)), .int .i64 b139.At, .int .u64 b139.Seed]]⟩ :: ⟨.ptr ip2 wp2 0 0, 5, [.agg [.nil, .nil, .nil, .nil, .int .i64 0]]⟩ :: ⟨.ptr ip27 wp27 0 0, 5, [.agg [v161, v164, v168, v171, .int .i64 x173]]⟩ :: ((inn np_SInt (AV.int .i64) 1 d193 b180.Queues) ++ (((inn np_SInt (AV.int .i64) 1 d166 x163) ++ (F))))) := Own.catI_ (bl := [[⟨v192, 1, ouw nm_SInt d193 b180.Queues⟩], (inn np_SInt (AV.int .i64) 1 d193 b180.Queues), [⟨v190, 1, b180.Quanta.map (AV.int .i64)⟩], [⟨v161, 1, x160.map (AV.int .i64)⟩], [⟨v164, 1, ouw nm_SInt d166 x163⟩], [⟨v168, 1, x167.map (AV.int .i64)⟩], [⟨v171, 1, x170.map (AV.int .i64)⟩], [⟨.ptr i0 w0 0 0, 3, [.agg [.fz (b139.Code.map (AV.int .u8)), .int .i64 b139.At, .int .u64 b139.Seed]]⟩], [⟨.ptr ip2 wp2 0 0, 5, [.agg [.nil, .nil, .nil, .nil, .int .i64 0]]⟩], [⟨.ptr ip27 wp27 0 0, 5, [.agg [v161, v164, v168, v171, .int .i64 x173]]⟩], (inn np_SInt (AV.int .i64) 1 d166 x163)]) (F := F) hS 11 rfl [0, 2, 3, 4, 5, 6, 7, 8, 9, 1, 10] (by decide)
            refine TH_o hS (fun _ _ => rfl) (fun _ => rfl) fun v195 H qv195 hS => ?_
            refine TH_o hS (fun _ _ => rfl) (fun _ => rfl) fun v197 H qv197 hS => ?_
            refine TH_p (fun _ => rfl) ?_
            refine TH_n ?_
            refine TH_o hS (fun _ _ => rfl) (fun _ => rfl) fun v199 H qv199 hS => ?_
            refine TH_p (fun _ => rfl) ?_
            refine TH_n ?_
            try simp only [List.headD_cons]
            try simp only [W]
            refine w_alloc hS rfl rfl fun ip200 wp200 H hS => ?_
            try simp only [W]
            refine w_stv (a := .agg [v190, v192, v195, v197, .int .i64 b180.At]) (y' := .agg [v190, v192, v195, v197, .int .i64 b180.At]) 0 hS rfl rfl rfl rfl rfl (by simp only [storA, List.all_cons, List.all_nil, qv190.stor, qv192.stor, qv195.stor, qv197.stor]; rfl) rfl rfl fun H hS => ?_
            try simp only [W]
            refine seq_n hK178 ?_
            refine w_seq fun K202 hK202 => ?_
            obtain ⟨y207, h, g208⟩ := Option.bind_eq_some_iff.1 h
            refine w_join gC (fun s H => ∃ x203 : Bool, ∃ x204 : List Int, ∃ x205 : Int, ∃ x206 : Int, y207 = (x203, x204, x205, x206) ∧ s = (.ptr i0 w0 0 0 :: u :: .ptr ip2 wp2 0 0 :: .ptr ip27 wp27 0 0 :: u :: .int .i64 x73 :: u :: u :: .ptr ip200 wp200 0 0 :: u :: u :: u :: u :: u :: u :: u :: u :: u :: u :: u :: u :: u :: u :: u :: u :: u :: u :: u :: u :: u :: u :: u :: u :: u :: u :: u :: u :: u :: u :: u :: u :: u :: u :: u :: u :: u :: u :: u :: u :: u :: u :: u :: u :: u :: u :: .bool x203 :: u :: u :: u :: u :: u :: u :: u :: u :: u :: u :: u :: u :: u :: u :: u :: u :: u :: u :: u :: u :: u :: u :: []) ∧ Own H (⟨v161, 1, x160.map (AV.int .i64)⟩ :: ⟨v164, 1, ouw nm_SInt d166 x163⟩ :: ⟨v168, 1, x167.map (AV.int .i64)⟩ :: ⟨v171, 1, x170.map (AV.int .i64)⟩ :: ⟨v190, 1, b180.Quanta.map (AV.int .i64)⟩ :: ⟨v192, 1, ouw nm_SInt d193 b180.Queues⟩ :: ⟨v195, 1, b180.Credit.map (AV.int .i64)⟩ :: ⟨v197, 1, b180.Sent.map (AV.int .i64)⟩ :: ⟨.ptr i0 w0 0 0, 3, [.agg [.fz (x204.map (AV.int .u8)), .int .i64 x205, .int .u64 x206]]⟩ :: ⟨.ptr ip2 wp2 0 0, 5, [.agg [.nil, .nil, .nil, .nil, .int .i64 0]]⟩ :: ⟨.ptr ip27 wp27 0 0, 5, [.agg [v161, v164, v168, v171, .int .i64 x173]]⟩ :: ⟨.ptr ip200 wp200 0 0, 5, [.agg [v190, v192, v195, v197, .int .i64 b180.At]]⟩ :: ((inn np_SInt (AV.int .i64) 1 d166 x163) ++ ((inn np_SInt (AV.int .i64) 1 d193 b180.Queues) ++ F)))) (fun K209 hK209 => ?_) (fun s H hq => ?_)
            · refine w_seq fun K210 hK210 => ?_
              refine w_reg gC ?_
              try simp only [W, Nat.reduceAdd]
              refine w_grdT h (fun hc h => ?_) (fun hc h => ?_)
              · try simp only [W, hc]
                refine w_call h fun b211 hb211 h => ?_
                obtain ⟨b212, b213⟩ := b211
                try dsimp only at h
                refine spec_l1Cur_one_w hb211 (hS.sel 13 [10, 0, 1, 2, 3, 4, 5, 6, 7, 8, 9, 11, 12] (by decide)) fun H hS => ?_
                try simp only [W, reduceIte]
                refine seq_n hK210 ?_
                refine w_killE (s' := (.ptr i0 w0 0 0 :: u :: .ptr ip2 wp2 0 0 :: .ptr ip27 wp27 0 0 :: u :: .int .i64 x73 :: u :: u :: .ptr ip200 wp200 0 0 :: u :: u :: u :: u :: u :: u :: u :: u :: u :: u :: u :: u :: u :: u :: u :: u :: u :: u :: u :: u :: u :: u :: u :: u :: u :: u :: u :: u :: u :: u :: u :: u :: u :: u :: u :: u :: u :: u :: u :: u :: u :: u :: u :: u :: u :: u :: .bool b212 :: u :: u :: u :: u :: u :: u :: u :: u :: u :: u :: u :: u :: u :: u :: u :: u :: u :: u :: u :: u :: u :: u :: [])) rfl ?_
                have hS : Own _ (⟨v161, 1, x160.map (AV.int .i64)⟩ :: ⟨v164, 1, ouw nm_SInt d166 x163⟩ :: ⟨v168, 1, x167.map (AV.int .i64)⟩ :: ⟨v171, 1, x170.map (AV.int .i64)⟩ :: ⟨v190, 1, b180.Quanta.map (AV.int .i64)⟩ :: ⟨v192, 1, ouw nm_SInt d193 b180.Queues⟩ :: ⟨v195, 1, b180.Credit.map (AV.int .i64)⟩ :: ⟨v197, 1, b180.Sent.map (AV.int .i64)⟩ :: ⟨.ptr i0 w0 0 0, 3, [.agg [.fz (b213.Code.map (AV.int .u8)), .int .i64 b213.At, .int .u64 b213.Seed]]⟩ :: ⟨.ptr ip2 wp2 0 0, 5, [.agg [.nil, .nil, .nil, .nil, .int .i64 0]]⟩ :: ⟨.ptr ip27 wp27 0 0, 5, [.agg [v161, v164, v168, v171, .int .i64 x173]]⟩ :: ⟨.ptr ip200 wp200 0 0, 5, [.agg [v190, v192, v195, v197, .int .i64 b180.At]]⟩ :: ((inn np_SInt (AV.int .i64) 1 d166 x163) ++ (((inn np_SInt (AV.int .i64) 1 d193 b180.Queues) ++ (F))))) := Own.catI_ (bl := [[⟨.ptr i0 w0 0 0, 3, [.agg [.fz (b213.Code.map (AV.int .u8)), .int .i64 b213.At, .int .u64 b213.Seed]]⟩], [⟨.ptr ip200 wp200 0 0, 5, [.agg [v190, v192, v195, v197, .int .i64 b180.At]]⟩], [⟨v199, 1, b181.map (AV.int .i64)⟩], [⟨v197, 1, b180.Sent.map (AV.int .i64)⟩], [⟨v195, 1, b180.Credit.map (AV.int .i64)⟩], [⟨v192, 1, ouw nm_SInt d193 b180.Queues⟩], [⟨v190, 1, b180.Quanta.map (AV.int .i64)⟩], [⟨v161, 1, x160.map (AV.int .i64)⟩], [⟨v164, 1, ouw nm_SInt d166 x163⟩], [⟨v168, 1, x167.map (AV.int .i64)⟩], [⟨v171, 1, x170.map (AV.int .i64)⟩], [⟨.ptr ip2 wp2 0 0, 5, [.agg [.nil, .nil, .nil, .nil, .int .i64 0]]⟩], [⟨.ptr ip27 wp27 0 0, 5, [.agg [v161, v164, v168, v171, .int .i64 x173]]⟩], (inn np_SInt (AV.int .i64) 1 d193 b180.Queues), (inn np_SInt (AV.int .i64) 1 d166 x163)]) (F := F) hS 15 rfl [7, 8, 9, 10, 6, 5, 4, 3, 0, 11, 12, 1, 14, 13] (by decide)
                exact cut_n hK209 ⟨_, _, _, _, (Option.some.inj h).symm, rfl, hS⟩
              · try simp only [W, hc]
                refine seq_n hK210 ?_
                refine w_killE (s' := (.ptr i0 w0 0 0 :: u :: .ptr ip2 wp2 0 0 :: .ptr ip27 wp27 0 0 :: u :: .int .i64 x73 :: u :: u :: .ptr ip200 wp200 0 0 :: u :: u :: u :: u :: u :: u :: u :: u :: u :: u :: u :: u :: u :: u :: u :: u :: u :: u :: u :: u :: u :: u :: u :: u :: u :: u :: u :: u :: u :: u :: u :: u :: u :: u :: u :: u :: u :: u :: u :: u :: u :: u :: u :: u :: u :: u :: .bool false :: u :: u :: u :: u :: u :: u :: u :: u :: u :: u :: u :: u :: u :: u :: u :: u :: u :: u :: u :: u :: u :: u :: [])) rfl ?_
                have hS : Own _ (⟨v161, 1, x160.map (AV.int .i64)⟩ :: ⟨v164, 1, ouw nm_SInt d166 x163⟩ :: ⟨v168, 1, x167.map (AV.int .i64)⟩ :: ⟨v171, 1, x170.map (AV.int .i64)⟩ :: ⟨v190, 1, b180.Quanta.map (AV.int .i64)⟩ :: ⟨v192, 1, ouw nm_SInt d193 b180.Queues⟩ :: ⟨v195, 1, b180.Credit.map (AV.int .i64)⟩ :: ⟨v197, 1, b180.Sent.map (AV.int .i64)⟩ :: ⟨.ptr i0 w0 0 0, 3, [.agg [.fz (b139.Code.map (AV.int .u8)), .int .i64 b139.At, .int .u64 b139.Seed]]⟩ :: ⟨.ptr ip2 wp2 0 0, 5, [.agg [.nil, .nil, .nil, .nil, .int .i64 0]]⟩ :: ⟨.ptr ip27 wp27 0 0, 5, [.agg [v161, v164, v168, v171, .int .i64 x173]]⟩ :: ⟨.ptr ip200 wp200 0 0, 5, [.agg [v190, v192, v195, v197, .int .i64 b180.At]]⟩ :: ((inn np_SInt (AV.int .i64) 1 d166 x163) ++ (((inn np_SInt (AV.int .i64) 1 d193 b180.Queues) ++ (F))))) := Own.catI_ (bl := [[⟨.ptr ip200 wp200 0 0, 5, [.agg [v190, v192, v195, v197, .int .i64 b180.At]]⟩], [⟨v199, 1, b181.map (AV.int .i64)⟩], [⟨v197, 1, b180.Sent.map (AV.int .i64)⟩], [⟨v195, 1, b180.Credit.map (AV.int .i64)⟩], [⟨v192, 1, ouw nm_SInt d193 b180.Queues⟩], [⟨v190, 1, b180.Quanta.map (AV.int .i64)⟩], [⟨v161, 1, x160.map (AV.int .i64)⟩], [⟨v164, 1, ouw nm_SInt d166 x163⟩], [⟨v168, 1, x167.map (AV.int .i64)⟩], [⟨v171, 1, x170.map (AV.int .i64)⟩], [⟨.ptr i0 w0 0 0, 3, [.agg [.fz (b139.Code.map (AV.int .u8)), .int .i64 b139.At, .int .u64 b139.Seed]]⟩], [⟨.ptr ip2 wp2 0 0, 5, [.agg [.nil, .nil, .nil, .nil, .int .i64 0]]⟩], [⟨.ptr ip27 wp27 0 0, 5, [.agg [v161, v164, v168, v171, .int .i64 x173]]⟩], (inn np_SInt (AV.int .i64) 1 d193 b180.Queues), (inn np_SInt (AV.int .i64) 1 d166 x163)]) (F := F) hS 15 rfl [6, 7, 8, 9, 5, 4, 3, 2, 10, 11, 12, 0, 14, 13] (by decide)
                exact cut_n hK209 ⟨_, _, _, _, (Option.some.inj h).symm, rfl, hS⟩
            · obtain ⟨x203, x204, x205, x206, rfl, rfl, hS⟩ := hq
              replace h := g208
              try dsimp only at h
              refine seq_n hK202 ?_
              obtain ⟨y228, h, g229⟩ := Option.bind_eq_some_iff.1 h
              refine w_join gC (fun s H => ∃ x214 : List Int, ∃ x217 : List (List Int), ∃ x221 : List Int, ∃ x224 : List Int, ∃ x227 : Int, y228 = (x214, x217, x221, x224, x227) ∧ ∃ v215 : AV, isSl v215 ∧ ∃ v218 : AV, isSl v218 ∧ ∃ v222 : AV, isSl v222 ∧ ∃ v225 : AV, isSl v225 ∧ ∃ d220 : List AV, isSls d220 (x217).length ∧ s = (.ptr i0 w0 0 0 :: u :: .ptr ip2 wp2 0 0 :: .ptr ip27 wp27 0 0 :: u :: .int .i64 x73 :: u :: u :: u :: u :: u :: u :: u :: u :: u :: u :: u :: u :: u :: u :: u :: u :: u :: u :: u :: u :: u :: u :: u :: u :: u :: u :: u :: u :: u :: u :: u :: u :: u :: u :: u :: u :: u :: u :: u :: u :: u :: u :: u :: u :: u :: u :: u :: u :: u :: u :: u :: u :: u :: u :: u :: u :: u :: u :: u :: u :: u :: u :: u :: u :: u :: u :: u :: u :: u :: u :: u :: u :: []) ∧ Own H (⟨v215, 1, x214.map (AV.int .i64)⟩ :: ⟨v218, 1, ouw nm_SInt d220 x217⟩ :: ⟨v222, 1, x221.map (AV.int .i64)⟩ :: ⟨v225, 1, x224.map (AV.int .i64)⟩ :: ⟨.ptr i0 w0 0 0, 3, [.agg [.fz (x204.map (AV.int .u8)), .int .i64 x205, .int .u64 x206]]⟩ :: ⟨.ptr ip2 wp2 0 0, 5, [.agg [.nil, .nil, .nil, .nil, .int .i64 0]]⟩ :: ⟨.ptr ip27 wp27 0 0, 5, [.agg [v215, v218, v222, v225, .int .i64 x227]]⟩ :: ((inn np_SInt (AV.int .i64) 1 d220 x217) ++ F))) (fun K230 hK230 => ?_) (fun s H hq => ?_)
              · refine w_seq fun K231 hK231 => ?_
                refine w_if ?_
                simp only [W]
                refine w_cnd h (fun hc h => ?_) (fun hc h => ?_)
                · refine w_reg gC ?_
                  try simp only [W, EE, reduceIte, Nat.reduceAdd, Nat.reduceLeDiff, hS.var 11 rfl]
                  refine w_stv (a := .agg [v190, v192, v195, v197, .int .i64 b180.At]) (y' := .agg [v190, v192, v195, v197, .int .i64 b180.At]) 10 hS rfl rfl rfl rfl rfl (by simp only [storA, List.all_cons, List.all_nil, qv190.stor, qv192.stor, qv195.stor, qv197.stor]; rfl) rfl rfl fun H hS => ?_
                  try simp only [W]
                  refine seq_n hK231 ?_
                  refine w_killE (s' := (.ptr i0 w0 0 0 :: u :: .ptr ip2 wp2 0 0 :: .ptr ip27 wp27 0 0 :: u :: .int .i64 x73 :: u :: u :: u :: u :: u :: u :: u :: u :: u :: u :: u :: u :: u :: u :: u :: u :: u :: u :: u :: u :: u :: u :: u :: u :: u :: u :: u :: u :: u :: u :: u :: u :: u :: u :: u :: u :: u :: u :: u :: u :: u :: u :: u :: u :: u :: u :: u :: u :: u :: u :: u :: u :: u :: u :: u :: u :: u :: u :: u :: u :: u :: u :: u :: u :: u :: u :: u :: u :: u :: u :: u :: u :: [])) rfl ?_
                  have hS : Own _ (⟨v190, 1, b180.Quanta.map (AV.int .i64)⟩ :: ⟨v192, 1, ouw nm_SInt d193 b180.Queues⟩ :: ⟨v195, 1, b180.Credit.map (AV.int .i64)⟩ :: ⟨v197, 1, b180.Sent.map (AV.int .i64)⟩ :: ⟨.ptr i0 w0 0 0, 3, [.agg [.fz (x204.map (AV.int .u8)), .int .i64 x205, .int .u64 x206]]⟩ :: ⟨.ptr ip2 wp2 0 0, 5, [.agg [.nil, .nil, .nil, .nil, .int .i64 0]]⟩ :: ⟨.ptr ip27 wp27 0 0, 5, [.agg [v190, v192, v195, v197, .int .i64 b180.At]]⟩ :: ((inn np_SInt (AV.int .i64) 1 d193 b180.Queues) ++ (F))) := Own.catI_ (bl := [[⟨v161, 1, x160.map (AV.int .i64)⟩], [⟨v164, 1, ouw nm_SInt d166 x163⟩], [⟨v168, 1, x167.map (AV.int .i64)⟩], [⟨v171, 1, x170.map (AV.int .i64)⟩], [⟨v190, 1, b180.Quanta.map (AV.int .i64)⟩], [⟨v192, 1, ouw nm_SInt d193 b180.Queues⟩], [⟨v195, 1, b180.Credit.map (AV.int .i64)⟩], [⟨v197, 1, b180.Sent.map (AV.int .i64)⟩], [⟨.ptr i0 w0 0 0, 3, [.agg [.fz (x204.map (AV.int .u8)), .int .i64 x205, .int .u64 x206]]⟩], [⟨.ptr ip2 wp2 0 0, 5, [.agg [.nil, .nil, .nil, .nil, .int .i64 0]]⟩], [⟨.ptr ip27 wp27 0 0, 5, [.agg [v190, v192, v195, v197, .int .i64 b180.At]]⟩], [⟨.ptr ip200 wp200 0 0, 5, [.agg [v190, v192, v195, v197, .int .i64 b180.At]]⟩], (inn np_SInt (AV.int .i64) 1 d166 x163), (inn np_SInt (AV.int .i64) 1 d193 b180.Queues)]) (F := F) hS 14 rfl [4, 5, 6, 7, 8, 9, 10, 13] (by decide)
                  exact cut_n hK230 ⟨_, _, _, _, _, (Option.some.inj h).symm, _, qv190, _, qv192, _, qv195, _, qv197, _, qd193, rfl, hS⟩
                · refine w_skip ?_
                  refine seq_n hK231 ?_
                  refine w_killE (s' := (.ptr i0 w0 0 0 :: u :: .ptr ip2 wp2 0 0 :: .ptr ip27 wp27 0 0 :: u :: .int .i64 x73 :: u :: u :: u :: u :: u :: u :: u :: u :: u :: u :: u :: u :: u :: u :: u :: u :: u :: u :: u :: u :: u :: u :: u :: u :: u :: u :: u :: u :: u :: u :: u :: u :: u :: u :: u :: u :: u :: u :: u :: u :: u :: u :: u :: u :: u :: u :: u :: u :: u :: u :: u :: u :: u :: u :: u :: u :: u :: u :: u :: u :: u :: u :: u :: u :: u :: u :: u :: u :: u :: u :: u :: u :: [])) rfl ?_
                  have hS : Own _ (⟨v161, 1, x160.map (AV.int .i64)⟩ :: ⟨v164, 1, ouw nm_SInt d166 x163⟩ :: ⟨v168, 1, x167.map (AV.int .i64)⟩ :: ⟨v171, 1, x170.map (AV.int .i64)⟩ :: ⟨.ptr i0 w0 0 0, 3, [.agg [.fz (x204.map (AV.int .u8)), .int .i64 x205, .int .u64 x206]]⟩ :: ⟨.ptr ip2 wp2 0 0, 5, [.agg [.nil, .nil, .nil, .nil, .int .i64 0]]⟩ :: ⟨.ptr ip27 wp27 0 0, 5, [.agg [v161, v164, v168, v171, .int .i64 x173]]⟩ :: ((inn np_SInt (AV.int .i64) 1 d166 x163) ++ (F))) := Own.catI_ (bl := [[⟨v161, 1, x160.map (AV.int .i64)⟩], [⟨v164, 1, ouw nm_SInt d166 x163⟩], [⟨v168, 1, x167.map (AV.int .i64)⟩], [⟨v171, 1, x170.map (AV.int .i64)⟩], [⟨v190, 1, b180.Quanta.map (AV.int .i64)⟩], [⟨v192, 1, ouw nm_SInt d193 b180.Queues⟩], [⟨v195, 1, b180.Credit.map (AV.int .i64)⟩], [⟨v197, 1, b180.Sent.map (AV.int .i64)⟩], [⟨.ptr i0 w0 0 0, 3, [.agg [.fz (x204.map (AV.int .u8)), .int .i64 x205, .int .u64 x206]]⟩], [⟨.ptr ip2 wp2 0 0, 5, [.agg [.nil, .nil, .nil, .nil, .int .i64 0]]⟩], [⟨.ptr ip27 wp27 0 0, 5, [.agg [v161, v164, v168, v171, .int .i64 x173]]⟩], [⟨.ptr ip200 wp200 0 0, 5, [.agg [v190, v192, v195, v197, .int .i64 b180.At]]⟩], (inn np_SInt (AV.int .i64) 1 d166 x163), (inn np_SInt (AV.int .i64) 1 d193 b180.Queues)]) (F := F) hS 14 rfl [0, 1, 2, 3, 8, 9, 10, 12] (by decide)
                  exact cut_n hK230 ⟨_, _, _, _, _, (Option.some.inj h).symm, _, qv161, _, qv164, _, qv168, _, qv171, _, qd166, rfl, hS⟩
              · obtain ⟨x214, x217, x221, x224, x227, rfl, v215, qv215, v218, qv218, v222, qv222, v225, qv225, d220, qd220, rfl, hS⟩ := hq
                replace h := g229
                try dsimp only at h
                refine blk_n hK115 ?_
                exact cut_n hK131 ⟨_, _, _, _, _, _, _, _, (Option.some.inj h).symm, _, qv215, _, qv218, _, qv222, _, qv225, _, qd220, rfl, hS⟩
        · obtain ⟨x116, x117, x118, x119, x121, x124, x126, x128, rfl, v120, qv120, v122, qv122, v125, qv125, v127, qv127, d123, qd123, rfl, hS⟩ := hq
          replace h := g130
          try dsimp only at h
          refine seq_n hK114 ?_
          refine w_reg gC ?_
          try simp only [W, EE, Nat.reduceAdd]
          exact lp_n hK108 h ⟨_, qv120, _, qv122, _, qv125, _, qv127, _, qd123, rfl, hS⟩
      · refine w_exit ?_
        refine seq_x hK112 ?_
        try obtain rfl := Option.some.inj h
        obtain rfl := hd109 _ rfl
        have h : (some (x74, x75, x76, x77, x80, x84, x87, x90) : Option ((List Int) × Int × Int × (List Int) × (List (List Int)) × (List Int) × (List Int) × Int)) = some (x74, x75, x76, x77, x80, x84, x87, x90) := rfl
        refine lp_x hK108 ?_
        refine blk_e hK107 ?_
        exact cut_n hK106 ⟨_, _, _, _, _, _, _, _, (Option.some.inj h).symm, _, qv78, _, qv81, _, qv85, _, qv88, _, qd83, rfl, hS⟩
    · obtain ⟨x91, x92, x93, x94, x96, x99, x101, x103, rfl, v95, qv95, v97, qv97, v100, qv100, v102, qv102, d98, qd98, rfl, hS⟩ := hq
      replace h := g111
      try dsimp only at h
      refine seq_n hK68 ?_
      refine w_seq fun K234 hK234 => ?_
      refine w_seq fun K235 hK235 => ?_
      refine w_reg gC ?_
      try simp only [W, Nat.reduceAdd]
      refine w_call h fun b236 hb236 h => ?_
      obtain ⟨b237, b238⟩ := b236
      try dsimp only at h
      refine spec_l1Cur_pick_w hb236 (hS.sel 7 [4, 0, 1, 2, 3, 5, 6] (by decide)) fun H hS => ?_
      try simp only [W]
      refine seq_n hK235 ?_
      obtain ⟨y246, h, g247⟩ := Option.bind_eq_some_iff.1 h
      refine w_join gC (fun s H => ∃ x240 : List Int, ∃ x241 : Int, ∃ x242 : Int, ∃ x243 : List Int, ∃ x244 : List Int, ∃ x245 : Int, y246 = (x240, x241, x242, x243, x244, x245) ∧ s = (u :: u :: .ptr ip2 wp2 0 0 :: .ptr ip27 wp27 0 0 :: u :: u :: u :: u :: u :: u :: u :: u :: u :: u :: u :: u :: u :: u :: u :: u :: u :: u :: u :: u :: u :: u :: u :: u :: u :: u :: u :: u :: u :: u :: u :: u :: u :: u :: u :: u :: u :: u :: u :: u :: u :: u :: u :: u :: u :: u :: u :: u :: u :: u :: u :: u :: u :: u :: u :: u :: u :: u :: u :: u :: u :: u :: u :: u :: u :: u :: u :: u :: u :: u :: u :: u :: u :: u :: []) ∧ Own H (⟨v95, 1, x94.map (AV.int .i64)⟩ :: ⟨v97, 1, ouw nm_SInt d98 x96⟩ :: ⟨v100, 1, x243.map (AV.int .i64)⟩ :: ⟨v102, 1, x244.map (AV.int .i64)⟩ :: ⟨.ptr i0 w0 0 0, 3, [.agg [.fz (x240.map (AV.int .u8)), .int .i64 x241, .int .u64 x242]]⟩ :: ⟨.ptr ip2 wp2 0 0, 5, [.agg [.nil, .nil, .nil, .nil, .int .i64 0]]⟩ :: ⟨.ptr ip27 wp27 0 0, 5, [.agg [v95, v97, v100, v102, .int .i64 x245]]⟩ :: ((inn np_SInt (AV.int .i64) 1 d98 x96) ++ F))) (fun K248 hK248 => ?_) (fun s H hq => ?_)
      · refine w_blk fun K239 hK239 => ?_
        refine w_seq fun K249 hK249 => ?_
        refine w_reg gC ?_
        try simp only [W, EE, Nat.reduceAdd]
        refine seq_n hK249 ?_
        obtain ⟨y256, h, g257⟩ := Option.bind_eq_some_iff.1 h
        refine w_join gC (fun s H => ∃ x250 : List Int, ∃ x251 : Int, ∃ x252 : Int, ∃ x253 : List Int, ∃ x254 : List Int, ∃ x255 : Int, y256 = (x250, x251, x252, x253, x254, x255) ∧ s = (u :: u :: .ptr ip2 wp2 0 0 :: .ptr ip27 wp27 0 0 :: u :: u :: u :: u :: u :: u :: u :: u :: u :: u :: u :: u :: u :: u :: u :: u :: u :: u :: u :: u :: u :: u :: u :: u :: u :: u :: u :: u :: u :: u :: u :: u :: u :: u :: u :: u :: u :: u :: u :: u :: u :: u :: u :: u :: u :: u :: u :: u :: u :: u :: u :: u :: u :: u :: u :: u :: u :: u :: u :: u :: u :: u :: u :: u :: u :: u :: u :: u :: u :: u :: u :: u :: u :: u :: []) ∧ Own H (⟨v95, 1, x94.map (AV.int .i64)⟩ :: ⟨v97, 1, ouw nm_SInt d98 x96⟩ :: ⟨v100, 1, x253.map (AV.int .i64)⟩ :: ⟨v102, 1, x254.map (AV.int .i64)⟩ :: ⟨.ptr i0 w0 0 0, 3, [.agg [.fz (x250.map (AV.int .u8)), .int .i64 x251, .int .u64 x252]]⟩ :: ⟨.ptr ip2 wp2 0 0, 5, [.agg [.nil, .nil, .nil, .nil, .int .i64 0]]⟩ :: ⟨.ptr ip27 wp27 0 0, 5, [.agg [v95, v97, v100, v102, .int .i64 x255]]⟩ :: ((inn np_SInt (AV.int .i64) 1 d98 x96) ++ F))) (fun K258 hK258 => ?_) (fun s H hq => ?_)
        · refine w_seq fun K259 hK259 => ?_
          refine w_if ?_
          simp only [W]
          refine w_cnd h (fun hc h => ?_) (fun hc h => ?_)
          · refine w_reg gC ?_
            try simp only [W, Nat.reduceAdd]
            refine w_call h fun b260 hb260 h => ?_
            obtain ⟨b261, b262⟩ := b260
            try dsimp only at h
            refine spec_l1Cur_pick_w hb260 hS fun H hS => ?_
            try simp only [W, EE, Nat.reduceAdd, Nat.reduceBEq, hS.var 6 rfl]
            refine w_stv (a := .int .i64 (IntKind.i64.wrap (b261 - 1))) (y' := .agg [v95, v97, v100, v102, .int .i64 (IntKind.i64.wrap (b261 - 1))]) 6 hS rfl rfl rfl rfl rfl rfl rfl rfl fun H hS => ?_
            try simp only [W]
            refine seq_n hK259 ?_
            refine w_killE (s' := (u :: u :: .ptr ip2 wp2 0 0 :: .ptr ip27 wp27 0 0 :: u :: u :: u :: u :: u :: u :: u :: u :: u :: u :: u :: u :: u :: u :: u :: u :: u :: u :: u :: u :: u :: u :: u :: u :: u :: u :: u :: u :: u :: u :: u :: u :: u :: u :: u :: u :: u :: u :: u :: u :: u :: u :: u :: u :: u :: u :: u :: u :: u :: u :: u :: u :: u :: u :: u :: u :: u :: u :: u :: u :: u :: u :: u :: u :: u :: u :: u :: u :: u :: u :: u :: u :: u :: u :: [])) rfl ?_
            have hS : Own _ (⟨v95, 1, x94.map (AV.int .i64)⟩ :: ⟨v97, 1, ouw nm_SInt d98 x96⟩ :: ⟨v100, 1, x99.map (AV.int .i64)⟩ :: ⟨v102, 1, x101.map (AV.int .i64)⟩ :: ⟨.ptr i0 w0 0 0, 3, [.agg [.fz (b262.Code.map (AV.int .u8)), .int .i64 b262.At, .int .u64 b262.Seed]]⟩ :: ⟨.ptr ip2 wp2 0 0, 5, [.agg [.nil, .nil, .nil, .nil, .int .i64 0]]⟩ :: ⟨.ptr ip27 wp27 0 0, 5, [.agg [v95, v97, v100, v102, .int .i64 (IntKind.i64.wrap (b261 - 1))]]⟩ :: ((inn np_SInt (AV.int .i64) 1 d98 x96) ++ (F))) := Own.catI_ (bl := [[⟨.ptr i0 w0 0 0, 3, [.agg [.fz (b262.Code.map (AV.int .u8)), .int .i64 b262.At, .int .u64 b262.Seed]]⟩], [⟨v95, 1, x94.map (AV.int .i64)⟩], [⟨v97, 1, ouw nm_SInt d98 x96⟩], [⟨v100, 1, x99.map (AV.int .i64)⟩], [⟨v102, 1, x101.map (AV.int .i64)⟩], [⟨.ptr ip2 wp2 0 0, 5, [.agg [.nil, .nil, .nil, .nil, .int .i64 0]]⟩], [⟨.ptr ip27 wp27 0 0, 5, [.agg [v95, v97, v100, v102, .int .i64 (IntKind.i64.wrap (b261 - 1))]]⟩], (inn np_SInt (AV.int .i64) 1 d98 x96)]) (F := F) hS 8 rfl [1, 2, 3, 4, 0, 5, 6, 7] (by decide)
            exact cut_n hK258 ⟨_, _, _, _, _, _, (Option.some.inj h).symm, rfl, hS⟩
          · refine w_seq fun K263 hK263 => ?_
            refine w_reg gC ?_
            try simp only [W, EE, Nat.reduceAdd]
            refine seq_n hK263 ?_
            obtain ⟨y269, h, g270⟩ := Option.bind_eq_some_iff.1 h
            refine w_join gC (fun s H => ∃ x264 : List Int, ∃ x265 : Int, ∃ x266 : Int, ∃ x267 : List Int, ∃ x268 : List Int, y269 = (x264, x265, x266, x267, x268) ∧ s = (u :: u :: .ptr ip2 wp2 0 0 :: .ptr ip27 wp27 0 0 :: u :: u :: u :: u :: u :: u :: u :: u :: u :: u :: u :: u :: u :: u :: u :: u :: u :: u :: u :: u :: u :: u :: u :: u :: u :: u :: u :: u :: u :: u :: u :: u :: u :: u :: u :: u :: u :: u :: u :: u :: u :: u :: u :: u :: u :: u :: u :: u :: u :: u :: u :: u :: u :: u :: u :: u :: u :: u :: u :: u :: u :: u :: u :: u :: u :: u :: u :: u :: u :: u :: u :: u :: u :: u :: []) ∧ Own H (⟨v95, 1, x94.map (AV.int .i64)⟩ :: ⟨v97, 1, ouw nm_SInt d98 x96⟩ :: ⟨v100, 1, x267.map (AV.int .i64)⟩ :: ⟨v102, 1, x268.map (AV.int .i64)⟩ :: ⟨.ptr i0 w0 0 0, 3, [.agg [.fz (x264.map (AV.int .u8)), .int .i64 x265, .int .u64 x266]]⟩ :: ⟨.ptr ip2 wp2 0 0, 5, [.agg [.nil, .nil, .nil, .nil, .int .i64 0]]⟩ :: ⟨.ptr ip27 wp27 0 0, 5, [.agg [v95, v97, v100, v102, .int .i64 x103]]⟩ :: ((inn np_SInt (AV.int .i64) 1 d98 x96) ++ F))) (fun K271 hK271 => ?_) (fun s H hq => ?_)
            · refine w_seq fun K272 hK272 => ?_
              refine w_if ?_
              simp only [W]
              refine w_cnd h (fun hc h => ?_) (fun hc h => ?_)
              · refine w_drawL gC [(3, [0, 1]), (5, [])] (by kernel_rfl) rfl (by kernel_rfl) ?_
                try simp only [W, EE, reduceIte, Nat.reduceAdd, Nat.reduceBEq, hS.var 6 rfl, tabAt, qAt, Nat.reduceEqDiff]
                refine w_call h fun b273 hb273 h => ?_
                obtain ⟨b274, b275⟩ := b273
                try dsimp only at h
                refine spec_l1Cur_pick_w hb273 hS fun H hS => ?_
                refine goK_late ?_
                refine lateG_s (by first | rfl | (simp [evalOp, W, EE, hS.var 6 rfl]; done)) ?_
                refine lateG_s (by first | rfl | (simp [evalOp, W, EE, rdAt, mkT, subL, AV.cells, hS.var 6 rfl]; done)) ?_
                refine lateG_n ?_
                try simp only [W, EE]
                refine w_ow 3 hS rfl rfl rfl rfl rfl h (fun b276 in277 wn277 on277 hb276 h en277 => ?_) qv100.ne
                obtain ⟨kn277, hbn277, hen277⟩ := hS.elem 3 rfl en277 hb276
                try simp only [W]
                refine w_ste (a := .int .i64 b274) (y' := b274) 3 hS rfl en277 hb276 rfl rfl rfl rfl rfl rfl rfl fun H hS => ?_
                try simp only [W]
                refine seq_n hK272 ?_
                refine w_killE (s' := (u :: u :: .ptr ip2 wp2 0 0 :: .ptr ip27 wp27 0 0 :: u :: u :: u :: u :: u :: u :: u :: u :: u :: u :: u :: u :: u :: u :: u :: u :: u :: u :: u :: u :: u :: u :: u :: u :: u :: u :: u :: u :: u :: u :: u :: u :: u :: u :: u :: u :: u :: u :: u :: u :: u :: u :: u :: u :: u :: u :: u :: u :: u :: u :: u :: u :: u :: u :: u :: u :: u :: u :: u :: u :: u :: u :: u :: u :: u :: u :: u :: u :: u :: u :: u :: u :: u :: u :: [])) rfl ?_
                have hS : Own _ (⟨v95, 1, x94.map (AV.int .i64)⟩ :: ⟨v97, 1, ouw nm_SInt d98 x96⟩ :: ⟨v100, 1, (x99.set (0 : Int).toNat b274).map (AV.int .i64)⟩ :: ⟨v102, 1, x101.map (AV.int .i64)⟩ :: ⟨.ptr i0 w0 0 0, 3, [.agg [.fz (b275.Code.map (AV.int .u8)), .int .i64 b275.At, .int .u64 b275.Seed]]⟩ :: ⟨.ptr ip2 wp2 0 0, 5, [.agg [.nil, .nil, .nil, .nil, .int .i64 0]]⟩ :: ⟨.ptr ip27 wp27 0 0, 5, [.agg [v95, v97, v100, v102, .int .i64 x103]]⟩ :: ((inn np_SInt (AV.int .i64) 1 d98 x96) ++ (F))) := Own.catI_ (bl := [[⟨.ptr i0 w0 0 0, 3, [.agg [.fz (b275.Code.map (AV.int .u8)), .int .i64 b275.At, .int .u64 b275.Seed]]⟩], [⟨v95, 1, x94.map (AV.int .i64)⟩], [⟨v97, 1, ouw nm_SInt d98 x96⟩], [⟨v100, 1, (x99.set (0 : Int).toNat b274).map (AV.int .i64)⟩], [⟨v102, 1, x101.map (AV.int .i64)⟩], [⟨.ptr ip2 wp2 0 0, 5, [.agg [.nil, .nil, .nil, .nil, .int .i64 0]]⟩], [⟨.ptr ip27 wp27 0 0, 5, [.agg [v95, v97, v100, v102, .int .i64 x103]]⟩], (inn np_SInt (AV.int .i64) 1 d98 x96)]) (F := F) hS 8 rfl [1, 2, 3, 4, 0, 5, 6, 7] (by decide)
                exact cut_n hK271 ⟨_, _, _, _, _, (Option.some.inj h).symm, rfl, hS⟩
              · refine w_seq fun K278 hK278 => ?_
                refine w_reg gC ?_
                try simp only [W, EE, Nat.reduceAdd]
                refine seq_n hK278 ?_
                obtain ⟨y280, h, g281⟩ := Option.bind_eq_some_iff.1 h
                refine w_join gC (fun s H => ∃ x279 : List Int, y280 = (x279) ∧ s = (u :: u :: .ptr ip2 wp2 0 0 :: .ptr ip27 wp27 0 0 :: u :: u :: u :: u :: u :: u :: u :: u :: u :: u :: u :: u :: u :: u :: u :: u :: u :: u :: u :: u :: u :: u :: u :: u :: u :: u :: u :: u :: u :: u :: u :: u :: u :: u :: u :: u :: u :: u :: u :: u :: u :: u :: u :: u :: u :: u :: u :: u :: u :: u :: u :: u :: u :: u :: u :: u :: u :: u :: u :: u :: u :: u :: u :: u :: u :: u :: u :: u :: u :: u :: u :: u :: u :: u :: []) ∧ Own H (⟨v95, 1, x94.map (AV.int .i64)⟩ :: ⟨v97, 1, ouw nm_SInt d98 x96⟩ :: ⟨v100, 1, x99.map (AV.int .i64)⟩ :: ⟨v102, 1, x279.map (AV.int .i64)⟩ :: ⟨.ptr i0 w0 0 0, 3, [.agg [.fz (b238.Code.map (AV.int .u8)), .int .i64 b238.At, .int .u64 b238.Seed]]⟩ :: ⟨.ptr ip2 wp2 0 0, 5, [.agg [.nil, .nil, .nil, .nil, .int .i64 0]]⟩ :: ⟨.ptr ip27 wp27 0 0, 5, [.agg [v95, v97, v100, v102, .int .i64 x103]]⟩ :: ((inn np_SInt (AV.int .i64) 1 d98 x96) ++ F))) (fun K282 hK282 => ?_) (fun s H hq => ?_)
                · refine w_seq fun K283 hK283 => ?_
                  refine w_if ?_
                  simp only [W]
                  refine w_cnd h (fun hc h => ?_) (fun hc h => ?_)
                  · refine w_reg gC ?_
                    try simp only [W, EE, Nat.reduceAdd, Nat.reduceBEq, hS.var 6 rfl]
                    refine w_ow 4 hS rfl rfl rfl rfl rfl h (fun b284 in285 wn285 on285 hb284 h en285 => ?_) qv102.ne
                    obtain ⟨kn285, hbn285, hen285⟩ := hS.elem 4 rfl en285 hb284
                    try simp only [W]
                    refine w_ste (a := .int .i64 1000000) (y' := 1000000) 4 hS rfl en285 hb284 rfl rfl rfl rfl rfl rfl rfl fun H hS => ?_
                    try simp only [W]
                    refine seq_n hK283 ?_
                    refine w_killE (s' := (u :: u :: .ptr ip2 wp2 0 0 :: .ptr ip27 wp27 0 0 :: u :: u :: u :: u :: u :: u :: u :: u :: u :: u :: u :: u :: u :: u :: u :: u :: u :: u :: u :: u :: u :: u :: u :: u :: u :: u :: u :: u :: u :: u :: u :: u :: u :: u :: u :: u :: u :: u :: u :: u :: u :: u :: u :: u :: u :: u :: u :: u :: u :: u :: u :: u :: u :: u :: u :: u :: u :: u :: u :: u :: u :: u :: u :: u :: u :: u :: u :: u :: u :: u :: u :: u :: u :: u :: [])) rfl ?_
                    have hS : Own _ (⟨v95, 1, x94.map (AV.int .i64)⟩ :: ⟨v97, 1, ouw nm_SInt d98 x96⟩ :: ⟨v100, 1, x99.map (AV.int .i64)⟩ :: ⟨v102, 1, (x101.set (0 : Int).toNat 1000000).map (AV.int .i64)⟩ :: ⟨.ptr i0 w0 0 0, 3, [.agg [.fz (b238.Code.map (AV.int .u8)), .int .i64 b238.At, .int .u64 b238.Seed]]⟩ :: ⟨.ptr ip2 wp2 0 0, 5, [.agg [.nil, .nil, .nil, .nil, .int .i64 0]]⟩ :: ⟨.ptr ip27 wp27 0 0, 5, [.agg [v95, v97, v100, v102, .int .i64 x103]]⟩ :: ((inn np_SInt (AV.int .i64) 1 d98 x96) ++ (F))) := Own.catI_ (bl := [[⟨.ptr i0 w0 0 0, 3, [.agg [.fz (b238.Code.map (AV.int .u8)), .int .i64 b238.At, .int .u64 b238.Seed]]⟩], [⟨v95, 1, x94.map (AV.int .i64)⟩], [⟨v97, 1, ouw nm_SInt d98 x96⟩], [⟨v100, 1, x99.map (AV.int .i64)⟩], [⟨v102, 1, (x101.set (0 : Int).toNat 1000000).map (AV.int .i64)⟩], [⟨.ptr ip2 wp2 0 0, 5, [.agg [.nil, .nil, .nil, .nil, .int .i64 0]]⟩], [⟨.ptr ip27 wp27 0 0, 5, [.agg [v95, v97, v100, v102, .int .i64 x103]]⟩], (inn np_SInt (AV.int .i64) 1 d98 x96)]) (F := F) hS 8 rfl [1, 2, 3, 4, 0, 5, 6, 7] (by decide)
                    exact cut_n hK282 ⟨_, (Option.some.inj h).symm, rfl, hS⟩
                  · refine w_skip ?_
                    refine seq_n hK283 ?_
                    refine w_killE (s' := (u :: u :: .ptr ip2 wp2 0 0 :: .ptr ip27 wp27 0 0 :: u :: u :: u :: u :: u :: u :: u :: u :: u :: u :: u :: u :: u :: u :: u :: u :: u :: u :: u :: u :: u :: u :: u :: u :: u :: u :: u :: u :: u :: u :: u :: u :: u :: u :: u :: u :: u :: u :: u :: u :: u :: u :: u :: u :: u :: u :: u :: u :: u :: u :: u :: u :: u :: u :: u :: u :: u :: u :: u :: u :: u :: u :: u :: u :: u :: u :: u :: u :: u :: u :: u :: u :: u :: u :: [])) rfl ?_
                    have hS : Own _ (⟨v95, 1, x94.map (AV.int .i64)⟩ :: ⟨v97, 1, ouw nm_SInt d98 x96⟩ :: ⟨v100, 1, x99.map (AV.int .i64)⟩ :: ⟨v102, 1, x101.map (AV.int .i64)⟩ :: ⟨.ptr i0 w0 0 0, 3, [.agg [.fz (b238.Code.map (AV.int .u8)), .int .i64 b238.At, .int .u64 b238.Seed]]⟩ :: ⟨.ptr ip2 wp2 0 0, 5, [.agg [.nil, .nil, .nil, .nil, .int .i64 0]]⟩ :: ⟨.ptr ip27 wp27 0 0, 5, [.agg [v95, v97, v100, v102, .int .i64 x103]]⟩ :: ((inn np_SInt (AV.int .i64) 1 d98 x96) ++ (F))) := Own.catI_ (bl := [[⟨.ptr i0 w0 0 0, 3, [.agg [.fz (b238.Code.map (AV.int .u8)), .int .i64 b238.At, .int .u64 b238.Seed]]⟩], [⟨v95, 1, x94.map (AV.int .i64)⟩], [⟨v97, 1, ouw nm_SInt d98 x96⟩], [⟨v100, 1, x99.map (AV.int .i64)⟩], [⟨v102, 1, x101.map (AV.int .i64)⟩], [⟨.ptr ip2 wp2 0 0, 5, [.agg [.nil, .nil, .nil, .nil, .int .i64 0]]⟩], [⟨.ptr ip27 wp27 0 0, 5, [.agg [v95, v97, v100, v102, .int .i64 x103]]⟩], (inn np_SInt (AV.int .i64) 1 d98 x96)]) (F := F) hS 8 rfl [1, 2, 3, 4, 0, 5, 6, 7] (by decide)
                    exact cut_n hK282 ⟨_, (Option.some.inj h).symm, rfl, hS⟩
                · obtain ⟨x279, ey, rfl, hS⟩ := hq; obtain rfl := ey.symm
                  replace h := g281
                  try dsimp only at h
                  refine seq_n hK272 ?_
                  refine w_killE (s' := (u :: u :: .ptr ip2 wp2 0 0 :: .ptr ip27 wp27 0 0 :: u :: u :: u :: u :: u :: u :: u :: u :: u :: u :: u :: u :: u :: u :: u :: u :: u :: u :: u :: u :: u :: u :: u :: u :: u :: u :: u :: u :: u :: u :: u :: u :: u :: u :: u :: u :: u :: u :: u :: u :: u :: u :: u :: u :: u :: u :: u :: u :: u :: u :: u :: u :: u :: u :: u :: u :: u :: u :: u :: u :: u :: u :: u :: u :: u :: u :: u :: u :: u :: u :: u :: u :: u :: u :: [])) rfl ?_
                  exact cut_n hK271 ⟨_, _, _, _, _, (Option.some.inj h).symm, rfl, hS⟩
            · obtain ⟨x264, x265, x266, x267, x268, rfl, rfl, hS⟩ := hq
              replace h := g270
              try dsimp only at h
              refine seq_n hK259 ?_
              refine w_killE (s' := (u :: u :: .ptr ip2 wp2 0 0 :: .ptr ip27 wp27 0 0 :: u :: u :: u :: u :: u :: u :: u :: u :: u :: u :: u :: u :: u :: u :: u :: u :: u :: u :: u :: u :: u :: u :: u :: u :: u :: u :: u :: u :: u :: u :: u :: u :: u :: u :: u :: u :: u :: u :: u :: u :: u :: u :: u :: u :: u :: u :: u :: u :: u :: u :: u :: u :: u :: u :: u :: u :: u :: u :: u :: u :: u :: u :: u :: u :: u :: u :: u :: u :: u :: u :: u :: u :: u :: u :: [])) rfl ?_
              exact cut_n hK258 ⟨_, _, _, _, _, _, (Option.some.inj h).symm, rfl, hS⟩
        · obtain ⟨x250, x251, x252, x253, x254, x255, rfl, rfl, hS⟩ := hq
          replace h := g257
          try dsimp only at h
          refine blk_n hK239 ?_
          exact cut_n hK248 ⟨_, _, _, _, _, _, (Option.some.inj h).symm, rfl, hS⟩
      · obtain ⟨x240, x241, x242, x243, x244, x245, rfl, rfl, hS⟩ := hq
        replace h := g247
        try dsimp only at h
        refine seq_n hK234 ?_
        refine w_seq fun K286 hK286 => ?_
        refine w_reg gC ?_
        try simp only [W, EE, reduceIte, Nat.reduceAdd, Nat.reduceLeDiff, hS.var 6 rfl]
        refine w_stv (a := .agg [v95, v97, v100, v102, .int .i64 x245]) (y' := .agg [v95, v97, v100, v102, .int .i64 x245]) 5 hS rfl rfl rfl rfl rfl (by simp only [storA, List.all_cons, List.all_nil, qv95.stor, qv97.stor, qv100.stor, qv102.stor]; rfl) rfl rfl fun H hS => ?_
        try simp only [W]
        refine seq_n hK286 ?_
        refine w_ret ?_
        refine fin_r hK0 (res_c rfl rfl (hS.var 5 rfl) rfl rfl) ?_
        try obtain rfl := Option.some.inj h
        have hS : Own _ (⟨v95, 1, x94.map (AV.int .i64)⟩ :: ⟨v97, 1, ouw nm_SInt d98 x96⟩ :: ⟨v100, 1, x243.map (AV.int .i64)⟩ :: ⟨v102, 1, x244.map (AV.int .i64)⟩ :: ⟨.ptr i0 w0 0 0, 3, [.agg [.fz (x240.map (AV.int .u8)), .int .i64 x241, .int .u64 x242]]⟩ :: ((inn np_SInt (AV.int .i64) 1 d98 x96) ++ (F))) := Own.catI_ (bl := [[⟨v95, 1, x94.map (AV.int .i64)⟩], [⟨v97, 1, ouw nm_SInt d98 x96⟩], [⟨v100, 1, x243.map (AV.int .i64)⟩], [⟨v102, 1, x244.map (AV.int .i64)⟩], [⟨.ptr i0 w0 0 0, 3, [.agg [.fz (x240.map (AV.int .u8)), .int .i64 x241, .int .u64 x242]]⟩], [⟨.ptr ip2 wp2 0 0, 5, [.agg [v95, v97, v100, v102, .int .i64 x245]]⟩], [⟨.ptr ip27 wp27 0 0, 5, [.agg [v95, v97, v100, v102, .int .i64 x245]]⟩], (inn np_SInt (AV.int .i64) 1 d98 x96)]) (F := F) hS 8 rfl [0, 1, 2, 3, 4, 7] (by decide)
        exact hP _ qv95 _ qv97 _ qd98 _ qv100 _ qv102 _ hS
theorem spec_DrawRunTurns_w {a0 : List Int} {r : (Turns × Int)} (h : spec_DrawRunTurns a0 = some r) {F : List It} {H : Heap} (hS : Own H (F)) {P : AV → Heap → Prop} (hP : ∀ v25 : AV, isSl v25 → ∀ v27 : AV, isSl v27 → ∀ d29 : List AV, isSls d29 (r.1.Queues).length → ∀ v30 : AV, isSl v30 → ∀ v32 : AV, isSl v32 → ∀ H', Own H' (⟨v25, 1, r.1.Quanta.map (AV.int .i64)⟩ :: ⟨v27, 1, ouw nm_SInt d29 r.1.Queues⟩ :: ⟨v30, 1, r.1.Credit.map (AV.int .i64)⟩ :: ⟨v32, 1, r.1.Sent.map (AV.int .i64)⟩ :: ((inn np_SInt (AV.int .i64) 1 d29 r.1.Queues) ++ F)) → P (.tup [.agg [v25, v27, v30, v32, .int .i64 r.1.At], .int .i64 r.2]) H') : ACall C 58 [.fz (a0.map (AV.int .u8))] H P := by
  refine acall_of gC (res := [.cell 2 75, .tmp 3]) (n := 13) rfl rfl rfl rfl fun K0 hK0 => ?_
  simp only [W, Nat.reduceSub, Nat.reduceAdd, List.replicate]
  unfold spec_DrawRunTurns at h
  refine w_seq fun K1 hK1 => ?_
  refine w_reg gC ?_
  try simp only [W, Nat.reduceAdd]
  refine w_alloc hS rfl rfl fun ip2 wp2 H hS => ?_
  try simp only [W]
  refine seq_n hK1 ?_
  refine w_seq fun K4 hK4 => ?_
  refine w_reg gC ?_
  try simp only [W, EE, Nat.reduceAdd]
  refine w_bld rfl rfl rfl rfl rfl ?_
  try simp only [W]
  refine w_box hS rfl rfl rfl rfl fun ip5 wp5 H hS => ?_
  try simp only [W]
  refine seq_n hK4 ?_
  refine w_seq fun K7 hK7 => ?_
  refine w_regF (fz := [(4, [([11], [.sl [.sc]])])]) gC ?_
  try simp only [W, Nat.reduceAdd, Nat.reduceBEq]
  refine w_call h fun b8 hb8 h => ?_
  obtain ⟨b9, b10⟩ := b8
  try dsimp only at h
  refine spec_l1Cur_turns_w hb8 hS fun v11 qv11 v13 qv13 d15 qd15 v16 qv16 v18 qv18 H hS => ?_
  have hS : Own _ (⟨v11, 1, b9.Quanta.map (AV.int .i64)⟩ :: ⟨v13, 1, ouw nm_SInt d15 b9.Queues⟩ :: ⟨v16, 1, b9.Credit.map (AV.int .i64)⟩ :: ⟨v18, 1, b9.Sent.map (AV.int .i64)⟩ :: ⟨.ptr ip5 wp5 0 0, 3, [.agg [.fz (b10.Code.map (AV.int .u8)), .int .i64 b10.At, .int .u64 b10.Seed]]⟩ :: ⟨.ptr ip2 wp2 0 0, 5, [.agg [.nil, .nil, .nil, .nil, .int .i64 0]]⟩ :: ((inn np_SInt (AV.int .i64) 1 d15 b9.Queues) ++ (F))) := Own.catI_ (bl := [[⟨v11, 1, b9.Quanta.map (AV.int .i64)⟩], [⟨v13, 1, ouw nm_SInt d15 b9.Queues⟩], [⟨v16, 1, b9.Credit.map (AV.int .i64)⟩], [⟨v18, 1, b9.Sent.map (AV.int .i64)⟩], [⟨.ptr ip5 wp5 0 0, 3, [.agg [.fz (b10.Code.map (AV.int .u8)), .int .i64 b10.At, .int .u64 b10.Seed]]⟩], (inn np_SInt (AV.int .i64) 1 d15 b9.Queues), [⟨.ptr ip2 wp2 0 0, 5, [.agg [.nil, .nil, .nil, .nil, .int .i64 0]]⟩]]) (F := F) hS 7 rfl [0, 1, 2, 3, 4, 6, 5] (by decide)
  try simp only [W, Nat.reduceAdd, Nat.reduceBEq]
  refine w_lit (el := ([-1, 0, 1, 3, 8, 60, 61] : List Int).map (AV.int .i64)) hS rfl rfl rfl rfl rfl rfl rfl fun v20 H qv20 hS => ?_
  try simp only [W, Nat.reduceAdd]
  refine FZ_own 0 hS rfl qv20 rfl (fun _ _ => by simp [takeE, takeT, plainA]) (fun _ => rfl) fun H hsame hS => ?_
  try simp only [W]
  refine w_call h fun b22 hb22 h => ?_
  obtain ⟨b23, b24⟩ := b22
  try dsimp only at h
  refine spec_l1Cur_among_w hb22 (hS.sel 6 [4, 0, 1, 2, 3, 5] (by decide)) fun H hS => ?_
  try simp only [W, Nat.reduceAdd, Nat.reduceBEq]
  refine w_stv (a := .agg [v11, v13, v16, v18, .int .i64 b9.At]) (y' := .agg [v11, v13, v16, v18, .int .i64 b9.At]) 5 hS rfl rfl rfl rfl rfl (by simp only [storA, List.all_cons, List.all_nil, qv11.stor, qv13.stor, qv16.stor, qv18.stor]; rfl) rfl rfl fun H hS => ?_
  try simp only [W, Nat.reduceAdd, Nat.reduceBEq]
  refine seq_n hK7 ?_
  refine w_ret ?_
  refine fin_r hK0 (res_c rfl rfl (hS.var 5 rfl) rfl (res_tc rfl rfl)) ?_
  try obtain rfl := Option.some.inj h
  have hS : Own _ (⟨v11, 1, b9.Quanta.map (AV.int .i64)⟩ :: ⟨v13, 1, ouw nm_SInt d15 b9.Queues⟩ :: ⟨v16, 1, b9.Credit.map (AV.int .i64)⟩ :: ⟨v18, 1, b9.Sent.map (AV.int .i64)⟩ :: ((inn np_SInt (AV.int .i64) 1 d15 b9.Queues) ++ (F))) := Own.catI_ (bl := [[⟨.ptr ip5 wp5 0 0, 3, [.agg [.fz (b24.Code.map (AV.int .u8)), .int .i64 b24.At, .int .u64 b24.Seed]]⟩], [⟨v11, 1, b9.Quanta.map (AV.int .i64)⟩], [⟨v13, 1, ouw nm_SInt d15 b9.Queues⟩], [⟨v16, 1, b9.Credit.map (AV.int .i64)⟩], [⟨v18, 1, b9.Sent.map (AV.int .i64)⟩], [⟨.ptr ip2 wp2 0 0, 5, [.agg [v11, v13, v16, v18, .int .i64 b9.At]]⟩], (inn np_SInt (AV.int .i64) 1 d15 b9.Queues)]) (F := F) hS 7 rfl [1, 2, 3, 4, 6] (by decide)
  exact hP _ qv11 _ qv13 _ qd15 _ qv16 _ qv18 _ hS
theorem impl_in_w {a0 : Int} {a1 : Int} {a2 : Int} {r : (Bool)} (h : impl_in a0 a1 a2 = some r) {F : List It} {H : Heap} (hS : Own H (F)) {P : AV → Heap → Prop} (hP : ∀ H', Own H' (F) → P (.bool r) H') : ACall C 147 [.int .i64 a0, .int .i64 a1, .int .i64 a2] H P := by
  refine acall_of gC (res := [.tmp 6]) (n := 15) rfl rfl rfl rfl fun K0 hK0 => ?_
  simp only [W, Nat.reduceSub, Nat.reduceAdd, List.replicate]
  unfold impl_in at h
  refine w_seq fun K1 hK1 => ?_
  refine w_reg gC ?_
  try simp only [W, Nat.reduceAdd]
  refine seq_n hK1 ?_
  refine w_seq fun K2 hK2 => ?_
  refine w_reg gC ?_
  try simp only [W, EE, Nat.reduceAdd]
  refine w_grdT h (fun hc h => ?_) (fun hc h => ?_)
  · try simp only [W, EE, reduceIte, hc]
    refine seq_n hK2 ?_
    refine w_ret ?_
    refine fin_r1 hK0 rfl ?_
    try obtain rfl := Option.some.inj h
    exact hP _ hS
  · try simp only [W, hc]
    refine seq_n hK2 ?_
    refine w_ret ?_
    refine fin_r1 hK0 rfl ?_
    try obtain rfl := Option.some.inj h
    exact hP _ hS
theorem slices_IndexFunc_int_w {a0 : List Int} {g1 : Int → Option Bool} {f1 : FuncId} {c1 : List AV} {r : (Int)} (h : slices_IndexFunc_int a0 g1 = some r) {F : List It} {H : Heap} (hg1 : ∀ {x0 : Int} {r : Bool}, g1 x0 = some r → ∀ (L : List It) (n : Nat), L.drop n = F → ∀ (H : Heap), Own H L → ∀ (P : AV → Heap → Prop), (∀ H', Own H' L → P (.bool r) H') → ACall C f1 ([.int .i64 x0] ++ c1) H P) (hS : Own H (F)) {P : AV → Heap → Prop} (hP : ∀ H', Own H' (F) → P (.int .i64 r) H') : ACall C 255 [.fz (a0.map (AV.int .i64)), .fn f1 c1] H P := by
  refine acall_of gC (res := [.tmp 4]) (n := 19) rfl rfl rfl rfl fun K0 hK0 => ?_
  simp only [W, Nat.reduceSub, Nat.reduceAdd, List.replicate]
  unfold slices_IndexFunc_int at h
  refine w_seq fun K1 hK1 => ?_
  refine w_reg gC ?_
  try simp only [W, Nat.reduceAdd]
  refine seq_n hK1 ?_
  refine w_seq fun K2 hK2 => ?_
  refine w_seq fun K3 hK3 => ?_
  refine w_reg gC ?_
  try simp only [W, EE, Nat.reduceAdd]
  refine seq_n hK3 ?_
  obtain ⟨y5, hw6, g12⟩ := Option.bind_eq_some_iff.1 h
  refine w_join gC (fun s H => y5 = LR.next () ∧ s = [u, u, u, u, u, u, u, u, u, u, u, u, u, u, u, u, u, u, u] ∧ Own H (F)) (fun K7 hK7 => ?_) (fun s H hq => ?_)
  · refine w_blk fun K8 hK8 => ?_
    refine w_loop gC hw6 (fun x s H => s = [.fz (a0.map (AV.int .i64)), .fn f1 c1, u, u, u, u, u, .int .i64 (a0.length : Int), .int .i64 x, u, u, u, u, u, u, u, u, u, u] ∧ Own H (F)) ⟨rfl, hS⟩ (fun x4 y11 s H h hd10 hi K9 hK9 => ?_)
    skip
    try dsimp only at hi
    obtain ⟨rfl, hS⟩ := hi
    simp only [slices_IndexFunc_int_l0] at h
    refine w_seq fun K13 hK13 => ?_
    refine w_reg gC ?_
    try simp only [W, EE, Nat.reduceAdd]
    refine seq_n hK13 ?_
    refine w_seq fun K14 hK14 => ?_
    refine w_if ?_
    simp only [W]
    refine w_cnd h (fun hc h => ?_) (fun hc h => ?_)
    · refine w_skip ?_
      refine seq_n hK14 ?_
      refine w_seq fun K15 hK15 => ?_
      refine w_blk fun K16 hK16 => ?_
      refine w_seq fun K17 hK17 => ?_
      refine w_reg gC ?_
      try simp only [W, Nat.reduceAdd]
      refine seq_n hK17 ?_
      refine w_seq fun K18 hK18 => ?_
      refine w_reg gC ?_
      try simp only [W, EE, Nat.reduceAdd]
      refine w_fz rfl rfl rfl (fun _ => rfl) h fun b19 hb19 h => ?_
      try simp only [W, EE]
      refine w_call h fun b20 hb20 h => ?_
      refine hg1 hb20 _ 0 rfl _ hS _ fun H hS => ?_
      try simp only [W]
      refine seq_n hK18 ?_
      refine w_if ?_
      simp only [W]
      refine w_cnd h (fun hc h => ?_) (fun hc h => ?_)
      · refine w_seq fun K21 hK21 => ?_
        refine w_reg gC ?_
        try simp only [W, Nat.reduceAdd]
        refine seq_n hK21 ?_
        refine w_ret ?_
        refine blk_r hK16 ?_
        refine seq_r hK15 ?_
        try obtain rfl := Option.some.inj h
        obtain rfl := hd10 _ rfl
        have h : (some (LR.done x4) : Option (LR Unit (Int))) = some (LR.done x4) := rfl
        refine lp_r hK9 ?_
        refine blk_r hK8 ?_
        try obtain rfl := Option.some.inj h
        obtain rfl := Option.some.inj g12
        have h : (some x4 : Option (Int)) = some x4 := rfl
        refine cut_r hK7 ?_
        refine seq_r hK2 ?_
        refine fin_r1 hK0 rfl ?_
        try obtain rfl := Option.some.inj h
        exact hP _ hS
      · refine w_skip ?_
        refine blk_n0 hK16 ?_
        refine seq_n hK15 ?_
        refine w_reg gC ?_
        try simp only [W, EE, Nat.reduceAdd]
        exact lp_n hK9 h ⟨rfl, hS⟩
    · refine w_exit ?_
      refine seq_x hK14 ?_
      try obtain rfl := Option.some.inj h
      obtain rfl := hd10 _ rfl
      have h : (some (LR.next ()) : Option (LR Unit (Int))) = some (LR.next ()) := rfl
      refine lp_x hK9 ?_
      refine blk_e hK8 ?_
      exact cut_n hK7 ⟨(Option.some.inj h).symm, rfl, hS⟩
  · obtain ⟨rfl, rfl, hS⟩ := hq
    replace h := g12
    try dsimp only at h
    refine seq_n hK2 ?_
    refine w_seq fun K28 hK28 => ?_
    refine w_reg gC ?_
    try simp only [W, Nat.reduceAdd]
    refine seq_n hK28 ?_
    refine w_ret ?_
    refine fin_r1 hK0 rfl ?_
    try obtain rfl := Option.some.inj h
    exact hP _ hS
theorem slices_ContainsFunc_int_w {a0 : List Int} {g1 : Int → Option Bool} {f1 : FuncId} {c1 : List AV} {r : (Bool)} (h : slices_ContainsFunc_int a0 g1 = some r) {F : List It} {H : Heap} (hg1 : ∀ {x0 : Int} {r : Bool}, g1 x0 = some r → ∀ (L : List It) (n : Nat), L.drop n = F → ∀ (H : Heap), Own H L → ∀ (P : AV → Heap → Prop), (∀ H', Own H' L → P (.bool r) H') → ACall C f1 ([.int .i64 x0] ++ c1) H P) (hS : Own H (F)) {P : AV → Heap → Prop} (hP : ∀ H', Own H' (F) → P (.bool r) H') : ACall C 145 [.fz (a0.map (AV.int .i64)), .fn f1 c1] H P := by
  refine acall_of gC (res := [.tmp 4]) (n := 9) rfl rfl rfl rfl fun K0 hK0 => ?_
  simp only [W, Nat.reduceSub, Nat.reduceAdd, List.replicate]
  unfold slices_ContainsFunc_int at h
  refine w_seq fun K1 hK1 => ?_
  refine w_reg gC ?_
  try simp only [W, Nat.reduceAdd]
  refine seq_n hK1 ?_
  refine w_seq fun K2 hK2 => ?_
  refine w_reg gC ?_
  try simp only [W, Nat.reduceAdd]
  refine w_call h fun b3 hb3 h => ?_
  refine slices_IndexFunc_int_w hb3 hg1 hS fun H hS => ?_
  try simp only [W, EE]
  refine seq_n hK2 ?_
  refine w_ret ?_
  refine fin_r1 hK0 rfl ?_
  try obtain rfl := Option.some.inj h
  exact hP _ hS
theorem impl_areQuanta_1_w {a0 : Int} {r : (Bool)} (h : impl_areQuanta_1 a0 = some r) {F : List It} {H : Heap} (hS : Own H (F)) {P : AV → Heap → Prop} (hP : ∀ H', Own H' (F) → P (.bool r) H') : ACall C 271 [.int .i64 a0] H P := by
  refine acall_of gC (res := [.tmp 2]) (n := 6) rfl rfl rfl rfl fun K0 hK0 => ?_
  simp only [W, Nat.reduceSub, Nat.reduceAdd, List.replicate]
  unfold impl_areQuanta_1 at h
  refine w_seq fun K1 hK1 => ?_
  refine w_reg gC ?_
  try simp only [W, Nat.reduceAdd]
  refine seq_n hK1 ?_
  refine w_seq fun K2 hK2 => ?_
  refine w_reg gC ?_
  try simp only [W, Nat.reduceAdd]
  refine w_call h fun b3 hb3 h => ?_
  refine impl_in_w hb3 hS fun H hS => ?_
  try simp only [W]
  refine seq_n hK2 ?_
  refine w_ret ?_
  refine fin_r1 hK0 rfl ?_
  try obtain rfl := Option.some.inj h
  exact hP _ hS
end Go.VxW
