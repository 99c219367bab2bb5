import Derived.Test.YtcgnkhdeckgaaaaVmF
import Derived.Test.YtcgnkhdeckgaaaaProg
import Derived.Test.YtcgnkhdeckgaaaaVaE
import Derived.KernelRfl
open Go Go.VS
set_option maxRecDepth 8000
set_option maxHeartbeats 4000000
namespace Go.VxW
def e_Turns (x : Turns) : AV := .agg [.fz (x.Quanta.map (AV.int .i64)), .fz (x.Queues.map (fzl (AV.int .i64))), .fz (x.Credit.map (AV.int .i64)), .fz (x.Sent.map (AV.int .i64)), .int .i64 x.At]
def E : TEnv := fun t => match t with
  | 3 => some { sz := 1, agg := false, zero := [AV.int IntKind.i64 0], bytes := 8, und := UD.it IntKind.i64, eqok := true }
  | 4 => some { sz := 1, agg := false, zero := [AV.bool false], bytes := 1, und := UD.bl, eqok := true }
  | 22 => some { sz := 1, agg := false, zero := [AV.nil], bytes := 24, und := UD.sl 3, eqok := true }
  | 23 => some { sz := 1, agg := false, zero := [AV.nil], bytes := 24, und := UD.sl 22, eqok := true }
  | 25 => some { sz := 5, agg := true, zero := [AV.nil, AV.nil, AV.nil, AV.nil, AV.int IntKind.i64 0], bytes := 104, und := UD.st [(0, 22), (1, 23), (2, 22), (3, 22), (4, 3)], eqok := true }
  | 27 => some { sz := 5, agg := true, zero := [AV.nil, AV.nil, AV.nil, AV.nil, AV.int IntKind.i64 0], bytes := 104, und := UD.st [(0, 22), (1, 23), (2, 22), (3, 22), (4, 3)], eqok := true }
  | 137 => some { sz := 1, agg := false, zero := [AV.undef], bytes := 8, und := UD.ot, eqok := true }
  | _ => none
def pol : FuncId → FPol := fun f => match f with
  | 5 => { rsh := [[.sc]], regs := [(5, [], [3]), (7, [], [2]), (24, [], [3])], frz := [(8, [], some [1, 2, 6, 7, 8, 9, 10, 44]), (14, [], some [1, 2, 6, 7, 9, 65]), (25, [], some [9, 12, 92])] }
  | 15 => { rsh := [[.sc]] }
  | 17 => { rsh := [[.sl [.sc], .sl [.sl [.sc]], .sl [.sc], .sl [.sc], .sc]] }
  | 19 => { rsh := [[.sc]] }
  | 20 => { rsh := [[.sc]] }
  | 21 => { rsh := [[.sc]] }
  | 22 => { rsh := [[.sl [.sc], .sl [.sl [.sc]], .sl [.sc], .sl [.sc], .sc], [.sl [.sc]], [.sc]], regs := [(6, [], [1])] }
  | 24 => { rsh := [[.sc]], loops := [(0, { keep := [0, 1, 5] })], blocks := [(0, [])] }
  | 25 => { rsh := [[.sc]], loops := [(0, { keep := [0, 1, 5] })], blocks := [(0, [1])] }
  | 26 => { rsh := [[.sc]], loops := [(0, { keep := [0, 1, 5] })], blocks := [(0, [1])] }
  | 27 => { rsh := [[.sl [.sc], .sl [.sl [.sc]], .sl [.sc], .sl [.sc], .sc], [.sc]], loops := [(0, { keep := [1, 4, 6] })], blocks := [(0, [4, 6])], regs := [(6, [], [1])], frz := [(1, [], some [1, 2, 4, 17])] }
  | 28 => { rsh := [[.sl [.sc], .sl [.sl [.sc]], .sl [.sc], .sl [.sc], .sc], [.sc]], loops := [(0, { keep := [4, 6, 20, 21] })], blocks := [(0, [4, 6])], frz := [(1, [], some [1, 2, 4, 16])] }
  | 106 => { rsh := [[.sc]] }
  | 107 => { rsh := [[.sc]], loops := [(0, { keep := [0, 1, 5] })], blocks := [(0, [1])] }
  | 108 => { rsh := [[.sc]], loops := [(0, { keep := [1, 60, 61, 62] })], blocks := [(0, [])], frz := [(2, [], some [1, 58]), (7, [], some [1, 60, 61, 62, 87])] }
  | 109 => { rsh := [[.sc]] }
  | 110 => { rsh := [[.sl [.sc], .sl [.sl [.sc]], .sl [.sc], .sl [.sc], .sc]], loops := [(0, { keep := [2, 3, 22, 23, 24] })], blocks := [(0, [2, 3])], regs := [(1, [16], []), (5, [8, 6], [])] }
  | 111 => { rsh := [[.sl [.sc]]], loops := [(0, { keep := [0, 3, 4] })], blocks := [(0, [3])] }
  | 112 => { rsh := [[.sl [.sl [.sc]]]], loops := [(0, { keep := [0, 3, 4] })], blocks := [(0, [3])] }
  | 113 => { rsh := [[.sc]], loops := [(0, { keep := [1, 43, 44, 45] })], blocks := [(0, [])], frz := [(2, [], some [1, 41]), (7, [], some [1, 4, 5, 43, 44, 45, 56]), (9, [], some [1, 43, 44, 45, 85])] }
  | 114 => { rsh := [[.sc]] }
  | 115 => { rsh := [[.sc]] }
  | 116 => { rsh := [[.sl [.sc], .sl [.sl [.sc]], .sl [.sc], .sl [.sc], .sc]], loops := [(0, { keep := [2, 3, 19, 20, 21] })], blocks := [(0, [2, 3])], regs := [(1, [13], [2, 5, 8]), (5, [7, 5], [3])] }
  | 117 => { rsh := [[.sc]], loops := [(0, { keep := [0, 1, 5] })], blocks := [(0, [])] }
  | 118 => { rsh := [[.sc]], loops := [(0, { keep := [0, 1, 5] })], blocks := [(0, [1])] }
  | 119 => { rsh := [[.sc]], loops := [(0, { keep := [0, 1, 5] })], blocks := [(0, [1])] }
  | 120 => { rsh := [[.sl [.sc], .sl [.sl [.sc]], .sl [.sc], .sl [.sc], .sc], [.sl [.sc]]], loops := [(0, { keep := [1, 2, 4, 5, 6] })], blocks := [(0, [1, 2, 4, 5, 6])], regs := [(6, [12], []), (8, [10], []), (9, [10], []), (14, [7], [])], frz := [(7, [], some [1, 2, 4, 5, 6, 49])], cnds := [(23, [1, 2, 4, 5, 6]), (80, [1, 2, 4, 5, 6])] }
  | 121 => { rsh := [[.sl [.sc]], [.sc]], loops := [(0, { keep := [0, 4, 5] })], blocks := [(0, [0, 4, 5])], regs := [(4, [16], []), (7, [14], [])], frz := [(5, [], some [0, 4, 5, 75])], cnds := [(31, [0, 4, 5]), (131, [0, 4, 5])] }
  | 169 => { rsh := [[.sc]] }
  | 174 => { rsh := [[.sc]], loops := [(0, { keep := [1, 2, 9, 10, 11] })], blocks := [(0, [])] }
  | 211 => { rsh := [[.sc]] }
  | 212 => { rsh := [[.sc]] }
  | 213 => { rsh := [[.sl [.sc]]] }
  | 246 => { rsh := [[.sc]], loops := [(0, { keep := [0, 1, 7, 8] })], blocks := [(0, [])] }
  | 260 => { rsh := [[.sc]] }
  | _ => {}
noncomputable def code : FuncId → Option Func := fun f => match f with
  | 5 => some Go.Proofs.Try.f5
  | 15 => some Go.Proofs.Try.f15
  | 17 => some Go.Proofs.Try.f17
  | 19 => some Go.Proofs.Try.f19
  | 20 => some Go.Proofs.Try.f20
  | 21 => some Go.Proofs.Try.f21
  | 22 => some Go.Proofs.Try.f22
  | 24 => some Go.Proofs.Try.f24
  | 25 => some Go.Proofs.Try.f25
  | 26 => some Go.Proofs.Try.f26
  | 27 => some Go.Proofs.Try.f27
  | 28 => some Go.Proofs.Try.f28
  | 106 => some Go.Proofs.Try.f106
  | 107 => some Go.Proofs.Try.f107
  | 108 => some Go.Proofs.Try.f108
  | 109 => some Go.Proofs.Try.f109
  | 110 => some Go.Proofs.Try.f110
  | 111 => some Go.Proofs.Try.f111
  | 112 => some Go.Proofs.Try.f112
  | 113 => some Go.Proofs.Try.f113
  | 114 => some Go.Proofs.Try.f114
  | 115 => some Go.Proofs.Try.f115
  | 116 => some Go.Proofs.Try.f116
  | 117 => some Go.Proofs.Try.f117
  | 118 => some Go.Proofs.Try.f118
  | 119 => some Go.Proofs.Try.f119
  | 120 => some Go.Proofs.Try.f120
  | 121 => some Go.Proofs.Try.f121
  | 169 => some Go.Proofs.Try.f169
  | 174 => some Go.Proofs.Try.f174
  | 211 => some Go.Proofs.Try.f211
  | 212 => some Go.Proofs.Try.f212
  | 246 => some Go.Proofs.Try.f246
  | 260 => some Go.Proofs.Try.f260
  | _ => none
def cids : List (FuncId × Nat × Nat) := [(213, 1, 8)]
noncomputable def C : Ctx := ⟨E, pol, code, cloneExt cids⟩
theorem gC : Good C := clone_good (ids := cids) rfl
theorem cE : C.E = E := rfl
theorem E3 : E 3 = some { sz := 1, agg := false, zero := [AV.int IntKind.i64 0], bytes := 8, und := UD.it IntKind.i64, eqok := true } := rfl
theorem E4 : E 4 = some { sz := 1, agg := false, zero := [AV.bool false], bytes := 1, und := UD.bl, eqok := true } := rfl
theorem E22 : E 22 = some { sz := 1, agg := false, zero := [AV.nil], bytes := 24, und := UD.sl 3, eqok := true } := rfl
theorem E23 : E 23 = some { sz := 1, agg := false, zero := [AV.nil], bytes := 24, und := UD.sl 22, eqok := true } := rfl
theorem E25 : E 25 = some { sz := 5, agg := true, zero := [AV.nil, AV.nil, AV.nil, AV.nil, AV.int IntKind.i64 0], bytes := 104, und := UD.st [(0, 22), (1, 23), (2, 22), (3, 22), (4, 3)], eqok := true } := rfl
theorem E27 : E 27 = some { sz := 5, agg := true, zero := [AV.nil, AV.nil, AV.nil, AV.nil, AV.int IntKind.i64 0], bytes := 104, und := UD.st [(0, 22), (1, 23), (2, 22), (3, 22), (4, 3)], eqok := true } := rfl
theorem E137 : E 137 = some { sz := 1, agg := false, zero := [AV.undef], bytes := 8, und := UD.ot, eqok := true } := rfl
theorem EE : type_of% (And.intro @cE <| And.intro @E3 <| And.intro @E4 <| And.intro @E22 <| And.intro @E23 <| And.intro @E25 <| And.intro @E27 @E137) := And.intro @cE <| And.intro @E3 <| And.intro @E4 <| And.intro @E22 <| And.intro @E23 <| And.intro @E25 <| And.intro @E27 @E137
theorem e_Turns_d (x : Turns) : e_Turns x = .agg [.fz (x.Quanta.map (AV.int .i64)), .fz (x.Queues.map (fzl (AV.int .i64))), .fz (x.Credit.map (AV.int .i64)), .fz (x.Sent.map (AV.int .i64)), .int .i64 x.At] := rfl
theorem EN : type_of% (And.intro @e_Turns_d <| And.intro @fzl_d @killB_n) := And.intro @e_Turns_d <| And.intro @fzl_d @killB_n
def nm_SInt (a : AV) (_x : List Int) : AV := a
abbrev np_SInt (x : List Int) : List Int := x
def nd_SInt (x : List Int) : AV := .own 1 ((np_SInt x).map (AV.int .i64))
theorem nc_SInt (a : AV) (x : List Int) (h : isSl a) : (nm_SInt a x).cells.length = 1 := by
  first | rfl | (show a.cells.length = 1; rw [h.cells]; rfl)
theorem nt_SInt (a : AV) (x : List Int) (H : Heap) (L : List It) (ha : isSl a) (hS : Own H (⟨a, 1, (np_SInt x).map (AV.int .i64)⟩ :: L)) : ∃ H', takeE [.sl [.sc]] (nm_SInt a x) H = some (nd_SInt x, H') ∧ Own H' L :=
  take_sl (fs := [.sc]) (fun _ _ => by simp [takeE, takeT, plainA]) ha hS
theorem nf_SInt (x : List Int) : noFz (nd_SInt x) = true := by
  simp [nd_SInt, noFz, noFzL_map (c := (AV.int .i64)) (fun _ => rfl)]
theorem nh_SInt (x : List Int) (H : Heap) (L : List It) (hS : Own H L) : ∃ a, isSl a ∧ (thawV (nd_SInt x) H).1 = nm_SInt a x ∧ Own (thawV (nd_SInt x) H).2 (⟨a, 1, (np_SInt x).map (AV.int .i64)⟩ :: L) := by
  obtain ⟨a, H1, h1, h2, h3⟩ := th_one (c := (AV.int .i64)) (n := 1) (fun _ _ => rfl) (fun _ => rfl) (np_SInt x) H L hS
  exact ⟨a, h1, by rw [show nd_SInt x = .own 1 ((np_SInt x).map (AV.int .i64)) from rfl, h2]; rfl, by rw [show nd_SInt x = .own 1 ((np_SInt x).map (AV.int .i64)) from rfl, h2]; exact h3⟩
theorem nz_SInt (x : List Int) : frzV (nd_SInt x) = (fzl (AV.int .i64)) x := by
  simp [nd_SInt, frzV, frzL_map (c := (AV.int .i64)) (fun _ => rfl), fzl]
theorem laws_szIntS_w {a0 : List Int} {a1 : Int} {r : (Int)} (h : laws_szIntS a0 a1 = some r) {F : List It} {H : Heap} (hS : Own H (F)) {P : AV → Heap → Prop} (hP : ∀ H', Own H' (F) → P (.int .i64 r) H') : ACall C 106 [.fz (a0.map (AV.int .i64)), .int .i64 a1] H P := by
  refine acall_of gC (res := [.tmp 4]) (n := 12) rfl rfl rfl rfl fun K0 hK0 => ?_
  simp only [W, Nat.reduceSub, Nat.reduceAdd, List.replicate]
  unfold laws_szIntS at h
  refine w_seq fun K1 hK1 => ?_
  refine w_reg gC ?_
  try simp only [W, Nat.reduceAdd]
  refine seq_n hK1 ?_
  refine w_seq fun K2 hK2 => ?_
  refine w_reg gC ?_
  try simp only [W, EE, Nat.reduceAdd]
  refine seq_n hK2 ?_
  refine w_seq fun K3 hK3 => ?_
  refine w_seq fun K4 hK4 => ?_
  refine w_reg gC ?_
  try simp only [W, EE, Nat.reduceAdd]
  refine seq_n hK4 ?_
  refine w_if ?_
  simp only [W]
  refine w_cnd h (fun hc h => ?_) (fun hc h => ?_)
  · refine w_seq fun K5 hK5 => ?_
    refine w_reg gC ?_
    try simp only [W, Nat.reduceAdd]
    refine seq_n hK5 ?_
    refine w_ret ?_
    refine seq_r hK3 ?_
    refine fin_r1 hK0 rfl ?_
    try obtain rfl := Option.some.inj h
    exact hP _ hS
  · refine w_skip ?_
    refine seq_n hK3 ?_
    refine w_seq fun K6 hK6 => ?_
    refine w_reg gC ?_
    try simp only [W, Nat.reduceAdd]
    refine seq_n hK6 ?_
    refine w_ret ?_
    refine fin_r1 hK0 rfl ?_
    try obtain rfl := Option.some.inj h
    exact hP _ hS
theorem laws_szIntSS_w {a0 : List (List Int)} {a1 : Int} {r : (Int)} (h : laws_szIntSS a0 a1 = some r) {F : List It} {H : Heap} (hS : Own H (F)) {P : AV → Heap → Prop} (hP : ∀ H', Own H' (F) → P (.int .i64 r) H') : ACall C 107 [.fz (a0.map (fzl (AV.int .i64))), .int .i64 a1] H P := by
  refine acall_of gC (res := [.tmp 4]) (n := 27) rfl rfl rfl rfl fun K0 hK0 => ?_
  simp only [W, Nat.reduceSub, Nat.reduceAdd, List.replicate]
  unfold laws_szIntSS at h
  refine w_seq fun K1 hK1 => ?_
  refine w_reg gC ?_
  try simp only [W, Nat.reduceAdd]
  refine seq_n hK1 ?_
  refine w_seq fun K2 hK2 => ?_
  refine w_reg gC ?_
  try simp only [W, EE, Nat.reduceAdd]
  refine seq_n hK2 ?_
  refine w_seq fun K3 hK3 => ?_
  refine w_seq fun K4 hK4 => ?_
  refine w_reg gC ?_
  try simp only [W, EE, Nat.reduceAdd]
  refine seq_n hK4 ?_
  refine w_if ?_
  simp only [W]
  refine w_cnd h (fun hc h => ?_) (fun hc h => ?_)
  · refine w_seq fun K5 hK5 => ?_
    refine w_reg gC ?_
    try simp only [W, Nat.reduceAdd]
    refine seq_n hK5 ?_
    refine w_ret ?_
    refine seq_r hK3 ?_
    refine fin_r1 hK0 rfl ?_
    try obtain rfl := Option.some.inj h
    exact hP _ hS
  · refine w_skip ?_
    refine seq_n hK3 ?_
    refine w_seq fun K6 hK6 => ?_
    refine w_seq fun K7 hK7 => ?_
    refine w_reg gC ?_
    try simp only [W, Nat.reduceAdd]
    refine seq_n hK7 ?_
    obtain ⟨y11, hw12, g18⟩ := Option.bind_eq_some_iff.1 h
    refine w_join gC (fun s H => ∃ x10 : Int, y11 = LR.next (x10) ∧ s = [u, .int .i64 x10, u, u, u, u, u, u, u, u, u, u, u, u, u, u, u, u, u, u, u, u, u, u, u, u, u] ∧ Own H (F)) (fun K13 hK13 => ?_) (fun s H hq => ?_)
    · refine w_blk fun K14 hK14 => ?_
      refine w_loop gC hw12 (fun x s H => match x with | (x8, x9) => s = [.fz (a0.map (fzl (AV.int .i64))), .int .i64 x8, u, u, u, .int .i64 x9, u, u, u, u, u, u, u, u, u, u, u, u, u, u, u, u, u, u, u, u, u] ∧ Own H (F)) ⟨rfl, hS⟩ (fun x y17 s H h hd16 hi K15 hK15 => ?_)
      obtain ⟨x8, x9⟩ := x
      try dsimp only at hi
      obtain ⟨rfl, hS⟩ := hi
      simp only [laws_szIntSS_l0] at h
      refine w_seq fun K19 hK19 => ?_
      refine w_seq fun K20 hK20 => ?_
      refine w_reg gC ?_
      try simp only [W, EE, Nat.reduceAdd]
      refine seq_n hK20 ?_
      refine w_if ?_
      simp only [W]
      refine w_cnd h (fun hc h => ?_) (fun hc h => ?_)
      · refine w_skip ?_
        refine seq_n hK19 ?_
        refine w_seq fun K21 hK21 => ?_
        refine w_blk fun K22 hK22 => ?_
        refine w_seq fun K23 hK23 => ?_
        refine w_reg gC ?_
        try simp only [W, EE, Nat.reduceAdd]
        refine w_fz rfl rfl rfl (fun _ => rfl) h fun b24 hb24 h => ?_
        try simp only [W, EE, EN]
        refine w_call h fun b25 hb25 h => ?_
        refine laws_szIntS_w hb25 hS fun H hS => ?_
        try simp only [W]
        refine seq_n hK23 ?_
        refine w_seq fun K26 hK26 => ?_
        refine w_reg gC ?_
        try simp only [W, EE, Nat.reduceAdd]
        refine seq_n hK26 ?_
        refine w_if ?_
        simp only [W]
        refine w_cnd h (fun hc h => ?_) (fun hc h => ?_)
        · refine w_seq fun K27 hK27 => ?_
          refine w_reg gC ?_
          try simp only [W, Nat.reduceAdd]
          refine seq_n hK27 ?_
          refine w_ret ?_
          refine blk_r hK22 ?_
          refine seq_r hK21 ?_
          try obtain rfl := Option.some.inj h
          obtain rfl := hd16 _ rfl
          have h : (some (LR.done (-1)) : Option (LR (Int) (Int))) = some (LR.done (-1)) := rfl
          refine lp_r hK15 ?_
          refine blk_r hK14 ?_
          try obtain rfl := Option.some.inj h
          obtain rfl := Option.some.inj g18
          have h : (some (-1) : Option (Int)) = some (-1) := rfl
          refine cut_r hK13 ?_
          refine seq_r hK6 ?_
          refine fin_r1 hK0 rfl ?_
          try obtain rfl := Option.some.inj h
          exact hP _ hS
        · refine w_skip ?_
          refine blk_n0 hK22 ?_
          refine seq_n hK21 ?_
          refine w_reg gC ?_
          try simp only [W, EE, Nat.reduceAdd]
          exact lp_n hK15 h ⟨rfl, hS⟩
      · refine w_exit ?_
        refine seq_x hK19 ?_
        try obtain rfl := Option.some.inj h
        obtain rfl := hd16 _ rfl
        have h : (some (LR.next (x8)) : Option (LR (Int) (Int))) = some (LR.next (x8)) := rfl
        refine lp_x hK15 ?_
        refine blk_e hK14 ?_
        exact cut_n hK13 ⟨_, (Option.some.inj h).symm, rfl, hS⟩
    · obtain ⟨x10, ey, rfl, hS⟩ := hq; obtain rfl := ey.symm
      replace h := g18
      try dsimp only at h
      refine seq_n hK6 ?_
      refine w_seq fun K34 hK34 => ?_
      refine w_reg gC ?_
      try simp only [W, Nat.reduceAdd]
      refine seq_n hK34 ?_
      refine w_ret ?_
      refine fin_r1 hK0 rfl ?_
      try obtain rfl := Option.some.inj h
      exact hP _ hS
theorem laws_szTurns_w {a0 : Turns} {a1 : Int} {r : (Int)} (h : laws_szTurns a0 a1 = some r) {F : List It} {H : Heap} (hS : Own H (F)) {P : AV → Heap → Prop} (hP : ∀ H', Own H' (F) → P (.int .i64 r) H') : ACall C 15 [.agg [.fz (a0.Quanta.map (AV.int .i64)), .fz (a0.Queues.map (fzl (AV.int .i64))), .fz (a0.Credit.map (AV.int .i64)), .fz (a0.Sent.map (AV.int .i64)), .int .i64 a0.At], .int .i64 a1] H P := by
  refine acall_of gC (res := [.tmp 4]) (n := 30) rfl rfl rfl rfl fun K0 hK0 => ?_
  simp only [W, Nat.reduceSub, Nat.reduceAdd, List.replicate]
  unfold laws_szTurns at h
  refine w_seq fun K1 hK1 => ?_
  refine w_reg gC ?_
  try simp only [W, Nat.reduceAdd]
  refine w_box hS rfl rfl rfl rfl fun ip2 wp2 H hS => ?_
  try simp only [W]
  refine seq_n hK1 ?_
  refine w_seq fun K4 hK4 => ?_
  refine w_reg gC ?_
  try simp only [W, EE, Nat.reduceAdd, Nat.reduceBEq, hS.var 0 rfl]
  refine w_call h fun b5 hb5 h => ?_
  refine laws_szIntS_w hb5 hS fun H hS => ?_
  try simp only [W]
  refine seq_n hK4 ?_
  refine w_seq fun K6 hK6 => ?_
  refine w_seq fun K7 hK7 => ?_
  refine w_reg gC ?_
  try simp only [W, EE, Nat.reduceAdd]
  refine seq_n hK7 ?_
  refine w_if ?_
  simp only [W]
  refine w_cnd h (fun hc h => ?_) (fun hc h => ?_)
  · refine w_seq fun K8 hK8 => ?_
    refine w_reg gC ?_
    try simp only [W, Nat.reduceAdd]
    refine seq_n hK8 ?_
    refine w_ret ?_
    refine seq_r hK6 ?_
    refine fin_r1 hK0 rfl ?_
    try obtain rfl := Option.some.inj h
    exact hP _ (hS.sel 1 [] (by decide))
  · refine w_skip ?_
    refine seq_n hK6 ?_
    refine w_seq fun K9 hK9 => ?_
    refine w_reg gC ?_
    try simp only [W, EE, Nat.reduceAdd, Nat.reduceBEq, hS.var 0 rfl]
    refine w_call h fun b10 hb10 h => ?_
    refine laws_szIntSS_w hb10 hS fun H hS => ?_
    try simp only [W]
    refine seq_n hK9 ?_
    refine w_seq fun K11 hK11 => ?_
    refine w_seq fun K12 hK12 => ?_
    refine w_reg gC ?_
    try simp only [W, EE, Nat.reduceAdd]
    refine seq_n hK12 ?_
    refine w_if ?_
    simp only [W]
    refine w_cnd h (fun hc h => ?_) (fun hc h => ?_)
    · refine w_seq fun K13 hK13 => ?_
      refine w_reg gC ?_
      try simp only [W, Nat.reduceAdd]
      refine seq_n hK13 ?_
      refine w_ret ?_
      refine seq_r hK11 ?_
      refine fin_r1 hK0 rfl ?_
      try obtain rfl := Option.some.inj h
      exact hP _ (hS.sel 1 [] (by decide))
    · refine w_skip ?_
      refine seq_n hK11 ?_
      refine w_seq fun K14 hK14 => ?_
      refine w_reg gC ?_
      try simp only [W, EE, Nat.reduceAdd, Nat.reduceBEq, hS.var 0 rfl]
      refine w_call h fun b15 hb15 h => ?_
      refine laws_szIntS_w hb15 hS fun H hS => ?_
      try simp only [W]
      refine seq_n hK14 ?_
      refine w_seq fun K16 hK16 => ?_
      refine w_seq fun K17 hK17 => ?_
      refine w_reg gC ?_
      try simp only [W, EE, Nat.reduceAdd]
      refine seq_n hK17 ?_
      refine w_if ?_
      simp only [W]
      refine w_cnd h (fun hc h => ?_) (fun hc h => ?_)
      · refine w_seq fun K18 hK18 => ?_
        refine w_reg gC ?_
        try simp only [W, Nat.reduceAdd]
        refine seq_n hK18 ?_
        refine w_ret ?_
        refine seq_r hK16 ?_
        refine fin_r1 hK0 rfl ?_
        try obtain rfl := Option.some.inj h
        exact hP _ (hS.sel 1 [] (by decide))
      · refine w_skip ?_
        refine seq_n hK16 ?_
        refine w_seq fun K19 hK19 => ?_
        refine w_reg gC ?_
        try simp only [W, EE, Nat.reduceAdd, Nat.reduceBEq, hS.var 0 rfl]
        refine w_call h fun b20 hb20 h => ?_
        refine laws_szIntS_w hb20 hS fun H hS => ?_
        try simp only [W]
        refine seq_n hK19 ?_
        refine w_seq fun K21 hK21 => ?_
        refine w_seq fun K22 hK22 => ?_
        refine w_reg gC ?_
        try simp only [W, EE, Nat.reduceAdd]
        refine seq_n hK22 ?_
        refine w_if ?_
        simp only [W]
        refine w_cnd h (fun hc h => ?_) (fun hc h => ?_)
        · refine w_seq fun K23 hK23 => ?_
          refine w_reg gC ?_
          try simp only [W, Nat.reduceAdd]
          refine seq_n hK23 ?_
          refine w_ret ?_
          refine seq_r hK21 ?_
          refine fin_r1 hK0 rfl ?_
          try obtain rfl := Option.some.inj h
          exact hP _ (hS.sel 1 [] (by decide))
        · refine w_skip ?_
          refine seq_n hK21 ?_
          refine w_seq fun K24 hK24 => ?_
          refine w_reg gC ?_
          try simp only [W, Nat.reduceAdd]
          refine seq_n hK24 ?_
          refine w_ret ?_
          refine fin_r1 hK0 rfl ?_
          try obtain rfl := Option.some.inj h
          exact hP _ (hS.sel 1 [] (by decide))
theorem laws_toIntS_w {a0 : List Int} {r : (List Int)} (h : laws_toIntS a0 = some r) {F : List It} {H : Heap} (hS : Own H (F)) {P : AV → Heap → Prop} (hP : ∀ v29 : AV, isSl v29 → ∀ H', Own H' (⟨v29, 1, r.map (AV.int .i64)⟩ :: F) → P (v29) H') : ACall C 111 [.fz (a0.map (AV.int .i64))] H P := by
  refine acall_of gC (res := [.tmp 2]) (n := 22) rfl rfl rfl rfl fun K0 hK0 => ?_
  simp only [W, Nat.reduceSub, Nat.reduceAdd, List.replicate]
  unfold laws_toIntS at h
  refine w_seq fun K1 hK1 => ?_
  refine w_reg gC ?_
  try simp only [W, Nat.reduceAdd]
  refine seq_n hK1 ?_
  refine w_seq fun K2 hK2 => ?_
  refine w_reg gC ?_
  try simp only [W, EE, Nat.reduceAdd]
  refine w_make (c := (AV.int .i64)) hS rfl rfl rfl rfl rfl rfl h fun v3 H x5 qv3 hm h hS => ?_
  try simp only [W]
  refine seq_n hK2 ?_
  refine w_seq fun K6 hK6 => ?_
  refine w_seq fun K7 hK7 => ?_
  refine w_reg gC ?_
  try simp only [W, Nat.reduceAdd]
  refine seq_n hK7 ?_
  obtain ⟨y11, hw12, g18⟩ := Option.bind_eq_some_iff.1 h
  refine w_join gC (fun s H => ∃ x10 : List Int, y11 = (x10) ∧ s = [u, u, u, v3, u, u, u, u, u, u, u, u, u, u, u, u, u, u, u, u, u, u] ∧ Own H (⟨v3, 1, x10.map (AV.int .i64)⟩ :: F)) (fun K13 hK13 => ?_) (fun s H hq => ?_)
  · refine w_blk fun K14 hK14 => ?_
    refine w_loop gC hw12 (fun x s H => match x with | (x8, x9) => s = [.fz (a0.map (AV.int .i64)), u, u, v3, .int .i64 x9, u, u, u, u, u, u, u, u, u, u, u, u, u, u, u, u, u] ∧ Own H (⟨v3, 1, x8.map (AV.int .i64)⟩ :: F)) ⟨rfl, hS⟩ (fun x y17 s H h hd16 hi K15 hK15 => ?_)
    obtain ⟨x8, x9⟩ := x
    try dsimp only at hi
    obtain ⟨rfl, hS⟩ := hi
    simp only [laws_toIntS_l0] at h
    refine w_seq fun K19 hK19 => ?_
    refine w_seq fun K20 hK20 => ?_
    refine w_reg gC ?_
    try simp only [W, EE, Nat.reduceAdd]
    refine seq_n hK20 ?_
    refine w_if ?_
    simp only [W]
    refine w_cnd h (fun hc h => ?_) (fun hc h => ?_)
    · refine w_skip ?_
      refine seq_n hK19 ?_
      refine w_seq fun K21 hK21 => ?_
      refine w_blk fun K22 hK22 => ?_
      refine w_reg gC ?_
      try simp only [W, EE, Nat.reduceAdd]
      refine w_fz rfl rfl rfl (fun _ => rfl) h fun b23 hb23 h => ?_
      try simp only [W, EE]
      refine w_ow 0 hS rfl rfl rfl rfl rfl h (fun b24 in25 wn25 on25 hb24 h en25 => ?_) qv3.ne
      obtain ⟨kn25, hbn25, hen25⟩ := hS.elem 0 rfl en25 hb24
      try simp only [W]
      refine w_ste (a := .int .i64 b23) (y' := b23) 0 hS rfl en25 hb24 rfl rfl rfl rfl rfl rfl rfl fun H hS => ?_
      try simp only [W]
      refine blk_n0 hK22 ?_
      refine seq_n hK21 ?_
      refine w_reg gC ?_
      try simp only [W, EE, Nat.reduceAdd]
      exact lp_n hK15 h ⟨rfl, hS⟩
    · refine w_exit ?_
      refine seq_x hK19 ?_
      try obtain rfl := Option.some.inj h
      obtain rfl := hd16 _ rfl
      have h : (some (x8) : Option ((List Int))) = some (x8) := rfl
      refine lp_x hK15 ?_
      refine blk_e hK14 ?_
      exact cut_n hK13 ⟨_, (Option.some.inj h).symm, rfl, hS⟩
  · obtain ⟨x10, ey, rfl, hS⟩ := hq; obtain rfl := ey.symm
    replace h := g18
    try dsimp only at h
    refine seq_n hK6 ?_
    refine w_seq fun K28 hK28 => ?_
    refine w_reg gC ?_
    try simp only [W, Nat.reduceAdd]
    refine seq_n hK28 ?_
    refine w_ret ?_
    refine fin_r1 hK0 rfl ?_
    try obtain rfl := Option.some.inj h
    exact hP _ qv3 _ hS
theorem laws_toIntSS_w {a0 : List (List Int)} {r : (List (List Int))} (h : laws_toIntSS a0 = some r) {F : List It} {H : Heap} (hS : Own H (F)) {P : AV → Heap → Prop} (hP : ∀ v39 : AV, isSl v39 → ∀ d41 : List AV, isSls d41 (r).length → ∀ H', Own H' (⟨v39, 1, ouw nm_SInt d41 r⟩ :: ((inn np_SInt (AV.int .i64) 1 d41 r) ++ F)) → P (v39) H') : ACall C 112 [.fz (a0.map (fzl (AV.int .i64)))] H P := by
  refine acall_of gC (res := [.tmp 2]) (n := 23) rfl rfl rfl rfl fun K0 hK0 => ?_
  simp only [W, Nat.reduceSub, Nat.reduceAdd, List.replicate]
  unfold laws_toIntSS at h
  refine w_seq fun K1 hK1 => ?_
  refine w_reg gC ?_
  try simp only [W, Nat.reduceAdd]
  refine seq_n hK1 ?_
  refine w_seq fun K2 hK2 => ?_
  refine w_reg gC ?_
  try simp only [W, EE, Nat.reduceAdd]
  refine w_makeN (m := nm_SInt) (p := np_SInt) (c := (AV.int .i64)) (z := 1) hS rfl rfl rfl rfl rfl rfl rfl h fun v3 H x5 d6 qv3 qd6 hm h hS => ?_
  have hS : Own _ (⟨v3, 1, ouw nm_SInt d6 x5⟩ :: ((inn np_SInt (AV.int .i64) 1 d6 x5) ++ (F))) := hS
  try simp only [W]
  refine seq_n hK2 ?_
  refine w_seq fun K7 hK7 => ?_
  refine w_seq fun K8 hK8 => ?_
  refine w_reg gC ?_
  try simp only [W, Nat.reduceAdd]
  refine seq_n hK8 ?_
  obtain ⟨y15, hw16, g22⟩ := Option.bind_eq_some_iff.1 h
  refine w_join gC (fun s H => ∃ x13 : List (List Int), y15 = (x13) ∧ ∃ d14 : List AV, isSls d14 (x13).length ∧ s = [u, u, u, v3, u, u, u, u, u, u, u, u, u, u, u, u, u, u, u, u, u, u, u] ∧ Own H (⟨v3, 1, ouw nm_SInt d14 x13⟩ :: ((inn np_SInt (AV.int .i64) 1 d14 x13) ++ F))) (fun K17 hK17 => ?_) (fun s H hq => ?_)
  · refine w_blk fun K18 hK18 => ?_
    refine w_loop gC hw16 (fun x s H => match x with | (x10, x12) => ∃ d11 : List AV, isSls d11 (x10).length ∧ s = [.fz (a0.map (fzl (AV.int .i64))), u, u, v3, .int .i64 x12, u, u, u, u, u, u, u, u, u, u, u, u, u, u, u, u, u, u] ∧ Own H (⟨v3, 1, ouw nm_SInt d11 x10⟩ :: ((inn np_SInt (AV.int .i64) 1 d11 x10) ++ F))) ⟨_, qd6, rfl, hS⟩ (fun x y21 s H h hd20 hi K19 hK19 => ?_)
    obtain ⟨x10, x12⟩ := x
    try dsimp only at hi
    obtain ⟨d11, qd11, rfl, hS⟩ := hi
    simp only [laws_toIntSS_l0] at h
    refine w_seq fun K23 hK23 => ?_
    refine w_seq fun K24 hK24 => ?_
    refine w_reg gC ?_
    try simp only [W, EE, Nat.reduceAdd]
    refine seq_n hK24 ?_
    refine w_if ?_
    simp only [W]
    refine w_cnd h (fun hc h => ?_) (fun hc h => ?_)
    · refine w_skip ?_
      refine seq_n hK23 ?_
      refine w_seq fun K25 hK25 => ?_
      refine w_blk fun K26 hK26 => ?_
      refine w_reg gC ?_
      try simp only [W, EE, Nat.reduceAdd]
      refine w_fz rfl rfl rfl (fun _ => rfl) h fun b27 hb27 h => ?_
      try simp only [W, EE, EN]
      refine w_call h fun b28 hb28 h => ?_
      refine laws_toIntS_w hb28 hS fun v29 qv29 H hS => ?_
      try simp only [W, EE]
      obtain ⟨b32, hb32, h⟩ := Option.bind_eq_some_iff.1 h
      have hS : Own _ (⟨v3, 1, ouw nm_SInt d11 x10⟩ :: ((inn np_SInt (AV.int .i64) 1 d11 x10) ++ (⟨v29, 1, b28.map (AV.int .i64)⟩ :: F))) := Own.catI_ (bl := [[⟨v29, 1, b28.map (AV.int .i64)⟩], [⟨v3, 1, ouw nm_SInt d11 x10⟩], (inn np_SInt (AV.int .i64) 1 d11 x10)]) (F := F) hS 3 rfl [1, 2, 0] (by decide)
      obtain ⟨v33, qv33, hS⟩ := openN (p := np_SInt) (c := (AV.int .i64)) (m := nm_SInt) (b := b32) hS qd11 hb32
      have hS : Own _ (⟨v33, 1, b32.map (AV.int .i64)⟩ :: ⟨v29, 1, b28.map (AV.int .i64)⟩ :: ⟨v3, 1, (ouw nm_SInt d11 x10).set x12.toNat (v33)⟩ :: ((inx np_SInt (AV.int .i64) 1 d11 x10 x12.toNat) ++ (F))) := Own.catI_ (bl := [[⟨v33, 1, b32.map (AV.int .i64)⟩], [⟨v3, 1, (ouw nm_SInt d11 x10).set x12.toNat (v33)⟩], (inx np_SInt (AV.int .i64) 1 d11 x10 x12.toNat), [⟨v29, 1, b28.map (AV.int .i64)⟩]]) (F := F) hS 4 rfl [0, 3, 1, 2] (by decide)
      refine w_owE (x := v33) 2 hS rfl rfl rfl rfl rfl (idx_some hb32).1 (holeG qd11 hb32) qv3 (fun in31 wn31 on31 en31 hkn31 => ?_)
      obtain ⟨kn31, hbn31, hen31⟩ := hkn31
      try simp only [W]
      refine w_stE (a := v29) (y' := v29) (i := x12.toNat) 2 hS rfl en31 (holeG qd11 hb32) rfl rfl rfl (by rw [qv29.cells]; rfl) qv29.stora (qv29.wr2 qv33) (by first | rfl | (rw [qv29.cells]; rfl)) (List.set_set ..) fun H hS => ?_
      try simp only [W]
      refine blk_n0 hK26 ?_
      refine seq_n hK25 ?_
      refine w_reg gC ?_
      try simp only [W, EE, Nat.reduceAdd]
      have hS : Own _ (⟨v29, 1, b28.map (AV.int .i64)⟩ :: ⟨v3, 1, (ouw nm_SInt d11 x10).set x12.toNat (v29)⟩ :: ((inx np_SInt (AV.int .i64) 1 d11 x10 x12.toNat) ++ (⟨v33, 1, b32.map (AV.int .i64)⟩ :: F))) := Own.catI_ (bl := [[⟨v33, 1, b32.map (AV.int .i64)⟩], [⟨v29, 1, b28.map (AV.int .i64)⟩], [⟨v3, 1, (ouw nm_SInt d11 x10).set x12.toNat (v29)⟩], (inx np_SInt (AV.int .i64) 1 d11 x10 x12.toNat)]) (F := F) hS 4 rfl [1, 2, 3, 0] (by decide)
      obtain ⟨d35, qd35, hS⟩ := closeN (p := np_SInt) (c := (AV.int .i64)) (m := nm_SInt) (b := b32) (y := b28) hS qd11 qv29 hb32
      have hS : Own _ (⟨v33, 1, b32.map (AV.int .i64)⟩ :: ⟨v3, 1, ouw nm_SInt d35 (x10.set x12.toNat b28)⟩ :: ((inn np_SInt (AV.int .i64) 1 d35 (x10.set x12.toNat b28)) ++ (F))) := Own.catI_ (bl := [[⟨v3, 1, ouw nm_SInt d35 (x10.set x12.toNat b28)⟩], (inn np_SInt (AV.int .i64) 1 d35 (x10.set x12.toNat b28)), [⟨v33, 1, b32.map (AV.int .i64)⟩]]) (F := F) hS 3 rfl [2, 0, 1] (by decide)
      have hS : Own _ (⟨v3, 1, ouw nm_SInt d35 (x10.set x12.toNat b28)⟩ :: ((inn np_SInt (AV.int .i64) 1 d35 (x10.set x12.toNat b28)) ++ (F))) := Own.catI_ (bl := [[⟨v33, 1, b32.map (AV.int .i64)⟩], [⟨v3, 1, ouw nm_SInt d35 (x10.set x12.toNat b28)⟩], (inn np_SInt (AV.int .i64) 1 d35 (x10.set x12.toNat b28))]) (F := F) hS 3 rfl [1, 2] (by decide)
      exact lp_n hK19 h ⟨_, qd35, rfl, hS⟩
    · refine w_exit ?_
      refine seq_x hK23 ?_
      try obtain rfl := Option.some.inj h
      obtain rfl := hd20 _ rfl
      have h : (some (x10) : Option ((List (List Int)))) = some (x10) := rfl
      refine lp_x hK19 ?_
      refine blk_e hK18 ?_
      exact cut_n hK17 ⟨_, (Option.some.inj h).symm, _, qd11, rfl, hS⟩
  · obtain ⟨x13, ey, d14, qd14, rfl, hS⟩ := hq; obtain rfl := ey.symm
    replace h := g22
    try dsimp only at h
    refine seq_n hK7 ?_
    refine w_seq fun K38 hK38 => ?_
    refine w_reg gC ?_
    try simp only [W, Nat.reduceAdd]
    refine seq_n hK38 ?_
    refine w_ret ?_
    refine fin_r1 hK0 rfl ?_
    try obtain rfl := Option.some.inj h
    exact hP _ qv3 _ qd14 _ hS
theorem laws_toTurns_w {a0 : Turns} {r : (Turns)} (h : laws_toTurns a0 = some r) {F : List It} {H : Heap} (hS : Own H (F)) {P : AV → Heap → Prop} (hP : ∀ v28 : AV, isSl v28 → ∀ v30 : AV, isSl v30 → ∀ d32 : List AV, isSls d32 (r.Queues).length → ∀ v33 : AV, isSl v33 → ∀ v35 : AV, isSl v35 → ∀ H', Own H' (⟨v28, 1, r.Quanta.map (AV.int .i64)⟩ :: ⟨v30, 1, ouw nm_SInt d32 r.Queues⟩ :: ⟨v33, 1, r.Credit.map (AV.int .i64)⟩ :: ⟨v35, 1, r.Sent.map (AV.int .i64)⟩ :: ((inn np_SInt (AV.int .i64) 1 d32 r.Queues) ++ F)) → P (.agg [v28, v30, v33, v35, .int .i64 r.At]) H') : ACall C 17 [.agg [.fz (a0.Quanta.map (AV.int .i64)), .fz (a0.Queues.map (fzl (AV.int .i64))), .fz (a0.Credit.map (AV.int .i64)), .fz (a0.Sent.map (AV.int .i64)), .int .i64 a0.At]] H P := by
  refine acall_of gC (res := [.cell 2 27]) (n := 24) rfl rfl rfl rfl fun K0 hK0 => ?_
  simp only [W, Nat.reduceSub, Nat.reduceAdd, List.replicate]
  unfold laws_toTurns at h
  refine w_seq fun K1 hK1 => ?_
  refine w_reg gC ?_
  try simp only [W, Nat.reduceAdd]
  refine w_box hS rfl rfl rfl rfl fun ip2 wp2 H hS => ?_
  try simp only [W]
  refine w_alloc hS rfl rfl fun ip4 wp4 H hS => ?_
  try simp only [W]
  refine seq_n hK1 ?_
  refine w_seq fun K6 hK6 => ?_
  refine w_reg gC ?_
  try simp only [W, Nat.reduceAdd]
  refine w_alloc hS rfl rfl fun ip7 wp7 H hS => ?_
  try simp only [W]
  refine seq_n hK6 ?_
  refine w_seq fun K9 hK9 => ?_
  refine w_reg gC ?_
  try simp only [W, EE, Nat.reduceAdd, Nat.reduceBEq, hS.var 2 rfl]
  refine w_call h fun b10 hb10 h => ?_
  refine laws_toIntS_w hb10 hS fun v11 qv11 H hS => ?_
  try simp only [W, EE, Nat.reduceAdd, Nat.reduceBEq, hS.var 1 rfl]
  refine w_stv (a := v11) (y' := .agg [v11, .nil, .nil, .nil, .int .i64 0]) 1 hS rfl rfl rfl rfl (by rw [qv11.cells]; rfl) qv11.stora (qv11.wr _ _ (by simp)) rfl fun H hS => ?_
  try simp only [W]
  refine seq_n hK9 ?_
  refine w_seq fun K13 hK13 => ?_
  refine w_reg gC ?_
  try simp only [W, EE, Nat.reduceAdd, Nat.reduceBEq, hS.var 3 rfl]
  refine w_call h fun b14 hb14 h => ?_
  refine laws_toIntSS_w hb14 hS fun v15 qv15 d17 qd17 H hS => ?_
  have hS : Own _ (⟨v15, 1, ouw nm_SInt d17 b14⟩ :: ⟨v11, 1, b10.map (AV.int .i64)⟩ :: ⟨.ptr ip7 wp7 0 0, 5, [.agg [v11, .nil, .nil, .nil, .int .i64 0]]⟩ :: ⟨.ptr ip4 wp4 0 0, 5, [.agg [.nil, .nil, .nil, .nil, .int .i64 0]]⟩ :: ⟨.ptr ip2 wp2 0 0, 5, [.agg [.fz (a0.Quanta.map (AV.int .i64)), .fz (a0.Queues.map (fzl (AV.int .i64))), .fz (a0.Credit.map (AV.int .i64)), .fz (a0.Sent.map (AV.int .i64)), .int .i64 a0.At]]⟩ :: ((inn np_SInt (AV.int .i64) 1 d17 b14) ++ (F))) := Own.catI_ (bl := [[⟨v15, 1, ouw nm_SInt d17 b14⟩], (inn np_SInt (AV.int .i64) 1 d17 b14), [⟨v11, 1, b10.map (AV.int .i64)⟩], [⟨.ptr ip7 wp7 0 0, 5, [.agg [v11, .nil, .nil, .nil, .int .i64 0]]⟩], [⟨.ptr ip4 wp4 0 0, 5, [.agg [.nil, .nil, .nil, .nil, .int .i64 0]]⟩], [⟨.ptr ip2 wp2 0 0, 5, [.agg [.fz (a0.Quanta.map (AV.int .i64)), .fz (a0.Queues.map (fzl (AV.int .i64))), .fz (a0.Credit.map (AV.int .i64)), .fz (a0.Sent.map (AV.int .i64)), .int .i64 a0.At]]⟩]]) (F := F) hS 6 rfl [0, 2, 3, 4, 5, 1] (by decide)
  try simp only [W, EE, Nat.reduceAdd, Nat.reduceBEq, hS.var 2 rfl]
  refine w_stv (a := v15) (y' := .agg [v11, v15, .nil, .nil, .int .i64 0]) 2 hS rfl rfl rfl rfl (by rw [qv15.cells]; rfl) qv15.stora (qv15.wr _ _ (by simp)) rfl fun H hS => ?_
  try simp only [W]
  refine seq_n hK13 ?_
  refine w_seq fun K18 hK18 => ?_
  refine w_reg gC ?_
  try simp only [W, EE, Nat.reduceAdd, Nat.reduceBEq, hS.var 4 rfl]
  refine w_call h fun b19 hb19 h => ?_
  refine laws_toIntS_w hb19 hS fun v20 qv20 H hS => ?_
  try simp only [W, EE, Nat.reduceAdd, Nat.reduceBEq, hS.var 3 rfl]
  refine w_stv (a := v20) (y' := .agg [v11, v15, v20, .nil, .int .i64 0]) 3 hS rfl rfl rfl rfl (by rw [qv20.cells]; rfl) qv20.stora (qv20.wr _ _ (by simp)) rfl fun H hS => ?_
  try simp only [W]
  refine seq_n hK18 ?_
  refine w_seq fun K22 hK22 => ?_
  refine w_reg gC ?_
  try simp only [W, EE, Nat.reduceAdd, Nat.reduceBEq, hS.var 5 rfl]
  refine w_call h fun b23 hb23 h => ?_
  refine laws_toIntS_w hb23 hS fun v24 qv24 H hS => ?_
  try simp only [W, EE, Nat.reduceAdd, Nat.reduceBEq, hS.var 4 rfl]
  refine w_stv (a := v24) (y' := .agg [v11, v15, v20, v24, .int .i64 0]) 4 hS rfl rfl rfl rfl (by rw [qv24.cells]; rfl) qv24.stora (qv24.wr _ _ (by simp)) rfl fun H hS => ?_
  try simp only [W]
  refine seq_n hK22 ?_
  refine w_seq fun K26 hK26 => ?_
  refine w_reg gC ?_
  try simp only [W, EE, Nat.reduceAdd, Nat.reduceBEq, hS.var 6 rfl, hS.var 4 rfl]
  refine w_stv (a := .int .i64 a0.At) (y' := .agg [v11, v15, v20, v24, .int .i64 a0.At]) 4 hS rfl rfl rfl rfl rfl rfl rfl rfl fun H hS => ?_
  try simp only [W]
  refine seq_n hK26 ?_
  refine w_seq fun K27 hK27 => ?_
  refine w_reg gC ?_
  try simp only [W, EE, reduceIte, Nat.reduceAdd, Nat.reduceLeDiff, hS.var 4 rfl]
  refine w_stv (a := .agg [v11, v15, v20, v24, .int .i64 a0.At]) (y' := .agg [v11, v15, v20, v24, .int .i64 a0.At]) 5 hS rfl rfl rfl rfl rfl (by simp only [storA, List.all_cons, List.all_nil, qv11.stor, qv15.stor, qv20.stor, qv24.stor]; rfl) rfl rfl fun H hS => ?_
  try simp only [W]
  refine seq_n hK27 ?_
  refine w_ret ?_
  refine fin_r hK0 (res_c rfl rfl (hS.var 5 rfl) rfl rfl) ?_
  try obtain rfl := Option.some.inj h
  have hS : Own _ (⟨v11, 1, b10.map (AV.int .i64)⟩ :: ⟨v15, 1, ouw nm_SInt d17 b14⟩ :: ⟨v20, 1, b19.map (AV.int .i64)⟩ :: ⟨v24, 1, b23.map (AV.int .i64)⟩ :: ((inn np_SInt (AV.int .i64) 1 d17 b14) ++ (F))) := Own.catI_ (bl := [[⟨v24, 1, b23.map (AV.int .i64)⟩], [⟨v20, 1, b19.map (AV.int .i64)⟩], [⟨v15, 1, ouw nm_SInt d17 b14⟩], [⟨v11, 1, b10.map (AV.int .i64)⟩], [⟨.ptr ip7 wp7 0 0, 5, [.agg [v11, v15, v20, v24, .int .i64 a0.At]]⟩], [⟨.ptr ip4 wp4 0 0, 5, [.agg [v11, v15, v20, v24, .int .i64 a0.At]]⟩], [⟨.ptr ip2 wp2 0 0, 5, [.agg [.fz (a0.Quanta.map (AV.int .i64)), .fz (a0.Queues.map (fzl (AV.int .i64))), .fz (a0.Credit.map (AV.int .i64)), .fz (a0.Sent.map (AV.int .i64)), .int .i64 a0.At]]⟩], (inn np_SInt (AV.int .i64) 1 d17 b14)]) (F := F) hS 8 rfl [3, 2, 1, 0, 7] (by decide)
  exact hP _ qv11 _ qv15 _ qd17 _ qv20 _ qv24 _ hS
theorem spec_l1In_w {a0 : Int} {a1 : Int} {a2 : Int} {r : (Bool)} (h : spec_l1In a0 a1 a2 = some r) {F : List It} {H : Heap} (hS : Own H (F)) {P : AV → Heap → Prop} (hP : ∀ H', Own H' (F) → P (.bool r) H') : ACall C 109 [.int .i64 a0, .int .i64 a1, .int .i64 a2] H P := by
  refine acall_of gC (res := [.tmp 6]) (n := 15) rfl rfl rfl rfl fun K0 hK0 => ?_
  simp only [W, Nat.reduceSub, Nat.reduceAdd, List.replicate]
  unfold spec_l1In at h
  refine w_seq fun K1 hK1 => ?_
  refine w_reg gC ?_
  try simp only [W, Nat.reduceAdd]
  refine seq_n hK1 ?_
  refine w_seq fun K2 hK2 => ?_
  refine w_reg gC ?_
  try simp only [W, EE, Nat.reduceAdd]
  refine w_grdT h (fun hc h => ?_) (fun hc h => ?_)
  · try simp only [W, EE, reduceIte, hc]
    refine seq_n hK2 ?_
    refine w_ret ?_
    refine fin_r1 hK0 rfl ?_
    try obtain rfl := Option.some.inj h
    exact hP _ hS
  · try simp only [W, hc]
    refine seq_n hK2 ?_
    refine w_ret ?_
    refine fin_r1 hK0 rfl ?_
    try obtain rfl := Option.some.inj h
    exact hP _ hS
theorem spec_l1All_w {a0 : List Int} {a1 : Int} {a2 : Int} {r : (Bool)} (h : spec_l1All a0 a1 a2 = some r) {F : List It} {H : Heap} (hS : Own H (F)) {P : AV → Heap → Prop} (hP : ∀ H', Own H' (F) → P (.bool r) H') : ACall C 174 [.fz (a0.map (AV.int .i64)), .int .i64 a1, .int .i64 a2] H P := by
  refine acall_of gC (res := [.tmp 6]) (n := 21) rfl rfl rfl rfl fun K0 hK0 => ?_
  simp only [W, Nat.reduceSub, Nat.reduceAdd, List.replicate]
  unfold spec_l1All at h
  refine w_seq fun K1 hK1 => ?_
  refine w_reg gC ?_
  try simp only [W, Nat.reduceAdd]
  refine seq_n hK1 ?_
  refine w_seq fun K2 hK2 => ?_
  refine w_seq fun K3 hK3 => ?_
  refine w_reg gC ?_
  try simp only [W, EE, Nat.reduceAdd]
  refine seq_n hK3 ?_
  obtain ⟨y5, hw6, g12⟩ := Option.bind_eq_some_iff.1 h
  refine w_join gC (fun s H => y5 = LR.next () ∧ s = [u, u, u, u, u, u, u, u, u, u, u, u, u, u, u, u, u, u, u, u, u] ∧ Own H (F)) (fun K7 hK7 => ?_) (fun s H hq => ?_)
  · refine w_blk fun K8 hK8 => ?_
    refine w_loop gC hw6 (fun x s H => s = [u, .int .i64 a1, .int .i64 a2, u, u, u, u, u, u, .fz (a0.map (AV.int .i64)), .int .i64 (a0.length : Int), .int .i64 x, u, u, u, u, u, u, u, u, u] ∧ Own H (F)) ⟨rfl, hS⟩ (fun x4 y11 s H h hd10 hi K9 hK9 => ?_)
    skip
    try dsimp only at hi
    obtain ⟨rfl, hS⟩ := hi
    simp only [spec_l1All_l0] at h
    refine w_seq fun K13 hK13 => ?_
    refine w_reg gC ?_
    try simp only [W, EE, Nat.reduceAdd]
    refine seq_n hK13 ?_
    refine w_seq fun K14 hK14 => ?_
    refine w_if ?_
    simp only [W]
    refine w_cnd h (fun hc h => ?_) (fun hc h => ?_)
    · refine w_skip ?_
      refine seq_n hK14 ?_
      refine w_seq fun K15 hK15 => ?_
      refine w_blk fun K16 hK16 => ?_
      refine w_seq fun K17 hK17 => ?_
      refine w_reg gC ?_
      try simp only [W, EE, Nat.reduceAdd]
      refine w_fz rfl rfl rfl (fun _ => rfl) h fun b18 hb18 h => ?_
      try simp only [W, EE]
      refine seq_n hK17 ?_
      refine w_seq fun K19 hK19 => ?_
      refine w_reg gC ?_
      try simp only [W, Nat.reduceAdd]
      refine w_call h fun b20 hb20 h => ?_
      refine spec_l1In_w hb20 hS fun H hS => ?_
      try simp only [W]
      refine seq_n hK19 ?_
      refine w_if ?_
      simp only [W]
      refine w_cnd h (fun hc h => ?_) (fun hc h => ?_)
      · refine w_seq fun K21 hK21 => ?_
        refine w_reg gC ?_
        try simp only [W, Nat.reduceAdd]
        refine seq_n hK21 ?_
        refine w_ret ?_
        refine blk_r hK16 ?_
        refine seq_r hK15 ?_
        try obtain rfl := Option.some.inj h
        obtain rfl := hd10 _ rfl
        have h : (some (LR.done false) : Option (LR Unit (Bool))) = some (LR.done false) := rfl
        refine lp_r hK9 ?_
        refine blk_r hK8 ?_
        try obtain rfl := Option.some.inj h
        obtain rfl := Option.some.inj g12
        have h : (some false : Option (Bool)) = some false := rfl
        refine cut_r hK7 ?_
        refine seq_r hK2 ?_
        refine fin_r1 hK0 rfl ?_
        try obtain rfl := Option.some.inj h
        exact hP _ hS
      · refine w_skip ?_
        refine blk_n0 hK16 ?_
        refine seq_n hK15 ?_
        refine w_reg gC ?_
        try simp only [W, EE, Nat.reduceAdd]
        exact lp_n hK9 h ⟨rfl, hS⟩
    · refine w_exit ?_
      refine seq_x hK14 ?_
      try obtain rfl := Option.some.inj h
      obtain rfl := hd10 _ rfl
      have h : (some (LR.next ()) : Option (LR Unit (Bool))) = some (LR.next ()) := rfl
      refine lp_x hK9 ?_
      refine blk_e hK8 ?_
      exact cut_n hK7 ⟨(Option.some.inj h).symm, rfl, hS⟩
  · obtain ⟨rfl, rfl, hS⟩ := hq
    replace h := g12
    try dsimp only at h
    refine seq_n hK2 ?_
    refine w_seq fun K28 hK28 => ?_
    refine w_reg gC ?_
    try simp only [W, Nat.reduceAdd]
    refine seq_n hK28 ?_
    refine w_ret ?_
    refine fin_r1 hK0 rfl ?_
    try obtain rfl := Option.some.inj h
    exact hP _ hS
theorem spec_GoodTurns_w {a0 : Turns} {r : (Bool)} (h : spec_GoodTurns a0 = some r) {F : List It} {H : Heap} (hS : Own H (F)) {P : AV → Heap → Prop} (hP : ∀ H', Own H' (F) → P (.bool r) H') : ACall C 108 [.agg [.fz (a0.Quanta.map (AV.int .i64)), .fz (a0.Queues.map (fzl (AV.int .i64))), .fz (a0.Credit.map (AV.int .i64)), .fz (a0.Sent.map (AV.int .i64)), .int .i64 a0.At]] H P := by
  refine acall_of gC (res := [.tmp 2]) (n := 89) rfl rfl rfl rfl fun K0 hK0 => ?_
  simp only [W, Nat.reduceSub, Nat.reduceAdd, List.replicate]
  unfold spec_GoodTurns at h
  refine w_seq fun K1 hK1 => ?_
  refine w_reg gC ?_
  try simp only [W, Nat.reduceAdd]
  refine w_box hS rfl rfl rfl rfl fun ip2 wp2 H hS => ?_
  try simp only [W]
  refine seq_n hK1 ?_
  refine w_seq fun K4 hK4 => ?_
  refine w_reg gC ?_
  try simp only [W, EE, Nat.reduceAdd, Nat.reduceBEq, hS.var 0 rfl]
  refine seq_n hK4 ?_
  refine w_seq fun K5 hK5 => ?_
  refine w_seq fun K6 hK6 => ?_
  obtain ⟨y8, h, g9⟩ := Option.bind_eq_some_iff.1 h
  refine w_join gC (fun s H => ∃ x7 : Bool, y8 = (x7) ∧ s = (u :: .ptr ip2 wp2 0 0 :: u :: u :: u :: u :: u :: u :: u :: u :: u :: u :: u :: u :: u :: u :: u :: u :: u :: u :: u :: u :: u :: u :: u :: u :: u :: u :: u :: u :: u :: u :: u :: u :: u :: u :: u :: u :: u :: u :: u :: u :: u :: u :: u :: u :: u :: u :: u :: u :: u :: u :: u :: u :: u :: u :: u :: u :: .bool x7 :: u :: u :: u :: u :: u :: u :: u :: u :: u :: u :: u :: u :: u :: u :: u :: u :: u :: u :: u :: u :: u :: u :: u :: u :: u :: u :: u :: u :: u :: u :: []) ∧ Own H (⟨.ptr ip2 wp2 0 0, 5, [.agg [.fz (a0.Quanta.map (AV.int .i64)), .fz (a0.Queues.map (fzl (AV.int .i64))), .fz (a0.Credit.map (AV.int .i64)), .fz (a0.Sent.map (AV.int .i64)), .int .i64 a0.At]]⟩ :: F)) (fun K10 hK10 => ?_) (fun s H hq => ?_)
  · refine w_seq fun K11 hK11 => ?_
    refine w_reg gC ?_
    try simp only [W, Nat.reduceAdd]
    refine w_call h fun b12 hb12 h => ?_
    refine spec_l1In_w hb12 hS fun H hS => ?_
    try simp only [W]
    refine w_grdT h (fun hc h => ?_) (fun hc h => ?_)
    · try simp only [W, hc]
      refine seq_n hK11 ?_
      refine w_killE (s' := (u :: .ptr ip2 wp2 0 0 :: u :: u :: u :: u :: u :: u :: u :: u :: u :: u :: u :: u :: u :: u :: u :: u :: u :: u :: u :: u :: u :: u :: u :: u :: u :: u :: u :: u :: u :: u :: u :: u :: u :: u :: u :: u :: u :: u :: u :: u :: u :: u :: u :: u :: u :: u :: u :: u :: u :: u :: u :: u :: u :: u :: u :: u :: .bool true :: u :: u :: u :: u :: u :: u :: u :: u :: u :: u :: u :: u :: u :: u :: u :: u :: u :: u :: u :: u :: u :: u :: u :: u :: u :: u :: u :: u :: u :: u :: [])) rfl ?_
      exact cut_n hK10 ⟨_, (Option.some.inj h).symm, rfl, hS⟩
    · try simp only [W, EE, Nat.reduceAdd, Nat.reduceBEq, hS.var 0 rfl, hc]
      refine w_call h fun b13 hb13 h => ?_
      refine spec_l1All_w hb13 hS fun H hS => ?_
      try simp only [W, reduceIte, Bool.false_eq_true]
      refine w_grdT h (fun hc h => ?_) (fun hc h => ?_)
      · try simp only [W, hc]
        refine seq_n hK11 ?_
        refine w_killE (s' := (u :: .ptr ip2 wp2 0 0 :: u :: u :: u :: u :: u :: u :: u :: u :: u :: u :: u :: u :: u :: u :: u :: u :: u :: u :: u :: u :: u :: u :: u :: u :: u :: u :: u :: u :: u :: u :: u :: u :: u :: u :: u :: u :: u :: u :: u :: u :: u :: u :: u :: u :: u :: u :: u :: u :: u :: u :: u :: u :: u :: u :: u :: u :: .bool true :: u :: u :: u :: u :: u :: u :: u :: u :: u :: u :: u :: u :: u :: u :: u :: u :: u :: u :: u :: u :: u :: u :: u :: u :: u :: u :: u :: u :: u :: u :: [])) rfl ?_
        exact cut_n hK10 ⟨_, (Option.some.inj h).symm, rfl, hS⟩
      · try simp only [W, EE, reduceIte, Nat.reduceAdd, Nat.reduceBEq, Bool.false_eq_true, hS.var 0 rfl, hc]
        refine w_grdT h (fun hc h => ?_) (fun hc h => ?_)
        · try simp only [W, hc]
          refine seq_n hK11 ?_
          refine w_killE (s' := (u :: .ptr ip2 wp2 0 0 :: u :: u :: u :: u :: u :: u :: u :: u :: u :: u :: u :: u :: u :: u :: u :: u :: u :: u :: u :: u :: u :: u :: u :: u :: u :: u :: u :: u :: u :: u :: u :: u :: u :: u :: u :: u :: u :: u :: u :: u :: u :: u :: u :: u :: u :: u :: u :: u :: u :: u :: u :: u :: u :: u :: u :: u :: .bool true :: u :: u :: u :: u :: u :: u :: u :: u :: u :: u :: u :: u :: u :: u :: u :: u :: u :: u :: u :: u :: u :: u :: u :: u :: u :: u :: u :: u :: u :: u :: [])) rfl ?_
          exact cut_n hK10 ⟨_, (Option.some.inj h).symm, rfl, hS⟩
        · try simp only [W, EE, reduceIte, Nat.reduceAdd, Nat.reduceBEq, Bool.false_eq_true, hS.var 0 rfl, hc]
          refine w_grdT h (fun hc h => ?_) (fun hc h => ?_)
          · try simp only [W, hc]
            refine seq_n hK11 ?_
            refine w_killE (s' := (u :: .ptr ip2 wp2 0 0 :: u :: u :: u :: u :: u :: u :: u :: u :: u :: u :: u :: u :: u :: u :: u :: u :: u :: u :: u :: u :: u :: u :: u :: u :: u :: u :: u :: u :: u :: u :: u :: u :: u :: u :: u :: u :: u :: u :: u :: u :: u :: u :: u :: u :: u :: u :: u :: u :: u :: u :: u :: u :: u :: u :: u :: u :: .bool true :: u :: u :: u :: u :: u :: u :: u :: u :: u :: u :: u :: u :: u :: u :: u :: u :: u :: u :: u :: u :: u :: u :: u :: u :: u :: u :: u :: u :: u :: u :: [])) rfl ?_
            exact cut_n hK10 ⟨_, (Option.some.inj h).symm, rfl, hS⟩
          · try simp only [W, EE, reduceIte, Nat.reduceAdd, Nat.reduceBEq, Bool.false_eq_true, hS.var 0 rfl, hc]
            refine w_grdT h (fun hc h => ?_) (fun hc h => ?_)
            · try simp only [W, hc]
              refine seq_n hK11 ?_
              refine w_killE (s' := (u :: .ptr ip2 wp2 0 0 :: u :: u :: u :: u :: u :: u :: u :: u :: u :: u :: u :: u :: u :: u :: u :: u :: u :: u :: u :: u :: u :: u :: u :: u :: u :: u :: u :: u :: u :: u :: u :: u :: u :: u :: u :: u :: u :: u :: u :: u :: u :: u :: u :: u :: u :: u :: u :: u :: u :: u :: u :: u :: u :: u :: u :: u :: .bool true :: u :: u :: u :: u :: u :: u :: u :: u :: u :: u :: u :: u :: u :: u :: u :: u :: u :: u :: u :: u :: u :: u :: u :: u :: u :: u :: u :: u :: u :: u :: [])) rfl ?_
              exact cut_n hK10 ⟨_, (Option.some.inj h).symm, rfl, hS⟩
            · try simp only [W, EE, Nat.reduceAdd, Nat.reduceBEq, hS.var 0 rfl, hc]
              refine w_call h fun b14 hb14 h => ?_
              refine spec_l1All_w hb14 hS fun H hS => ?_
              try simp only [W, reduceIte, Bool.false_eq_true]
              refine w_grdT h (fun hc h => ?_) (fun hc h => ?_)
              · try simp only [W, hc]
                refine seq_n hK11 ?_
                refine w_killE (s' := (u :: .ptr ip2 wp2 0 0 :: u :: u :: u :: u :: u :: u :: u :: u :: u :: u :: u :: u :: u :: u :: u :: u :: u :: u :: u :: u :: u :: u :: u :: u :: u :: u :: u :: u :: u :: u :: u :: u :: u :: u :: u :: u :: u :: u :: u :: u :: u :: u :: u :: u :: u :: u :: u :: u :: u :: u :: u :: u :: u :: u :: u :: u :: .bool true :: u :: u :: u :: u :: u :: u :: u :: u :: u :: u :: u :: u :: u :: u :: u :: u :: u :: u :: u :: u :: u :: u :: u :: u :: u :: u :: u :: u :: u :: u :: [])) rfl ?_
                exact cut_n hK10 ⟨_, (Option.some.inj h).symm, rfl, hS⟩
              · try simp only [W, EE, Nat.reduceAdd, Nat.reduceBEq, hS.var 0 rfl, hc]
                refine w_call h fun b15 hb15 h => ?_
                refine spec_l1All_w hb15 hS fun H hS => ?_
                try simp only [W, reduceIte, Bool.false_eq_true]
                refine w_grdT h (fun hc h => ?_) (fun hc h => ?_)
                · try simp only [W, hc]
                  refine seq_n hK11 ?_
                  refine w_killE (s' := (u :: .ptr ip2 wp2 0 0 :: u :: u :: u :: u :: u :: u :: u :: u :: u :: u :: u :: u :: u :: u :: u :: u :: u :: u :: u :: u :: u :: u :: u :: u :: u :: u :: u :: u :: u :: u :: u :: u :: u :: u :: u :: u :: u :: u :: u :: u :: u :: u :: u :: u :: u :: u :: u :: u :: u :: u :: u :: u :: u :: u :: u :: u :: .bool true :: u :: u :: u :: u :: u :: u :: u :: u :: u :: u :: u :: u :: u :: u :: u :: u :: u :: u :: u :: u :: u :: u :: u :: u :: u :: u :: u :: u :: u :: u :: [])) rfl ?_
                  exact cut_n hK10 ⟨_, (Option.some.inj h).symm, rfl, hS⟩
                · try simp only [W, EE, Nat.reduceAdd, Nat.reduceBEq, hS.var 0 rfl, hc]
                  refine w_call h fun b16 hb16 h => ?_
                  refine spec_l1In_w hb16 hS fun H hS => ?_
                  try simp only [W, reduceIte, Bool.false_eq_true]
                  refine seq_n hK11 ?_
                  refine w_killE (s' := (u :: .ptr ip2 wp2 0 0 :: u :: u :: u :: u :: u :: u :: u :: u :: u :: u :: u :: u :: u :: u :: u :: u :: u :: u :: u :: u :: u :: u :: u :: u :: u :: u :: u :: u :: u :: u :: u :: u :: u :: u :: u :: u :: u :: u :: u :: u :: u :: u :: u :: u :: u :: u :: u :: u :: u :: u :: u :: u :: u :: u :: u :: u :: .bool (!b16) :: u :: u :: u :: u :: u :: u :: u :: u :: u :: u :: u :: u :: u :: u :: u :: u :: u :: u :: u :: u :: u :: u :: u :: u :: u :: u :: u :: u :: u :: u :: [])) rfl ?_
                  exact cut_n hK10 ⟨_, (Option.some.inj h).symm, rfl, hS⟩
  · obtain ⟨x7, ey, rfl, hS⟩ := hq; obtain rfl := ey.symm
    replace h := g9
    try dsimp only at h
    refine seq_n hK6 ?_
    refine w_if ?_
    simp only [W]
    refine w_cnd h (fun hc h => ?_) (fun hc h => ?_)
    · refine w_seq fun K17 hK17 => ?_
      refine w_reg gC ?_
      try simp only [W, Nat.reduceAdd]
      refine seq_n hK17 ?_
      refine w_ret ?_
      refine seq_r hK5 ?_
      refine fin_r1 hK0 rfl ?_
      try obtain rfl := Option.some.inj h
      exact hP _ (hS.sel 1 [] (by decide))
    · refine w_skip ?_
      refine seq_n hK5 ?_
      refine w_seq fun K18 hK18 => ?_
      refine w_seq fun K19 hK19 => ?_
      refine w_reg gC ?_
      try simp only [W, EE, Nat.reduceAdd, Nat.reduceBEq, hS.var 0 rfl]
      refine seq_n hK19 ?_
      obtain ⟨y21, hw22, g28⟩ := Option.bind_eq_some_iff.1 h
      refine w_join gC (fun s H => y21 = LR.next () ∧ s = (u :: u :: u :: u :: u :: u :: u :: u :: u :: u :: u :: u :: u :: u :: u :: u :: u :: u :: u :: u :: u :: u :: u :: u :: u :: u :: u :: u :: u :: u :: u :: u :: u :: u :: u :: u :: u :: u :: u :: u :: u :: u :: u :: u :: u :: u :: u :: u :: u :: u :: u :: u :: u :: u :: u :: u :: u :: u :: u :: u :: u :: u :: u :: u :: u :: u :: u :: u :: u :: u :: u :: u :: u :: u :: u :: u :: u :: u :: u :: u :: u :: u :: u :: u :: u :: u :: u :: u :: u :: []) ∧ Own H (F)) (fun K23 hK23 => ?_) (fun s H hq => ?_)
      · refine w_blk fun K24 hK24 => ?_
        refine w_loop gC hw22 (fun x s H => s = (u :: .ptr ip2 wp2 0 0 :: u :: u :: u :: u :: u :: u :: u :: u :: u :: u :: u :: u :: u :: u :: u :: u :: u :: u :: u :: u :: u :: u :: u :: u :: u :: u :: u :: u :: u :: u :: u :: u :: u :: u :: u :: u :: u :: u :: u :: u :: u :: u :: u :: u :: u :: u :: u :: u :: u :: u :: u :: u :: u :: u :: u :: u :: u :: u :: .fz (a0.Queues.map (fzl (AV.int .i64))) :: .int .i64 (a0.Queues.length : Int) :: .int .i64 x :: u :: u :: u :: u :: u :: u :: u :: u :: u :: u :: u :: u :: u :: u :: u :: u :: u :: u :: u :: u :: u :: u :: u :: u :: u :: u :: []) ∧ Own H (⟨.ptr ip2 wp2 0 0, 5, [.agg [.fz (a0.Quanta.map (AV.int .i64)), .fz (a0.Queues.map (fzl (AV.int .i64))), .fz (a0.Credit.map (AV.int .i64)), .fz (a0.Sent.map (AV.int .i64)), .int .i64 a0.At]]⟩ :: F)) ⟨rfl, hS⟩ (fun x20 y27 s H h hd26 hi K25 hK25 => ?_)
        skip
        try dsimp only at hi
        obtain ⟨rfl, hS⟩ := hi
        simp only [spec_GoodTurns_l0] at h
        refine w_seq fun K29 hK29 => ?_
        refine w_reg gC ?_
        try simp only [W, EE, Nat.reduceAdd]
        refine seq_n hK29 ?_
        refine w_seq fun K30 hK30 => ?_
        refine w_if ?_
        simp only [W]
        refine w_cnd h (fun hc h => ?_) (fun hc h => ?_)
        · refine w_skip ?_
          refine seq_n hK30 ?_
          refine w_seq fun K31 hK31 => ?_
          refine w_blk fun K32 hK32 => ?_
          refine w_seq fun K33 hK33 => ?_
          refine w_reg gC ?_
          try simp only [W, EE, Nat.reduceAdd]
          refine w_fz rfl rfl rfl (fun _ => rfl) h fun b34 hb34 h => ?_
          try simp only [W, EE, EN]
          refine seq_n hK33 ?_
          refine w_seq fun K35 hK35 => ?_
          obtain ⟨y37, h, g38⟩ := Option.bind_eq_some_iff.1 h
          refine w_join gC (fun s H => ∃ x36 : Bool, y37 = (x36) ∧ s = (u :: .ptr ip2 wp2 0 0 :: u :: u :: u :: u :: u :: u :: u :: u :: u :: u :: u :: u :: u :: u :: u :: u :: u :: u :: u :: u :: u :: u :: u :: u :: u :: u :: u :: u :: u :: u :: u :: u :: u :: u :: u :: u :: u :: u :: u :: u :: u :: u :: u :: u :: u :: u :: u :: u :: u :: u :: u :: u :: u :: u :: u :: u :: u :: u :: .fz (a0.Queues.map (fzl (AV.int .i64))) :: .int .i64 (a0.Queues.length : Int) :: .int .i64 x20 :: u :: u :: u :: u :: u :: u :: u :: u :: u :: u :: u :: u :: u :: u :: u :: u :: u :: u :: u :: u :: u :: u :: u :: u :: .bool x36 :: u :: []) ∧ Own H (⟨.ptr ip2 wp2 0 0, 5, [.agg [.fz (a0.Quanta.map (AV.int .i64)), .fz (a0.Queues.map (fzl (AV.int .i64))), .fz (a0.Credit.map (AV.int .i64)), .fz (a0.Sent.map (AV.int .i64)), .int .i64 a0.At]]⟩ :: F)) (fun K39 hK39 => ?_) (fun s H hq => ?_)
          · refine w_seq fun K40 hK40 => ?_
            refine w_reg gC ?_
            try simp only [W, EE, Nat.reduceAdd]
            refine w_grdT h (fun hc h => ?_) (fun hc h => ?_)
            · try simp only [W, hc]
              refine seq_n hK40 ?_
              refine w_killE (s' := (u :: .ptr ip2 wp2 0 0 :: u :: u :: u :: u :: u :: u :: u :: u :: u :: u :: u :: u :: u :: u :: u :: u :: u :: u :: u :: u :: u :: u :: u :: u :: u :: u :: u :: u :: u :: u :: u :: u :: u :: u :: u :: u :: u :: u :: u :: u :: u :: u :: u :: u :: u :: u :: u :: u :: u :: u :: u :: u :: u :: u :: u :: u :: u :: u :: .fz (a0.Queues.map (fzl (AV.int .i64))) :: .int .i64 (a0.Queues.length : Int) :: .int .i64 x20 :: u :: u :: u :: u :: u :: u :: u :: u :: u :: u :: u :: u :: u :: u :: u :: u :: u :: u :: u :: u :: u :: u :: u :: u :: .bool true :: u :: [])) rfl ?_
              exact cut_n hK39 ⟨_, (Option.some.inj h).symm, rfl, hS⟩
            · try simp only [W, hc]
              refine w_call h fun b41 hb41 h => ?_
              refine spec_l1All_w hb41 hS fun H hS => ?_
              try simp only [W, reduceIte, Bool.false_eq_true]
              refine w_grdT h (fun hc h => ?_) (fun hc h => ?_)
              · try simp only [W, hc]
                refine seq_n hK40 ?_
                refine w_killE (s' := (u :: .ptr ip2 wp2 0 0 :: u :: u :: u :: u :: u :: u :: u :: u :: u :: u :: u :: u :: u :: u :: u :: u :: u :: u :: u :: u :: u :: u :: u :: u :: u :: u :: u :: u :: u :: u :: u :: u :: u :: u :: u :: u :: u :: u :: u :: u :: u :: u :: u :: u :: u :: u :: u :: u :: u :: u :: u :: u :: u :: u :: u :: u :: u :: u :: .fz (a0.Queues.map (fzl (AV.int .i64))) :: .int .i64 (a0.Queues.length : Int) :: .int .i64 x20 :: u :: u :: u :: u :: u :: u :: u :: u :: u :: u :: u :: u :: u :: u :: u :: u :: u :: u :: u :: u :: u :: u :: u :: u :: .bool true :: u :: [])) rfl ?_
                exact cut_n hK39 ⟨_, (Option.some.inj h).symm, rfl, hS⟩
              · try simp only [W, EE, hc]
                refine w_grdT h (fun hc h => ?_) (fun hc h => ?_)
                · try simp only [W, EE, Nat.reduceAdd, Nat.reduceBEq, hS.var 0 rfl, hc]
                  refine w_fz rfl rfl rfl (fun _ => rfl) h fun b42 hb42 h => ?_
                  try simp only [W, EE, reduceIte, Bool.false_eq_true]
                  refine seq_n hK40 ?_
                  refine w_killE (s' := (u :: .ptr ip2 wp2 0 0 :: u :: u :: u :: u :: u :: u :: u :: u :: u :: u :: u :: u :: u :: u :: u :: u :: u :: u :: u :: u :: u :: u :: u :: u :: u :: u :: u :: u :: u :: u :: u :: u :: u :: u :: u :: u :: u :: u :: u :: u :: u :: u :: u :: u :: u :: u :: u :: u :: u :: u :: u :: u :: u :: u :: u :: u :: u :: u :: .fz (a0.Queues.map (fzl (AV.int .i64))) :: .int .i64 (a0.Queues.length : Int) :: .int .i64 x20 :: u :: u :: u :: u :: u :: u :: u :: u :: u :: u :: u :: u :: u :: u :: u :: u :: u :: u :: u :: u :: u :: u :: u :: u :: .bool (b42 != 0) :: u :: [])) rfl ?_
                  exact cut_n hK39 ⟨_, (Option.some.inj h).symm, rfl, hS⟩
                · try simp only [W, reduceIte, Bool.false_eq_true, hc]
                  refine seq_n hK40 ?_
                  refine w_killE (s' := (u :: .ptr ip2 wp2 0 0 :: u :: u :: u :: u :: u :: u :: u :: u :: u :: u :: u :: u :: u :: u :: u :: u :: u :: u :: u :: u :: u :: u :: u :: u :: u :: u :: u :: u :: u :: u :: u :: u :: u :: u :: u :: u :: u :: u :: u :: u :: u :: u :: u :: u :: u :: u :: u :: u :: u :: u :: u :: u :: u :: u :: u :: u :: u :: u :: .fz (a0.Queues.map (fzl (AV.int .i64))) :: .int .i64 (a0.Queues.length : Int) :: .int .i64 x20 :: u :: u :: u :: u :: u :: u :: u :: u :: u :: u :: u :: u :: u :: u :: u :: u :: u :: u :: u :: u :: u :: u :: u :: u :: .bool false :: u :: [])) rfl ?_
                  exact cut_n hK39 ⟨_, (Option.some.inj h).symm, rfl, hS⟩
          · obtain ⟨x36, ey, rfl, hS⟩ := hq; obtain rfl := ey.symm
            replace h := g38
            try dsimp only at h
            refine seq_n hK35 ?_
            refine w_if ?_
            simp only [W]
            refine w_cnd h (fun hc h => ?_) (fun hc h => ?_)
            · refine w_seq fun K43 hK43 => ?_
              refine w_reg gC ?_
              try simp only [W, Nat.reduceAdd]
              refine seq_n hK43 ?_
              refine w_ret ?_
              refine blk_r hK32 ?_
              refine seq_r hK31 ?_
              try obtain rfl := Option.some.inj h
              obtain rfl := hd26 _ rfl
              have h : (some (LR.done false) : Option (LR Unit (Bool))) = some (LR.done false) := rfl
              refine lp_r hK25 ?_
              refine blk_r hK24 ?_
              try obtain rfl := Option.some.inj h
              obtain rfl := Option.some.inj g28
              have h : (some false : Option (Bool)) = some false := rfl
              refine cut_r hK23 ?_
              refine seq_r hK18 ?_
              refine fin_r1 hK0 rfl ?_
              try obtain rfl := Option.some.inj h
              exact hP _ (hS.sel 1 [] (by decide))
            · refine w_skip ?_
              refine blk_n0 hK32 ?_
              refine seq_n hK31 ?_
              refine w_reg gC ?_
              try simp only [W, EE, Nat.reduceAdd]
              exact lp_n hK25 h ⟨rfl, hS⟩
        · refine w_exit ?_
          refine seq_x hK30 ?_
          try obtain rfl := Option.some.inj h
          obtain rfl := hd26 _ rfl
          have h : (some (LR.next ()) : Option (LR Unit (Bool))) = some (LR.next ()) := rfl
          refine lp_x hK25 ?_
          refine blk_e hK24 ?_
          exact cut_n hK23 ⟨(Option.some.inj h).symm, rfl, (hS.sel 1 [] (by decide))⟩
      · obtain ⟨rfl, rfl, hS⟩ := hq
        replace h := g28
        try dsimp only at h
        refine seq_n hK18 ?_
        refine w_seq fun K50 hK50 => ?_
        refine w_reg gC ?_
        try simp only [W, Nat.reduceAdd]
        refine seq_n hK50 ?_
        refine w_ret ?_
        refine fin_r1 hK0 rfl ?_
        try obtain rfl := Option.some.inj h
        exact hP _ hS
theorem spec_l8Own_w {a0 : Turns} {r : (Turns)} (h : spec_l8Own a0 = some r) {F : List It} {H : Heap} (hS : Own H (F)) {P : AV → Heap → Prop} (hP : ∀ v61 : AV, isSl v61 → ∀ v63 : AV, isSl v63 → ∀ d65 : List AV, isSls d65 (r.Queues).length → ∀ v66 : AV, isSl v66 → ∀ v68 : AV, isSl v68 → ∀ H', Own H' (⟨v61, 1, r.Quanta.map (AV.int .i64)⟩ :: ⟨v63, 1, ouw nm_SInt d65 r.Queues⟩ :: ⟨v66, 1, r.Credit.map (AV.int .i64)⟩ :: ⟨v68, 1, r.Sent.map (AV.int .i64)⟩ :: ((inn np_SInt (AV.int .i64) 1 d65 r.Queues) ++ F)) → P (.agg [v61, v63, v66, v68, .int .i64 r.At]) H') : ACall C 110 [.agg [.fz (a0.Quanta.map (AV.int .i64)), .fz (a0.Queues.map (fzl (AV.int .i64))), .fz (a0.Credit.map (AV.int .i64)), .fz (a0.Sent.map (AV.int .i64)), .int .i64 a0.At]] H P := by
  refine acall_of gC (res := [.cell 2 27]) (n := 38) rfl rfl rfl rfl fun K0 hK0 => ?_
  simp only [W, Nat.reduceSub, Nat.reduceAdd, List.replicate]
  unfold spec_l8Own at h
  refine w_seq fun K1 hK1 => ?_
  refine w_reg gC ?_
  try simp only [W, Nat.reduceAdd]
  refine w_box hS rfl rfl rfl rfl fun ip2 wp2 H hS => ?_
  try simp only [W]
  refine w_alloc hS rfl rfl fun ip4 wp4 H hS => ?_
  try simp only [W]
  refine seq_n hK1 ?_
  refine w_seq fun K6 hK6 => ?_
  refine w_drawL gC [(16, [])] (by kernel_rfl) rfl (by kernel_rfl) ?_
  try simp only [W, reduceIte, Nat.reduceAdd, tabAt, qAt, Nat.reduceEqDiff]
  refine w_lit0 rfl rfl ?_
  try simp only [W, EE, Nat.reduceAdd, Nat.reduceBEq, hS.var 1 rfl]
  refine w_appQ rfl ?_
  simp only [W, EE]
  have hS := hS.e0_ 1
  refine w_appV (l := ([] : List Int)) (c := (AV.int .i64)) 0 hS rfl isSl_e0 rfl rfl rfl rfl (fun _ => rfl) rfl h fun v9 H x8 qv9 hm h hS => ?_
  try simp only [W]
  refine w_lit0 rfl rfl ?_
  try simp only [W, EE, Nat.reduceAdd, Nat.reduceBEq, hS.var 2 rfl]
  refine w_appQ rfl ?_
  simp only [W, EE]
  have hS := hS.e0_ 1
  refine w_appV (l := ([] : List Int)) (c := (AV.int .i64)) 0 hS rfl isSl_e0 rfl rfl rfl rfl (fun _ => rfl) rfl h fun v13 H x12 qv13 hm h hS => ?_
  try simp only [W]
  refine w_lit0 rfl rfl ?_
  try simp only [W, EE, Nat.reduceAdd, Nat.reduceBEq, hS.var 3 rfl]
  refine w_appQ rfl ?_
  simp only [W, EE]
  have hS := hS.e0_ 1
  refine w_appV (l := ([] : List Int)) (c := (AV.int .i64)) 0 hS rfl isSl_e0 rfl rfl rfl rfl (fun _ => rfl) rfl h fun v17 H x16 qv17 hm h hS => ?_
  try simp only [W, EE, Nat.reduceAdd, Nat.reduceBEq, hS.var 4 rfl]
  refine w_bld rfl rfl rfl rfl (by simp only [fillA, qv9.stora, qv9.cells, qv13.stora, qv13.cells, qv17.stora, qv17.cells]; simp [E, splice, AV.cells, storA, stor1] <;> rfl) ?_
  try simp only [W]
  refine w_alloc hS rfl rfl fun ip19 wp19 H hS => ?_
  try simp only [W]
  refine w_stv (a := .agg [v9, .nil, v13, v17, .int .i64 a0.At]) (y' := .agg [v9, .nil, v13, v17, .int .i64 a0.At]) 0 hS rfl rfl rfl rfl rfl (by simp only [storA, List.all_cons, List.all_nil, qv9.stor, qv13.stor, qv17.stor]; rfl) rfl rfl fun H hS => ?_
  try simp only [W]
  refine seq_n hK6 ?_
  refine w_seq fun K21 hK21 => ?_
  refine w_seq fun K22 hK22 => ?_
  refine w_reg gC ?_
  try simp only [W, EE, Nat.reduceAdd, Nat.reduceBEq, hS.var 5 rfl]
  refine seq_n hK22 ?_
  obtain ⟨y31, hw32, g38⟩ := Option.bind_eq_some_iff.1 h
  refine w_join gC (fun s H => ∃ x28 : List (List Int), y31 = (x28) ∧ ∃ v29 : AV, isSl v29 ∧ ∃ d30 : List AV, isSls d30 (x28).length ∧ s = [u, u, .ptr ip4 wp4 0 0, .ptr ip19 wp19 0 0, u, u, u, u, u, u, u, u, u, u, u, u, u, u, u, u, u, u, u, u, u, u, u, u, u, u, u, u, u, u, u, u, u, u] ∧ Own H (⟨v9, 1, x8.map (AV.int .i64)⟩ :: ⟨v29, 1, ouw nm_SInt d30 x28⟩ :: ⟨v13, 1, x12.map (AV.int .i64)⟩ :: ⟨v17, 1, x16.map (AV.int .i64)⟩ :: ⟨.ptr ip4 wp4 0 0, 5, [.agg [.nil, .nil, .nil, .nil, .int .i64 0]]⟩ :: ⟨.ptr ip19 wp19 0 0, 5, [.agg [v9, v29, v13, v17, .int .i64 a0.At]]⟩ :: ((inn np_SInt (AV.int .i64) 1 d30 x28) ++ F))) (fun K33 hK33 => ?_) (fun s H hq => ?_)
  · refine w_blk fun K34 hK34 => ?_
    have hS := hS.nil_ 1
    obtain ⟨d59, qd59, hS⟩ := noneN (p := np_SInt) (c := (AV.int .i64)) (z := 1) (m := nm_SInt) hS
    have hS : Own _ (⟨AV.nil, 1, ouw nm_SInt d59 ([] : List (List Int))⟩ :: ⟨.ptr ip19 wp19 0 0, 5, [.agg [v9, .nil, v13, v17, .int .i64 a0.At]]⟩ :: ⟨v17, 1, x16.map (AV.int .i64)⟩ :: ⟨v13, 1, x12.map (AV.int .i64)⟩ :: ⟨v9, 1, x8.map (AV.int .i64)⟩ :: ⟨.ptr ip4 wp4 0 0, 5, [.agg [.nil, .nil, .nil, .nil, .int .i64 0]]⟩ :: ⟨.ptr ip2 wp2 0 0, 5, [.agg [.fz (a0.Quanta.map (AV.int .i64)), .fz (a0.Queues.map (fzl (AV.int .i64))), .fz (a0.Credit.map (AV.int .i64)), .fz (a0.Sent.map (AV.int .i64)), .int .i64 a0.At]]⟩ :: ((inn np_SInt (AV.int .i64) 1 d59 ([] : List (List Int))) ++ (F))) := Own.catI_ (bl := [[⟨AV.nil, 1, ouw nm_SInt d59 ([] : List (List Int))⟩], (inn np_SInt (AV.int .i64) 1 d59 ([] : List (List Int))), [⟨.ptr ip19 wp19 0 0, 5, [.agg [v9, .nil, v13, v17, .int .i64 a0.At]]⟩], [⟨v17, 1, x16.map (AV.int .i64)⟩], [⟨v13, 1, x12.map (AV.int .i64)⟩], [⟨v9, 1, x8.map (AV.int .i64)⟩], [⟨.ptr ip4 wp4 0 0, 5, [.agg [.nil, .nil, .nil, .nil, .int .i64 0]]⟩], [⟨.ptr ip2 wp2 0 0, 5, [.agg [.fz (a0.Quanta.map (AV.int .i64)), .fz (a0.Queues.map (fzl (AV.int .i64))), .fz (a0.Credit.map (AV.int .i64)), .fz (a0.Sent.map (AV.int .i64)), .int .i64 a0.At]]⟩]]) (F := F) hS 8 rfl [0, 2, 3, 4, 5, 6, 7, 1] (by decide)
    have hS : Own _ (⟨v9, 1, x8.map (AV.int .i64)⟩ :: ⟨AV.nil, 1, ouw nm_SInt d59 ([] : List (List Int))⟩ :: ⟨v13, 1, x12.map (AV.int .i64)⟩ :: ⟨v17, 1, x16.map (AV.int .i64)⟩ :: ⟨.ptr ip4 wp4 0 0, 5, [.agg [.nil, .nil, .nil, .nil, .int .i64 0]]⟩ :: ⟨.ptr ip19 wp19 0 0, 5, [.agg [v9, .nil, v13, v17, .int .i64 a0.At]]⟩ :: ((inn np_SInt (AV.int .i64) 1 d59 ([] : List (List Int))) ++ (F))) := Own.catI_ (bl := [[⟨AV.nil, 1, ouw nm_SInt d59 ([] : List (List Int))⟩], [⟨.ptr ip19 wp19 0 0, 5, [.agg [v9, .nil, v13, v17, .int .i64 a0.At]]⟩], [⟨v17, 1, x16.map (AV.int .i64)⟩], [⟨v13, 1, x12.map (AV.int .i64)⟩], [⟨v9, 1, x8.map (AV.int .i64)⟩], [⟨.ptr ip4 wp4 0 0, 5, [.agg [.nil, .nil, .nil, .nil, .int .i64 0]]⟩], [⟨.ptr ip2 wp2 0 0, 5, [.agg [.fz (a0.Quanta.map (AV.int .i64)), .fz (a0.Queues.map (fzl (AV.int .i64))), .fz (a0.Credit.map (AV.int .i64)), .fz (a0.Sent.map (AV.int .i64)), .int .i64 a0.At]]⟩], (inn np_SInt (AV.int .i64) 1 d59 ([] : List (List Int)))]) (F := F) hS 8 rfl [4, 0, 3, 2, 5, 1, 7] (by decide)
    refine w_loop gC hw32 (fun x s H => match x with | (x23, x24) => ∃ v25 : AV, isSl v25 ∧ ∃ d27 : List AV, isSls d27 (x24).length ∧ s = [u, u, .ptr ip4 wp4 0 0, .ptr ip19 wp19 0 0, u, u, u, u, u, u, u, u, u, u, u, u, u, u, u, u, u, u, .fz (a0.Queues.map (fzl (AV.int .i64))), .int .i64 (a0.Queues.length : Int), .int .i64 x23, u, u, u, u, u, u, u, u, u, u, u, u, u] ∧ Own H (⟨v9, 1, x8.map (AV.int .i64)⟩ :: ⟨v25, 1, ouw nm_SInt d27 x24⟩ :: ⟨v13, 1, x12.map (AV.int .i64)⟩ :: ⟨v17, 1, x16.map (AV.int .i64)⟩ :: ⟨.ptr ip4 wp4 0 0, 5, [.agg [.nil, .nil, .nil, .nil, .int .i64 0]]⟩ :: ⟨.ptr ip19 wp19 0 0, 5, [.agg [v9, v25, v13, v17, .int .i64 a0.At]]⟩ :: ((inn np_SInt (AV.int .i64) 1 d27 x24) ++ F))) ⟨_, isSl_nil, _, qd59, rfl, hS⟩ (fun x y37 s H h hd36 hi K35 hK35 => ?_)
    obtain ⟨x23, x24⟩ := x
    try dsimp only at hi
    obtain ⟨v25, qv25, d27, qd27, rfl, hS⟩ := hi
    simp only [spec_l8Own_l0] at h
    refine w_seq fun K39 hK39 => ?_
    refine w_reg gC ?_
    try simp only [W, EE, Nat.reduceAdd]
    refine seq_n hK39 ?_
    refine w_seq fun K40 hK40 => ?_
    refine w_if ?_
    simp only [W]
    refine w_cnd h (fun hc h => ?_) (fun hc h => ?_)
    · refine w_skip ?_
      refine seq_n hK40 ?_
      refine w_seq fun K41 hK41 => ?_
      refine w_blk fun K42 hK42 => ?_
      refine w_seq fun K43 hK43 => ?_
      refine w_reg gC ?_
      try simp only [W, EE, Nat.reduceAdd]
      refine w_fz rfl rfl rfl (fun _ => rfl) h fun b44 hb44 h => ?_
      try simp only [W, EE, EN]
      refine seq_n hK43 ?_
      refine w_drawL gC [(8, []), (6, [])] (by kernel_rfl) rfl (by kernel_rfl) ?_
      try simp only [W, EE, reduceIte, Nat.reduceAdd, Nat.reduceBEq, hS.var 5 rfl, tabAt, qAt, Nat.reduceEqDiff]
      refine w_lit0 rfl rfl ?_
      try simp only [W]
      refine w_appQ rfl ?_
      simp only [W, EE]
      have hS := hS.e0_ 1
      refine w_appV (l := ([] : List Int)) (c := (AV.int .i64)) 0 hS rfl isSl_e0 rfl rfl rfl rfl (fun _ => rfl) rfl h fun v47 H x46 qv47 hm h hS => ?_
      try simp only [W]
      refine w_lit (el := [v47]) hS rfl rfl rfl rfl (fill1 (isSl.clen qv47) qv47.stora) rfl (sz1 (isSl.clen qv47)) fun v49 H qv49 hS => ?_
      have hS : Own _ (⟨v49, 1, [v47]⟩ :: ⟨v47, 1, x46.map (AV.int .i64)⟩ :: ⟨v9, 1, x8.map (AV.int .i64)⟩ :: ⟨v25, 1, ouw nm_SInt d27 x24⟩ :: ⟨v13, 1, x12.map (AV.int .i64)⟩ :: ⟨v17, 1, x16.map (AV.int .i64)⟩ :: ⟨.ptr ip4 wp4 0 0, 5, [.agg [.nil, .nil, .nil, .nil, .int .i64 0]]⟩ :: ⟨.ptr ip19 wp19 0 0, 5, [.agg [v9, v25, v13, v17, .int .i64 a0.At]]⟩ :: ((inn np_SInt (AV.int .i64) 1 d27 x24) ++ (F))) := hS
      obtain ⟨d50, qd50, hS⟩ := oneN (m := nm_SInt) (p := np_SInt) (c := (AV.int .i64)) (b := x46) hS qv47
      have hS : Own _ (⟨v49, 1, ouw nm_SInt d50 ([x46] : List (List Int))⟩ :: ⟨v9, 1, x8.map (AV.int .i64)⟩ :: ⟨v25, 1, ouw nm_SInt d27 x24⟩ :: ⟨v13, 1, x12.map (AV.int .i64)⟩ :: ⟨v17, 1, x16.map (AV.int .i64)⟩ :: ⟨.ptr ip4 wp4 0 0, 5, [.agg [.nil, .nil, .nil, .nil, .int .i64 0]]⟩ :: ⟨.ptr ip19 wp19 0 0, 5, [.agg [v9, v25, v13, v17, .int .i64 a0.At]]⟩ :: ((inn np_SInt (AV.int .i64) 1 d50 ([x46] : List (List Int))) ++ (((inn np_SInt (AV.int .i64) 1 d27 x24) ++ (F))))) := Own.catI_ (bl := [[⟨v49, 1, ouw nm_SInt d50 ([x46] : List (List Int))⟩], (inn np_SInt (AV.int .i64) 1 d50 ([x46] : List (List Int))), [⟨v9, 1, x8.map (AV.int .i64)⟩], [⟨v25, 1, ouw nm_SInt d27 x24⟩], [⟨v13, 1, x12.map (AV.int .i64)⟩], [⟨v17, 1, x16.map (AV.int .i64)⟩], [⟨.ptr ip4 wp4 0 0, 5, [.agg [.nil, .nil, .nil, .nil, .int .i64 0]]⟩], [⟨.ptr ip19 wp19 0 0, 5, [.agg [v9, v25, v13, v17, .int .i64 a0.At]]⟩], (inn np_SInt (AV.int .i64) 1 d27 x24)]) (F := F) hS 9 rfl [0, 2, 3, 4, 5, 6, 7, 1, 8] (by decide)
      try simp only [W, EE]
      have hS : Own _ (⟨v25, 1, ouw nm_SInt d27 x24⟩ :: ⟨v49, 1, ouw nm_SInt d50 ([x46] : List (List Int))⟩ :: ((inn np_SInt (AV.int .i64) 1 d27 x24) ++ (((inn np_SInt (AV.int .i64) 1 d50 ([x46] : List (List Int))) ++ (⟨v9, 1, x8.map (AV.int .i64)⟩ :: ⟨v13, 1, x12.map (AV.int .i64)⟩ :: ⟨v17, 1, x16.map (AV.int .i64)⟩ :: ⟨.ptr ip4 wp4 0 0, 5, [.agg [.nil, .nil, .nil, .nil, .int .i64 0]]⟩ :: ⟨.ptr ip19 wp19 0 0, 5, [.agg [v9, v25, v13, v17, .int .i64 a0.At]]⟩ :: F))))) := Own.catI_ (bl := [[⟨v49, 1, ouw nm_SInt d50 ([x46] : List (List Int))⟩], [⟨v9, 1, x8.map (AV.int .i64)⟩], [⟨v25, 1, ouw nm_SInt d27 x24⟩], [⟨v13, 1, x12.map (AV.int .i64)⟩], [⟨v17, 1, x16.map (AV.int .i64)⟩], [⟨.ptr ip4 wp4 0 0, 5, [.agg [.nil, .nil, .nil, .nil, .int .i64 0]]⟩], [⟨.ptr ip19 wp19 0 0, 5, [.agg [v9, v25, v13, v17, .int .i64 a0.At]]⟩], (inn np_SInt (AV.int .i64) 1 d50 ([x46] : List (List Int))), (inn np_SInt (AV.int .i64) 1 d27 x24)]) (F := F) hS 9 rfl [2, 0, 8, 7, 1, 3, 4, 5, 6] (by decide)
      refine w_appN (l := x24) (m := nm_SInt) (p := np_SInt) (c := (AV.int .i64)) hS qv25 qv49 qd27 qd50 rfl rfl rfl nc_SInt rfl h fun v52 H n54 d53 qv52 qd53 hm h hS => ?_
      have hS : Own _ (⟨v9, 1, x8.map (AV.int .i64)⟩ :: ⟨v52, 1, ouw nm_SInt d53 n54⟩ :: ⟨v13, 1, x12.map (AV.int .i64)⟩ :: ⟨v17, 1, x16.map (AV.int .i64)⟩ :: ⟨.ptr ip4 wp4 0 0, 5, [.agg [.nil, .nil, .nil, .nil, .int .i64 0]]⟩ :: ⟨.ptr ip19 wp19 0 0, 5, [.agg [v9, v25, v13, v17, .int .i64 a0.At]]⟩ :: ((inn np_SInt (AV.int .i64) 1 d53 n54) ++ (F))) := Own.catI_ (bl := [[⟨v52, 1, ouw nm_SInt d53 n54⟩], (inn np_SInt (AV.int .i64) 1 d53 n54), [⟨v9, 1, x8.map (AV.int .i64)⟩], [⟨v13, 1, x12.map (AV.int .i64)⟩], [⟨v17, 1, x16.map (AV.int .i64)⟩], [⟨.ptr ip4 wp4 0 0, 5, [.agg [.nil, .nil, .nil, .nil, .int .i64 0]]⟩], [⟨.ptr ip19 wp19 0 0, 5, [.agg [v9, v25, v13, v17, .int .i64 a0.At]]⟩]]) (F := F) hS 7 rfl [2, 0, 3, 4, 5, 6, 1] (by decide)
      try simp only [W, EE, Nat.reduceAdd, Nat.reduceBEq, hS.var 5 rfl]
      refine w_stv (a := v52) (y' := .agg [v9, v52, v13, v17, .int .i64 a0.At]) 5 hS rfl rfl rfl rfl (by rw [qv52.cells]; rfl) qv52.stora (qv52.wr _ _ (by simp)) rfl fun H hS => ?_
      try simp only [W]
      refine blk_n0 hK42 ?_
      refine seq_n hK41 ?_
      refine w_reg gC ?_
      try simp only [W, EE, Nat.reduceAdd]
      exact lp_n hK35 h ⟨_, qv52, _, qd53, rfl, hS⟩
    · refine w_exit ?_
      refine seq_x hK40 ?_
      try obtain rfl := Option.some.inj h
      obtain rfl := hd36 _ rfl
      have h : (some (x24) : Option ((List (List Int)))) = some (x24) := rfl
      refine lp_x hK35 ?_
      refine blk_e hK34 ?_
      exact cut_n hK33 ⟨_, (Option.some.inj h).symm, _, qv25, _, qd27, rfl, hS⟩
  · obtain ⟨x28, ey, v29, qv29, d30, qd30, rfl, hS⟩ := hq; obtain rfl := ey.symm
    replace h := g38
    try dsimp only at h
    refine seq_n hK21 ?_
    refine w_seq fun K60 hK60 => ?_
    refine w_reg gC ?_
    try simp only [W, EE, reduceIte, Nat.reduceAdd, Nat.reduceLeDiff, hS.var 5 rfl]
    refine w_stv (a := .agg [v9, v29, v13, v17, .int .i64 a0.At]) (y' := .agg [v9, v29, v13, v17, .int .i64 a0.At]) 4 hS rfl rfl rfl rfl rfl (by simp only [storA, List.all_cons, List.all_nil, qv9.stor, qv29.stor, qv13.stor, qv17.stor]; rfl) rfl rfl fun H hS => ?_
    try simp only [W]
    refine seq_n hK60 ?_
    refine w_ret ?_
    refine fin_r hK0 (res_c rfl rfl (hS.var 4 rfl) rfl rfl) ?_
    try obtain rfl := Option.some.inj h
    have hS : Own _ (⟨v9, 1, x8.map (AV.int .i64)⟩ :: ⟨v29, 1, ouw nm_SInt d30 x28⟩ :: ⟨v13, 1, x12.map (AV.int .i64)⟩ :: ⟨v17, 1, x16.map (AV.int .i64)⟩ :: ((inn np_SInt (AV.int .i64) 1 d30 x28) ++ (F))) := Own.catI_ (bl := [[⟨v9, 1, x8.map (AV.int .i64)⟩], [⟨v29, 1, ouw nm_SInt d30 x28⟩], [⟨v13, 1, x12.map (AV.int .i64)⟩], [⟨v17, 1, x16.map (AV.int .i64)⟩], [⟨.ptr ip4 wp4 0 0, 5, [.agg [v9, v29, v13, v17, .int .i64 a0.At]]⟩], [⟨.ptr ip19 wp19 0 0, 5, [.agg [v9, v29, v13, v17, .int .i64 a0.At]]⟩], (inn np_SInt (AV.int .i64) 1 d30 x28)]) (F := F) hS 7 rfl [0, 1, 2, 3, 6] (by decide)
    exact hP _ qv9 _ qv29 _ qd30 _ qv13 _ qv17 _ hS
theorem spec_l8Next_w {a0 : Turns} {m0 : AV} {m1 : AV} {d101 : List AV} {m2 : AV} {m3 : AV} {r : (Turns × List Int)} (h : spec_l8Next a0 = some r) {F : List It} {H : Heap} (hS : Own H (⟨m0, 1, a0.Quanta.map (AV.int .i64)⟩ :: ⟨m1, 1, ouw nm_SInt d101 a0.Queues⟩ :: ⟨m2, 1, a0.Credit.map (AV.int .i64)⟩ :: ⟨m3, 1, a0.Sent.map (AV.int .i64)⟩ :: ((inn np_SInt (AV.int .i64) 1 d101 a0.Queues) ++ F))) (qm0 : isSl m0) (qm1 : isSl m1) (qd101 : isSls d101 (a0.Queues).length) (qm2 : isSl m2) (qm3 : isSl m3) {P : AV → Heap → Prop} (hP : ∀ v108 : AV, isSl v108 → ∀ v110 : AV, isSl v110 → ∀ d112 : List AV, isSls d112 (r.1.Queues).length → ∀ v113 : AV, isSl v113 → ∀ v115 : AV, isSl v115 → ∀ v117 : AV, isSl v117 → ∀ H', Own H' (⟨v108, 1, r.1.Quanta.map (AV.int .i64)⟩ :: ⟨v110, 1, ouw nm_SInt d112 r.1.Queues⟩ :: ⟨v113, 1, r.1.Credit.map (AV.int .i64)⟩ :: ⟨v115, 1, r.1.Sent.map (AV.int .i64)⟩ :: ⟨v117, 1, r.2.map (AV.int .i64)⟩ :: ((inn np_SInt (AV.int .i64) 1 d112 r.1.Queues) ++ F)) → P (.tup [.agg [v108, v110, v113, v115, .int .i64 r.1.At], v117]) H') : ACall C 120 [.agg [m0, m1, m2, m3, .int .i64 a0.At]] H P := by
  refine acall_of gC (res := [.cell 2 27, .tmp 3]) (n := 94) rfl rfl rfl rfl fun K0 hK0 => ?_
  simp only [W, Nat.reduceSub, Nat.reduceAdd, List.replicate]
  unfold spec_l8Next at h
  refine w_seq fun K1 hK1 => ?_
  refine w_reg gC ?_
  try simp only [W, Nat.reduceAdd]
  refine w_box hS rfl rfl rfl (by simp only [W, storA, List.all_cons, List.all_nil, qm0.stor, qm1.stor, qm2.stor, qm3.stor]; rfl) fun ip2 wp2 H hS => ?_
  try simp only [W]
  refine w_alloc hS rfl rfl fun ip4 wp4 H hS => ?_
  try simp only [W]
  refine seq_n hK1 ?_
  refine w_seq fun K6 hK6 => ?_
  refine w_reg gC ?_
  try simp only [W, EE, Nat.reduceAdd, Nat.reduceBEq, hS.var 1 rfl]
  refine seq_n hK6 ?_
  refine w_seq fun K7 hK7 => ?_
  refine w_reg gC ?_
  try simp only [W, EE, Nat.reduceAdd, Nat.reduceBEq, hS.var 1 rfl]
  refine w_lenN 3 hS rfl qm1 qd101 rfl ?_
  try simp only [W, EE]
  refine w_num _ h fun x8 hx8 h => ?_
  try simp only [W, EE, Nat.reduceAdd, Nat.reduceBEq, hS.var 1 rfl]
  refine w_stv (a := .int .i64 x8) (y' := .agg [m0, m1, m2, m3, .int .i64 x8]) 1 hS rfl rfl rfl rfl rfl rfl rfl rfl fun H hS => ?_
  try simp only [W]
  refine seq_n hK7 ?_
  refine w_seq fun K9 hK9 => ?_
  refine w_reg gC ?_
  try simp only [W, Nat.reduceAdd]
  refine seq_n hK9 ?_
  refine w_seq fun K10 hK10 => ?_
  refine w_reg gC ?_
  try simp only [W, EE, Nat.reduceAdd, Nat.reduceBEq, hS.var 1 rfl]
  obtain ⟨b12, hb12, h⟩ := Option.bind_eq_some_iff.1 h
  have hS : Own _ (⟨m1, 1, ouw nm_SInt d101 a0.Queues⟩ :: ((inn np_SInt (AV.int .i64) 1 d101 a0.Queues) ++ (⟨.ptr ip4 wp4 0 0, 5, [.agg [.nil, .nil, .nil, .nil, .int .i64 0]]⟩ :: ⟨.ptr ip2 wp2 0 0, 5, [.agg [m0, m1, m2, m3, .int .i64 x8]]⟩ :: ⟨m0, 1, a0.Quanta.map (AV.int .i64)⟩ :: ⟨m2, 1, a0.Credit.map (AV.int .i64)⟩ :: ⟨m3, 1, a0.Sent.map (AV.int .i64)⟩ :: F))) := Own.catI_ (bl := [[⟨.ptr ip4 wp4 0 0, 5, [.agg [.nil, .nil, .nil, .nil, .int .i64 0]]⟩], [⟨.ptr ip2 wp2 0 0, 5, [.agg [m0, m1, m2, m3, .int .i64 x8]]⟩], [⟨m0, 1, a0.Quanta.map (AV.int .i64)⟩], [⟨m1, 1, ouw nm_SInt d101 a0.Queues⟩], [⟨m2, 1, a0.Credit.map (AV.int .i64)⟩], [⟨m3, 1, a0.Sent.map (AV.int .i64)⟩], (inn np_SInt (AV.int .i64) 1 d101 a0.Queues)]) (F := F) hS 7 rfl [3, 6, 0, 1, 2, 4, 5] (by decide)
  obtain ⟨v13, qv13, hS⟩ := openN (p := np_SInt) (c := (AV.int .i64)) (m := nm_SInt) (b := b12) hS qd101 hb12
  have hS : Own _ (⟨v13, 1, b12.map (AV.int .i64)⟩ :: ⟨.ptr ip4 wp4 0 0, 5, [.agg [.nil, .nil, .nil, .nil, .int .i64 0]]⟩ :: ⟨.ptr ip2 wp2 0 0, 5, [.agg [m0, m1, m2, m3, .int .i64 x8]]⟩ :: ⟨m0, 1, a0.Quanta.map (AV.int .i64)⟩ :: ⟨m1, 1, (ouw nm_SInt d101 a0.Queues).set a0.At.toNat (v13)⟩ :: ⟨m2, 1, a0.Credit.map (AV.int .i64)⟩ :: ⟨m3, 1, a0.Sent.map (AV.int .i64)⟩ :: ((inx np_SInt (AV.int .i64) 1 d101 a0.Queues a0.At.toNat) ++ (F))) := Own.catI_ (bl := [[⟨v13, 1, b12.map (AV.int .i64)⟩], [⟨m1, 1, (ouw nm_SInt d101 a0.Queues).set a0.At.toNat (v13)⟩], (inx np_SInt (AV.int .i64) 1 d101 a0.Queues a0.At.toNat), [⟨.ptr ip4 wp4 0 0, 5, [.agg [.nil, .nil, .nil, .nil, .int .i64 0]]⟩], [⟨.ptr ip2 wp2 0 0, 5, [.agg [m0, m1, m2, m3, .int .i64 x8]]⟩], [⟨m0, 1, a0.Quanta.map (AV.int .i64)⟩], [⟨m2, 1, a0.Credit.map (AV.int .i64)⟩], [⟨m3, 1, a0.Sent.map (AV.int .i64)⟩]]) (F := F) hS 8 rfl [0, 3, 4, 5, 1, 6, 7, 2] (by decide)
  refine w_owE (x := v13) 4 hS rfl rfl rfl rfl rfl (idx_some hb12).1 (holeG qd101 hb12) qm1 (fun in11 wn11 on11 en11 hkn11 => ?_)
  obtain ⟨kn11, hbn11, hen11⟩ := hkn11
  try simp only [W, EE, hbn11, hen11, qv13.rd]
  refine seq_n hK10 ?_
  refine w_seq fun K15 hK15 => ?_
  refine w_seq fun K16 hK16 => ?_
  refine w_reg gC ?_
  try simp only [W, EE, Nat.reduceAdd]
  refine w_len 0 hS rfl qv13 rfl ?_
  try simp only [W, EE]
  refine seq_n hK16 ?_
  obtain ⟨y18, h, g19⟩ := Option.bind_eq_some_iff.1 h
  refine w_join gC (fun s H => ∃ x17 : List Int, y18 = (x17) ∧ s = (u :: .ptr ip2 wp2 0 0 :: .ptr ip4 wp4 0 0 :: u :: .int .i64 a0.At :: .nil :: v13 :: u :: u :: u :: u :: u :: u :: u :: u :: u :: u :: u :: u :: u :: u :: u :: u :: u :: u :: u :: u :: u :: u :: u :: u :: u :: u :: u :: u :: u :: u :: u :: u :: u :: u :: u :: u :: u :: u :: u :: u :: u :: u :: u :: u :: u :: u :: u :: u :: u :: u :: u :: u :: u :: u :: u :: u :: u :: u :: u :: u :: u :: u :: u :: u :: u :: u :: u :: u :: u :: u :: u :: u :: u :: u :: u :: u :: u :: u :: u :: u :: u :: u :: u :: u :: u :: u :: u :: []) ∧ Own H (⟨v13, 1, b12.map (AV.int .i64)⟩ :: ⟨m0, 1, a0.Quanta.map (AV.int .i64)⟩ :: ⟨m1, 1, (ouw nm_SInt d101 a0.Queues).set a0.At.toNat (v13)⟩ :: ⟨m2, 1, x17.map (AV.int .i64)⟩ :: ⟨m3, 1, a0.Sent.map (AV.int .i64)⟩ :: ⟨.ptr ip2 wp2 0 0, 5, [.agg [m0, m1, m2, m3, .int .i64 x8]]⟩ :: ⟨.ptr ip4 wp4 0 0, 5, [.agg [.nil, .nil, .nil, .nil, .int .i64 0]]⟩ :: ((inx np_SInt (AV.int .i64) 1 d101 a0.Queues a0.At.toNat) ++ F))) (fun K20 hK20 => ?_) (fun s H hq => ?_)
  · refine w_seq fun K21 hK21 => ?_
    refine w_if ?_
    simp only [W]
    refine w_cnd h (fun hc h => ?_) (fun hc h => ?_)
    · refine w_drawL gC [(12, [])] (by kernel_rfl) rfl (by kernel_rfl) ?_
      try simp only [W, EE, reduceIte, Nat.reduceAdd, Nat.reduceBEq, hS.var 2 rfl, tabAt, qAt, Nat.reduceEqDiff]
      refine w_ow 5 hS rfl rfl rfl rfl rfl h (fun b22 in23 wn23 on23 hb22 h en23 => ?_) qm2.ne
      obtain ⟨kn23, hbn23, hen23⟩ := hS.elem 5 rfl en23 hb22
      try simp only [W, EE, Nat.reduceAdd, Nat.reduceBEq, hS.var 2 rfl, hbn23, hen23]
      refine w_ow 3 hS rfl rfl rfl rfl rfl h (fun b24 in25 wn25 on25 hb24 h en25 => ?_) qm0.ne
      obtain ⟨kn25, hbn25, hen25⟩ := hS.elem 3 rfl en25 hb24
      try simp only [W, EE, hbn25, hen25]
      refine w_ow 5 hS rfl rfl rfl rfl rfl h (fun b26 in27 wn27 on27 hb26 h en27 => ?_) qm2.ne
      obtain ⟨kn27, hbn27, hen27⟩ := hS.elem 5 rfl en27 hb26
      try simp only [W]
      refine w_ste (a := .int .i64 (IntKind.i64.wrap (b22 + b24))) (y' := (IntKind.i64.wrap (b22 + b24))) 5 hS rfl en27 hb26 rfl rfl rfl rfl rfl rfl rfl fun H hS => ?_
      try simp only [W]
      refine seq_n hK21 ?_
      refine w_killE (s' := (u :: .ptr ip2 wp2 0 0 :: .ptr ip4 wp4 0 0 :: u :: .int .i64 a0.At :: .nil :: v13 :: u :: u :: u :: u :: u :: u :: u :: u :: u :: u :: u :: u :: u :: u :: u :: u :: u :: u :: u :: u :: u :: u :: u :: u :: u :: u :: u :: u :: u :: u :: u :: u :: u :: u :: u :: u :: u :: u :: u :: u :: u :: u :: u :: u :: u :: u :: u :: u :: u :: u :: u :: u :: u :: u :: u :: u :: u :: u :: u :: u :: u :: u :: u :: u :: u :: u :: u :: u :: u :: u :: u :: u :: u :: u :: u :: u :: u :: u :: u :: u :: u :: u :: u :: u :: u :: u :: u :: [])) rfl ?_
      have hS : Own _ (⟨v13, 1, b12.map (AV.int .i64)⟩ :: ⟨m0, 1, a0.Quanta.map (AV.int .i64)⟩ :: ⟨m1, 1, (ouw nm_SInt d101 a0.Queues).set a0.At.toNat (v13)⟩ :: ⟨m2, 1, (a0.Credit.set a0.At.toNat (IntKind.i64.wrap (b22 + b24))).map (AV.int .i64)⟩ :: ⟨m3, 1, a0.Sent.map (AV.int .i64)⟩ :: ⟨.ptr ip2 wp2 0 0, 5, [.agg [m0, m1, m2, m3, .int .i64 x8]]⟩ :: ⟨.ptr ip4 wp4 0 0, 5, [.agg [.nil, .nil, .nil, .nil, .int .i64 0]]⟩ :: ((inx np_SInt (AV.int .i64) 1 d101 a0.Queues a0.At.toNat) ++ (F))) := Own.catI_ (bl := [[⟨v13, 1, b12.map (AV.int .i64)⟩], [⟨.ptr ip4 wp4 0 0, 5, [.agg [.nil, .nil, .nil, .nil, .int .i64 0]]⟩], [⟨.ptr ip2 wp2 0 0, 5, [.agg [m0, m1, m2, m3, .int .i64 x8]]⟩], [⟨m0, 1, a0.Quanta.map (AV.int .i64)⟩], [⟨m1, 1, (ouw nm_SInt d101 a0.Queues).set a0.At.toNat (v13)⟩], [⟨m2, 1, (a0.Credit.set a0.At.toNat (IntKind.i64.wrap (b22 + b24))).map (AV.int .i64)⟩], [⟨m3, 1, a0.Sent.map (AV.int .i64)⟩], (inx np_SInt (AV.int .i64) 1 d101 a0.Queues a0.At.toNat)]) (F := F) hS 8 rfl [0, 3, 4, 5, 6, 2, 1, 7] (by decide)
      exact cut_n hK20 ⟨_, (Option.some.inj h).symm, rfl, hS⟩
    · refine w_skip ?_
      refine seq_n hK21 ?_
      refine w_killE (s' := (u :: .ptr ip2 wp2 0 0 :: .ptr ip4 wp4 0 0 :: u :: .int .i64 a0.At :: .nil :: v13 :: u :: u :: u :: u :: u :: u :: u :: u :: u :: u :: u :: u :: u :: u :: u :: u :: u :: u :: u :: u :: u :: u :: u :: u :: u :: u :: u :: u :: u :: u :: u :: u :: u :: u :: u :: u :: u :: u :: u :: u :: u :: u :: u :: u :: u :: u :: u :: u :: u :: u :: u :: u :: u :: u :: u :: u :: u :: u :: u :: u :: u :: u :: u :: u :: u :: u :: u :: u :: u :: u :: u :: u :: u :: u :: u :: u :: u :: u :: u :: u :: u :: u :: u :: u :: u :: u :: u :: [])) rfl ?_
      have hS : Own _ (⟨v13, 1, b12.map (AV.int .i64)⟩ :: ⟨m0, 1, a0.Quanta.map (AV.int .i64)⟩ :: ⟨m1, 1, (ouw nm_SInt d101 a0.Queues).set a0.At.toNat (v13)⟩ :: ⟨m2, 1, a0.Credit.map (AV.int .i64)⟩ :: ⟨m3, 1, a0.Sent.map (AV.int .i64)⟩ :: ⟨.ptr ip2 wp2 0 0, 5, [.agg [m0, m1, m2, m3, .int .i64 x8]]⟩ :: ⟨.ptr ip4 wp4 0 0, 5, [.agg [.nil, .nil, .nil, .nil, .int .i64 0]]⟩ :: ((inx np_SInt (AV.int .i64) 1 d101 a0.Queues a0.At.toNat) ++ (F))) := Own.catI_ (bl := [[⟨v13, 1, b12.map (AV.int .i64)⟩], [⟨.ptr ip4 wp4 0 0, 5, [.agg [.nil, .nil, .nil, .nil, .int .i64 0]]⟩], [⟨.ptr ip2 wp2 0 0, 5, [.agg [m0, m1, m2, m3, .int .i64 x8]]⟩], [⟨m0, 1, a0.Quanta.map (AV.int .i64)⟩], [⟨m1, 1, (ouw nm_SInt d101 a0.Queues).set a0.At.toNat (v13)⟩], [⟨m2, 1, a0.Credit.map (AV.int .i64)⟩], [⟨m3, 1, a0.Sent.map (AV.int .i64)⟩], (inx np_SInt (AV.int .i64) 1 d101 a0.Queues a0.At.toNat)]) (F := F) hS 8 rfl [0, 3, 4, 5, 6, 2, 1, 7] (by decide)
      exact cut_n hK20 ⟨_, (Option.some.inj h).symm, rfl, hS⟩
  · obtain ⟨x17, ey, rfl, hS⟩ := hq; obtain rfl := ey.symm
    replace h := g19
    try dsimp only at h
    refine seq_n hK15 ?_
    refine w_seq fun K28 hK28 => ?_
    obtain ⟨y43, hw44, g50⟩ := Option.bind_eq_some_iff.1 h
    refine w_join gC (fun s H => ∃ x37 : List Int, ∃ x39 : List Int, ∃ x41 : List Int, ∃ x42 : List Int, y43 = (x37, x39, x41, x42) ∧ ∃ v38 : AV, isSl v38 ∧ ∃ v40 : AV, isSl v40 ∧ s = (u :: .ptr ip2 wp2 0 0 :: .ptr ip4 wp4 0 0 :: u :: .int .i64 a0.At :: v38 :: v40 :: u :: u :: u :: u :: u :: u :: u :: u :: u :: u :: u :: u :: u :: u :: u :: u :: u :: u :: u :: u :: u :: u :: u :: u :: u :: u :: u :: u :: u :: u :: u :: u :: u :: u :: u :: u :: u :: u :: u :: u :: u :: u :: u :: u :: u :: u :: u :: u :: u :: u :: u :: u :: u :: u :: u :: u :: u :: u :: u :: u :: u :: u :: u :: u :: u :: u :: u :: u :: u :: u :: u :: u :: u :: u :: u :: u :: u :: u :: u :: u :: u :: u :: u :: u :: u :: u :: u :: []) ∧ Own H (⟨v38, 1, x37.map (AV.int .i64)⟩ :: ⟨v40, 1, x39.map (AV.int .i64)⟩ :: ⟨m0, 1, a0.Quanta.map (AV.int .i64)⟩ :: ⟨m1, 1, (ouw nm_SInt d101 a0.Queues).set a0.At.toNat (v13)⟩ :: ⟨m2, 1, x41.map (AV.int .i64)⟩ :: ⟨m3, 1, x42.map (AV.int .i64)⟩ :: ⟨.ptr ip2 wp2 0 0, 5, [.agg [m0, m1, m2, m3, .int .i64 x8]]⟩ :: ⟨.ptr ip4 wp4 0 0, 5, [.agg [.nil, .nil, .nil, .nil, .int .i64 0]]⟩ :: ((inx np_SInt (AV.int .i64) 1 d101 a0.Queues a0.At.toNat) ++ F))) (fun K45 hK45 => ?_) (fun s H hq => ?_)
    · refine w_blk fun K46 hK46 => ?_
      have hS := hS.nil_ 1
      refine w_loop gC hw44 (fun x s H => match x with | (x29, x32, x35, x36) => ∃ v30 : AV, isSl v30 ∧ ∃ v33 : AV, isSl v33 ∧ s = (u :: .ptr ip2 wp2 0 0 :: .ptr ip4 wp4 0 0 :: u :: .int .i64 a0.At :: v30 :: v33 :: u :: u :: u :: u :: u :: u :: u :: u :: u :: u :: u :: u :: u :: u :: u :: u :: u :: u :: u :: u :: u :: u :: u :: u :: u :: u :: u :: u :: u :: u :: u :: u :: u :: u :: u :: u :: u :: u :: u :: u :: u :: u :: u :: u :: u :: u :: u :: u :: u :: u :: u :: u :: u :: u :: u :: u :: u :: u :: u :: u :: u :: u :: u :: u :: u :: u :: u :: u :: u :: u :: u :: u :: u :: u :: u :: u :: u :: u :: u :: u :: u :: u :: u :: u :: u :: u :: u :: []) ∧ Own H (⟨v30, 1, x29.map (AV.int .i64)⟩ :: ⟨v33, 1, x32.map (AV.int .i64)⟩ :: ⟨m0, 1, a0.Quanta.map (AV.int .i64)⟩ :: ⟨m1, 1, (ouw nm_SInt d101 a0.Queues).set a0.At.toNat (v13)⟩ :: ⟨m2, 1, x35.map (AV.int .i64)⟩ :: ⟨m3, 1, x36.map (AV.int .i64)⟩ :: ⟨.ptr ip2 wp2 0 0, 5, [.agg [m0, m1, m2, m3, .int .i64 x8]]⟩ :: ⟨.ptr ip4 wp4 0 0, 5, [.agg [.nil, .nil, .nil, .nil, .int .i64 0]]⟩ :: ((inx np_SInt (AV.int .i64) 1 d101 a0.Queues a0.At.toNat) ++ F))) ⟨_, isSl_nil, _, qv13, rfl, hS⟩ (fun x y49 s H h hd48 hi K47 hK47 => ?_)
      obtain ⟨x29, x32, x35, x36⟩ := x
      try dsimp only at hi
      obtain ⟨v30, qv30, v33, qv33, rfl, hS⟩ := hi
      simp only [spec_l8Next_l0] at h
      refine w_seq fun K51 hK51 => ?_
      refine w_seq fun K52 hK52 => ?_
      obtain ⟨y54, h, g55⟩ := Option.bind_eq_some_iff.1 h
      refine w_join gC (fun s H => ∃ x53 : Bool, y54 = (x53) ∧ s = (u :: .ptr ip2 wp2 0 0 :: .ptr ip4 wp4 0 0 :: u :: .int .i64 a0.At :: v30 :: v33 :: u :: u :: u :: u :: u :: u :: u :: u :: u :: u :: u :: u :: u :: u :: u :: u :: u :: u :: u :: u :: u :: u :: u :: u :: u :: u :: u :: u :: u :: u :: u :: u :: u :: u :: u :: u :: u :: u :: u :: u :: u :: u :: .bool x53 :: u :: u :: u :: u :: u :: u :: u :: u :: u :: u :: u :: u :: u :: u :: u :: u :: u :: u :: u :: u :: u :: u :: u :: u :: u :: u :: u :: u :: u :: u :: u :: u :: u :: u :: u :: u :: u :: u :: u :: u :: u :: u :: u :: u :: []) ∧ Own H (⟨v30, 1, x29.map (AV.int .i64)⟩ :: ⟨v33, 1, x32.map (AV.int .i64)⟩ :: ⟨m0, 1, a0.Quanta.map (AV.int .i64)⟩ :: ⟨m1, 1, (ouw nm_SInt d101 a0.Queues).set a0.At.toNat (v13)⟩ :: ⟨m2, 1, x35.map (AV.int .i64)⟩ :: ⟨m3, 1, x36.map (AV.int .i64)⟩ :: ⟨.ptr ip2 wp2 0 0, 5, [.agg [m0, m1, m2, m3, .int .i64 x8]]⟩ :: ⟨.ptr ip4 wp4 0 0, 5, [.agg [.nil, .nil, .nil, .nil, .int .i64 0]]⟩ :: ((inx np_SInt (AV.int .i64) 1 d101 a0.Queues a0.At.toNat) ++ F))) (fun K56 hK56 => ?_) (fun s H hq => ?_)
      · refine w_seq fun K57 hK57 => ?_
        refine w_draw0 gC (by kernel_rfl) ?_
        try simp only [W, EE, Nat.reduceAdd]
        refine w_len 1 hS rfl qv33 rfl ?_
        try simp only [W, EE]
        refine w_grdT h (fun hc h => ?_) (fun hc h => ?_)
        · try simp only [W, EE, hc]
          refine w_ow 1 hS rfl rfl rfl rfl rfl h (fun b58 in59 wn59 on59 hb58 h en59 => ?_) qv33.ne
          obtain ⟨kn59, hbn59, hen59⟩ := hS.elem 1 rfl en59 hb58
          try simp only [W, EE, Nat.reduceAdd, Nat.reduceBEq, hS.var 6 rfl, hbn59, hen59]
          refine w_ow 4 hS rfl rfl rfl rfl rfl h (fun b60 in61 wn61 on61 hb60 h en61 => ?_) qm2.ne
          obtain ⟨kn61, hbn61, hen61⟩ := hS.elem 4 rfl en61 hb60
          try simp only [W, EE, reduceIte, hbn61, hen61]
          refine seq_n hK57 ?_
          refine w_killE (s' := (u :: .ptr ip2 wp2 0 0 :: .ptr ip4 wp4 0 0 :: u :: .int .i64 a0.At :: v30 :: v33 :: u :: u :: u :: u :: u :: u :: u :: u :: u :: u :: u :: u :: u :: u :: u :: u :: u :: u :: u :: u :: u :: u :: u :: u :: u :: u :: u :: u :: u :: u :: u :: u :: u :: u :: u :: u :: u :: u :: u :: u :: u :: u :: .bool (decide (b58 ≤ b60)) :: u :: u :: u :: u :: u :: u :: u :: u :: u :: u :: u :: u :: u :: u :: u :: u :: u :: u :: u :: u :: u :: u :: u :: u :: u :: u :: u :: u :: u :: u :: u :: u :: u :: u :: u :: u :: u :: u :: u :: u :: u :: u :: u :: u :: [])) rfl ?_
          exact cut_n hK56 ⟨_, (Option.some.inj h).symm, rfl, hS⟩
        · try simp only [W, hc]
          refine seq_n hK57 ?_
          refine w_killE (s' := (u :: .ptr ip2 wp2 0 0 :: .ptr ip4 wp4 0 0 :: u :: .int .i64 a0.At :: v30 :: v33 :: u :: u :: u :: u :: u :: u :: u :: u :: u :: u :: u :: u :: u :: u :: u :: u :: u :: u :: u :: u :: u :: u :: u :: u :: u :: u :: u :: u :: u :: u :: u :: u :: u :: u :: u :: u :: u :: u :: u :: u :: u :: u :: .bool false :: u :: u :: u :: u :: u :: u :: u :: u :: u :: u :: u :: u :: u :: u :: u :: u :: u :: u :: u :: u :: u :: u :: u :: u :: u :: u :: u :: u :: u :: u :: u :: u :: u :: u :: u :: u :: u :: u :: u :: u :: u :: u :: u :: u :: [])) rfl ?_
          exact cut_n hK56 ⟨_, (Option.some.inj h).symm, rfl, hS⟩
      · obtain ⟨x53, ey, rfl, hS⟩ := hq; obtain rfl := ey.symm
        replace h := g55
        try dsimp only at h
        refine seq_n hK52 ?_
        refine w_if ?_
        simp only [W]
        refine w_cnd h (fun hc h => ?_) (fun hc h => ?_)
        · refine w_skip ?_
          refine seq_n hK51 ?_
          refine w_blk fun K62 hK62 => ?_
          refine w_seq fun K63 hK63 => ?_
          refine w_drawL gC [(10, [])] (by kernel_rfl) rfl (by kernel_rfl) ?_
          try simp only [W, EE, reduceIte, Nat.reduceAdd, Nat.reduceBEq, hS.var 6 rfl, tabAt, qAt, Nat.reduceEqDiff]
          refine w_ow 4 hS rfl rfl rfl rfl rfl h (fun b64 in65 wn65 on65 hb64 h en65 => ?_) qm2.ne
          obtain ⟨kn65, hbn65, hen65⟩ := hS.elem 4 rfl en65 hb64
          try simp only [W, EE, hbn65, hen65]
          refine w_ow 1 hS rfl rfl rfl rfl rfl h (fun b66 in67 wn67 on67 hb66 h en67 => ?_) qv33.ne
          obtain ⟨kn67, hbn67, hen67⟩ := hS.elem 1 rfl en67 hb66
          try simp only [W, EE, hbn67, hen67]
          refine w_ow 4 hS rfl rfl rfl rfl rfl h (fun b68 in69 wn69 on69 hb68 h en69 => ?_) qm2.ne
          obtain ⟨kn69, hbn69, hen69⟩ := hS.elem 4 rfl en69 hb68
          try simp only [W]
          refine w_ste (a := .int .i64 (IntKind.i64.wrap (b64 - b66))) (y' := (IntKind.i64.wrap (b64 - b66))) 4 hS rfl en69 hb68 rfl rfl rfl rfl rfl rfl rfl fun H hS => ?_
          try simp only [W]
          refine seq_n hK63 ?_
          refine w_seq fun K70 hK70 => ?_
          refine w_drawL gC [(10, [])] (by kernel_rfl) rfl (by kernel_rfl) ?_
          try simp only [W, EE, reduceIte, Nat.reduceAdd, Nat.reduceBEq, hS.var 6 rfl, tabAt, qAt, Nat.reduceEqDiff]
          refine w_ow 5 hS rfl rfl rfl rfl rfl h (fun b71 in72 wn72 on72 hb71 h en72 => ?_) qm3.ne
          obtain ⟨kn72, hbn72, hen72⟩ := hS.elem 5 rfl en72 hb71
          try simp only [W, EE, hbn72, hen72]
          refine w_ow 1 hS rfl rfl rfl rfl rfl h (fun b73 in74 wn74 on74 hb73 h en74 => ?_) qv33.ne
          obtain ⟨kn74, hbn74, hen74⟩ := hS.elem 1 rfl en74 hb73
          try simp only [W, EE, hbn74, hen74]
          refine w_ow 5 hS rfl rfl rfl rfl rfl h (fun b75 in76 wn76 on76 hb75 h en76 => ?_) qm3.ne
          obtain ⟨kn76, hbn76, hen76⟩ := hS.elem 5 rfl en76 hb75
          try simp only [W]
          refine w_ste (a := .int .i64 (IntKind.i64.wrap (b71 + b73))) (y' := (IntKind.i64.wrap (b71 + b73))) 5 hS rfl en76 hb75 rfl rfl rfl rfl rfl rfl rfl fun H hS => ?_
          try simp only [W]
          refine seq_n hK70 ?_
          refine w_seq fun K77 hK77 => ?_
          refine w_reg gC ?_
          try simp only [W, EE, Nat.reduceAdd]
          refine w_ow 1 hS rfl rfl rfl rfl rfl h (fun b78 in79 wn79 on79 hb78 h en79 => ?_) qv33.ne
          obtain ⟨kn79, hbn79, hen79⟩ := hS.elem 1 rfl en79 hb78
          try simp only [W, EE, hbn79, hen79]
          refine w_lit (el := ([b78] : List Int).map (AV.int .i64)) hS rfl rfl rfl rfl rfl rfl rfl fun v80 H qv80 hS => ?_
          try simp only [W, EE]
          refine w_appV (l := x29) (c := (AV.int .i64)) 1 hS rfl qv30 rfl rfl rfl (hS.elems 0 rfl qv80) (fun _ => rfl) rfl h fun v83 H x82 qv83 hm h hS => ?_
          try simp only [W]
          refine seq_n hK77 ?_
          refine w_reg gC ?_
          try simp only [W, EE, Nat.reduceAdd]
          refine w_slO 2 hS rfl qv33 rfl rfl rfl h fun v86 x85 qv86 hx85 h hS => ?_
          try simp only [W]
          refine blk_n0 hK62 ?_
          have hS : Own _ (⟨v83, 1, x82.map (AV.int .i64)⟩ :: ⟨v86, 1, x85.map (AV.int .i64)⟩ :: ⟨m0, 1, a0.Quanta.map (AV.int .i64)⟩ :: ⟨m1, 1, (ouw nm_SInt d101 a0.Queues).set a0.At.toNat (v13)⟩ :: ⟨m2, 1, (x35.set a0.At.toNat (IntKind.i64.wrap (b64 - b66))).map (AV.int .i64)⟩ :: ⟨m3, 1, (x36.set a0.At.toNat (IntKind.i64.wrap (b71 + b73))).map (AV.int .i64)⟩ :: ⟨.ptr ip2 wp2 0 0, 5, [.agg [m0, m1, m2, m3, .int .i64 x8]]⟩ :: ⟨.ptr ip4 wp4 0 0, 5, [.agg [.nil, .nil, .nil, .nil, .int .i64 0]]⟩ :: ((inx np_SInt (AV.int .i64) 1 d101 a0.Queues a0.At.toNat) ++ (F))) := Own.catI_ (bl := [[⟨v80, 1, ([b78] : List Int).map (AV.int .i64)⟩], [⟨v83, 1, x82.map (AV.int .i64)⟩], [⟨v86, 1, x85.map (AV.int .i64)⟩], [⟨m0, 1, a0.Quanta.map (AV.int .i64)⟩], [⟨m1, 1, (ouw nm_SInt d101 a0.Queues).set a0.At.toNat (v13)⟩], [⟨m2, 1, (x35.set a0.At.toNat (IntKind.i64.wrap (b64 - b66))).map (AV.int .i64)⟩], [⟨m3, 1, (x36.set a0.At.toNat (IntKind.i64.wrap (b71 + b73))).map (AV.int .i64)⟩], [⟨.ptr ip2 wp2 0 0, 5, [.agg [m0, m1, m2, m3, .int .i64 x8]]⟩], [⟨.ptr ip4 wp4 0 0, 5, [.agg [.nil, .nil, .nil, .nil, .int .i64 0]]⟩], (inx np_SInt (AV.int .i64) 1 d101 a0.Queues a0.At.toNat)]) (F := F) hS 10 rfl [1, 2, 3, 4, 5, 6, 7, 8, 9] (by decide)
          exact lp_n hK47 h ⟨_, qv83, _, qv86, rfl, hS⟩
        · refine w_exit ?_
          refine seq_x hK51 ?_
          try obtain rfl := Option.some.inj h
          obtain rfl := hd48 _ rfl
          have h : (some (x29, x32, x35, x36) : Option ((List Int) × (List Int) × (List Int) × (List Int))) = some (x29, x32, x35, x36) := rfl
          refine lp_x hK47 ?_
          refine blk_e hK46 ?_
          exact cut_n hK45 ⟨_, _, _, _, (Option.some.inj h).symm, _, qv30, _, qv33, rfl, hS⟩
    · obtain ⟨x37, x39, x41, x42, rfl, v38, qv38, v40, qv40, rfl, hS⟩ := hq
      replace h := g50
      try dsimp only at h
      refine seq_n hK28 ?_
      refine w_seq fun K91 hK91 => ?_
      refine w_seq fun K92 hK92 => ?_
      refine w_reg gC ?_
      try simp only [W, EE, Nat.reduceAdd]
      refine w_len 1 hS rfl qv40 rfl ?_
      try simp only [W, EE]
      refine seq_n hK92 ?_
      obtain ⟨y94, h, g95⟩ := Option.bind_eq_some_iff.1 h
      refine w_join gC (fun s H => ∃ x93 : List Int, y94 = (x93) ∧ s = (u :: .ptr ip2 wp2 0 0 :: .ptr ip4 wp4 0 0 :: u :: .int .i64 a0.At :: v38 :: v40 :: u :: u :: u :: u :: u :: u :: u :: u :: u :: u :: u :: u :: u :: u :: u :: u :: u :: u :: u :: u :: u :: u :: u :: u :: u :: u :: u :: u :: u :: u :: u :: u :: u :: u :: u :: u :: u :: u :: u :: u :: u :: u :: u :: u :: u :: u :: u :: u :: u :: u :: u :: u :: u :: u :: u :: u :: u :: u :: u :: u :: u :: u :: u :: u :: u :: u :: u :: u :: u :: u :: u :: u :: u :: u :: u :: u :: u :: u :: u :: u :: u :: u :: u :: u :: u :: u :: u :: []) ∧ Own H (⟨v38, 1, x37.map (AV.int .i64)⟩ :: ⟨v40, 1, x39.map (AV.int .i64)⟩ :: ⟨m0, 1, a0.Quanta.map (AV.int .i64)⟩ :: ⟨m1, 1, (ouw nm_SInt d101 a0.Queues).set a0.At.toNat (v13)⟩ :: ⟨m2, 1, x93.map (AV.int .i64)⟩ :: ⟨m3, 1, x42.map (AV.int .i64)⟩ :: ⟨.ptr ip2 wp2 0 0, 5, [.agg [m0, m1, m2, m3, .int .i64 x8]]⟩ :: ⟨.ptr ip4 wp4 0 0, 5, [.agg [.nil, .nil, .nil, .nil, .int .i64 0]]⟩ :: ((inx np_SInt (AV.int .i64) 1 d101 a0.Queues a0.At.toNat) ++ F))) (fun K96 hK96 => ?_) (fun s H hq => ?_)
      · refine w_seq fun K97 hK97 => ?_
        refine w_if ?_
        simp only [W]
        refine w_cnd h (fun hc h => ?_) (fun hc h => ?_)
        · refine w_reg gC ?_
          try simp only [W, EE, Nat.reduceAdd, Nat.reduceBEq, hS.var 6 rfl]
          refine w_ow 4 hS rfl rfl rfl rfl rfl h (fun b98 in99 wn99 on99 hb98 h en99 => ?_) qm2.ne
          obtain ⟨kn99, hbn99, hen99⟩ := hS.elem 4 rfl en99 hb98
          try simp only [W]
          refine w_ste (a := .int .i64 0) (y' := 0) 4 hS rfl en99 hb98 rfl rfl rfl rfl rfl rfl rfl fun H hS => ?_
          try simp only [W]
          refine seq_n hK97 ?_
          refine w_killE (s' := (u :: .ptr ip2 wp2 0 0 :: .ptr ip4 wp4 0 0 :: u :: .int .i64 a0.At :: v38 :: v40 :: u :: u :: u :: u :: u :: u :: u :: u :: u :: u :: u :: u :: u :: u :: u :: u :: u :: u :: u :: u :: u :: u :: u :: u :: u :: u :: u :: u :: u :: u :: u :: u :: u :: u :: u :: u :: u :: u :: u :: u :: u :: u :: u :: u :: u :: u :: u :: u :: u :: u :: u :: u :: u :: u :: u :: u :: u :: u :: u :: u :: u :: u :: u :: u :: u :: u :: u :: u :: u :: u :: u :: u :: u :: u :: u :: u :: u :: u :: u :: u :: u :: u :: u :: u :: u :: u :: u :: [])) rfl ?_
          exact cut_n hK96 ⟨_, (Option.some.inj h).symm, rfl, hS⟩
        · refine w_skip ?_
          refine seq_n hK97 ?_
          refine w_killE (s' := (u :: .ptr ip2 wp2 0 0 :: .ptr ip4 wp4 0 0 :: u :: .int .i64 a0.At :: v38 :: v40 :: u :: u :: u :: u :: u :: u :: u :: u :: u :: u :: u :: u :: u :: u :: u :: u :: u :: u :: u :: u :: u :: u :: u :: u :: u :: u :: u :: u :: u :: u :: u :: u :: u :: u :: u :: u :: u :: u :: u :: u :: u :: u :: u :: u :: u :: u :: u :: u :: u :: u :: u :: u :: u :: u :: u :: u :: u :: u :: u :: u :: u :: u :: u :: u :: u :: u :: u :: u :: u :: u :: u :: u :: u :: u :: u :: u :: u :: u :: u :: u :: u :: u :: u :: u :: u :: u :: u :: [])) rfl ?_
          exact cut_n hK96 ⟨_, (Option.some.inj h).symm, rfl, hS⟩
      · obtain ⟨x93, ey, rfl, hS⟩ := hq; obtain rfl := ey.symm
        replace h := g95
        try dsimp only at h
        refine seq_n hK91 ?_
        refine w_seq fun K100 hK100 => ?_
        refine w_drawL gC [(7, [])] (by kernel_rfl) rfl (by kernel_rfl) ?_
        try simp only [W, EE, reduceIte, Nat.reduceAdd, Nat.reduceBEq, hS.var 6 rfl, tabAt, qAt, Nat.reduceEqDiff]
        refine w_lit0 rfl rfl ?_
        try simp only [W]
        refine w_appQ rfl ?_
        simp only [W, EE]
        have hS := hS.e0_ 1
        refine w_appV (l := ([] : List Int)) (c := (AV.int .i64)) 0 hS rfl isSl_e0 rfl rfl rfl (hS.elems 2 rfl qv40) (fun _ => rfl) rfl h fun v103 H x102 qv103 hm h hS => ?_
        try simp only [W, EE]
        refine w_owE (x := v13) 4 hS rfl rfl rfl rfl rfl (idx_some hb12).1 (holeG qd101 hb12) qm1 (fun in105 wn105 on105 en105 hkn105 => ?_)
        obtain ⟨kn105, hbn105, hen105⟩ := hkn105
        try simp only [W]
        refine w_stE (a := v103) (y' := v103) (i := a0.At.toNat) 4 hS rfl en105 (holeG qd101 hb12) rfl rfl rfl (by rw [qv103.cells]; rfl) qv103.stora (qv103.wr2 qv13) (by first | rfl | (rw [qv103.cells]; rfl)) (List.set_set ..) fun H hS => ?_
        try simp only [W]
        refine seq_n hK100 ?_
        refine w_seq fun K106 hK106 => ?_
        refine w_reg gC ?_
        try simp only [W, EE, reduceIte, Nat.reduceAdd, Nat.reduceLeDiff, hS.var 7 rfl]
        refine w_stv (a := .agg [m0, m1, m2, m3, .int .i64 x8]) (y' := .agg [m0, m1, m2, m3, .int .i64 x8]) 8 hS rfl rfl rfl rfl rfl (by simp only [storA, List.all_cons, List.all_nil, qm0.stor, qm1.stor, qm2.stor, qm3.stor]; rfl) rfl rfl fun H hS => ?_
        try simp only [W]
        refine seq_n hK106 ?_
        refine w_ret ?_
        have hS : Own _ (⟨v103, 1, x102.map (AV.int .i64)⟩ :: ⟨m1, 1, (ouw nm_SInt d101 a0.Queues).set a0.At.toNat (v103)⟩ :: ((inx np_SInt (AV.int .i64) 1 d101 a0.Queues a0.At.toNat) ++ (⟨v38, 1, x37.map (AV.int .i64)⟩ :: ⟨v40, 1, x39.map (AV.int .i64)⟩ :: ⟨m0, 1, a0.Quanta.map (AV.int .i64)⟩ :: ⟨m2, 1, x93.map (AV.int .i64)⟩ :: ⟨m3, 1, x42.map (AV.int .i64)⟩ :: ⟨.ptr ip2 wp2 0 0, 5, [.agg [m0, m1, m2, m3, .int .i64 x8]]⟩ :: ⟨.ptr ip4 wp4 0 0, 5, [.agg [m0, m1, m2, m3, .int .i64 x8]]⟩ :: F))) := Own.catI_ (bl := [[⟨v103, 1, x102.map (AV.int .i64)⟩], [⟨v38, 1, x37.map (AV.int .i64)⟩], [⟨v40, 1, x39.map (AV.int .i64)⟩], [⟨m0, 1, a0.Quanta.map (AV.int .i64)⟩], [⟨m1, 1, (ouw nm_SInt d101 a0.Queues).set a0.At.toNat (v103)⟩], [⟨m2, 1, x93.map (AV.int .i64)⟩], [⟨m3, 1, x42.map (AV.int .i64)⟩], [⟨.ptr ip2 wp2 0 0, 5, [.agg [m0, m1, m2, m3, .int .i64 x8]]⟩], [⟨.ptr ip4 wp4 0 0, 5, [.agg [m0, m1, m2, m3, .int .i64 x8]]⟩], (inx np_SInt (AV.int .i64) 1 d101 a0.Queues a0.At.toNat)]) (F := F) hS 10 rfl [0, 4, 9, 1, 2, 3, 5, 6, 7, 8] (by decide)
        obtain ⟨d107, qd107, hS⟩ := closeN (p := np_SInt) (c := (AV.int .i64)) (m := nm_SInt) (b := b12) (y := x102) hS qd101 qv103 hb12
        have hS : Own _ (⟨v38, 1, x37.map (AV.int .i64)⟩ :: ⟨v40, 1, x39.map (AV.int .i64)⟩ :: ⟨m0, 1, a0.Quanta.map (AV.int .i64)⟩ :: ⟨m1, 1, ouw nm_SInt d107 (a0.Queues.set a0.At.toNat x102)⟩ :: ⟨m2, 1, x93.map (AV.int .i64)⟩ :: ⟨m3, 1, x42.map (AV.int .i64)⟩ :: ⟨.ptr ip2 wp2 0 0, 5, [.agg [m0, m1, m2, m3, .int .i64 x8]]⟩ :: ⟨.ptr ip4 wp4 0 0, 5, [.agg [m0, m1, m2, m3, .int .i64 x8]]⟩ :: ((inn np_SInt (AV.int .i64) 1 d107 (a0.Queues.set a0.At.toNat x102)) ++ (F))) := Own.catI_ (bl := [[⟨m1, 1, ouw nm_SInt d107 (a0.Queues.set a0.At.toNat x102)⟩], (inn np_SInt (AV.int .i64) 1 d107 (a0.Queues.set a0.At.toNat x102)), [⟨v38, 1, x37.map (AV.int .i64)⟩], [⟨v40, 1, x39.map (AV.int .i64)⟩], [⟨m0, 1, a0.Quanta.map (AV.int .i64)⟩], [⟨m2, 1, x93.map (AV.int .i64)⟩], [⟨m3, 1, x42.map (AV.int .i64)⟩], [⟨.ptr ip2 wp2 0 0, 5, [.agg [m0, m1, m2, m3, .int .i64 x8]]⟩], [⟨.ptr ip4 wp4 0 0, 5, [.agg [m0, m1, m2, m3, .int .i64 x8]]⟩]]) (F := F) hS 9 rfl [2, 3, 4, 0, 5, 6, 7, 8, 1] (by decide)
        refine fin_r hK0 (res_c rfl rfl (hS.var 7 rfl) rfl (res_tc rfl rfl)) ?_
        try obtain rfl := Option.some.inj h
        have hS : Own _ (⟨m0, 1, a0.Quanta.map (AV.int .i64)⟩ :: ⟨m1, 1, ouw nm_SInt d107 (a0.Queues.set a0.At.toNat x102)⟩ :: ⟨m2, 1, x93.map (AV.int .i64)⟩ :: ⟨m3, 1, x42.map (AV.int .i64)⟩ :: ⟨v38, 1, x37.map (AV.int .i64)⟩ :: ((inn np_SInt (AV.int .i64) 1 d107 (a0.Queues.set a0.At.toNat x102)) ++ (F))) := Own.catI_ (bl := [[⟨v38, 1, x37.map (AV.int .i64)⟩], [⟨v40, 1, x39.map (AV.int .i64)⟩], [⟨m0, 1, a0.Quanta.map (AV.int .i64)⟩], [⟨m1, 1, ouw nm_SInt d107 (a0.Queues.set a0.At.toNat x102)⟩], [⟨m2, 1, x93.map (AV.int .i64)⟩], [⟨m3, 1, x42.map (AV.int .i64)⟩], [⟨.ptr ip2 wp2 0 0, 5, [.agg [m0, m1, m2, m3, .int .i64 x8]]⟩], [⟨.ptr ip4 wp4 0 0, 5, [.agg [m0, m1, m2, m3, .int .i64 x8]]⟩], (inn np_SInt (AV.int .i64) 1 d107 (a0.Queues.set a0.At.toNat x102))]) (F := F) hS 9 rfl [2, 3, 4, 5, 0, 8] (by decide)
        exact hP _ qm0 _ qm1 _ qd107 _ qm2 _ qm3 _ qv38 _ hS
theorem spec_NextTurn_w {a0 : Turns} {r : (Turns × List Int × Bool)} (h : spec_NextTurn a0 = some r) {F : List It} {H : Heap} (hS : Own H (F)) {P : AV → Heap → Prop} (hP : ∀ v69 : AV, isSl v69 → ∀ v71 : AV, isSl v71 → ∀ d73 : List AV, isSls d73 (r.1.Queues).length → ∀ v74 : AV, isSl v74 → ∀ v76 : AV, isSl v76 → ∀ v78 : AV, isSl v78 → ∀ H', Own H' (⟨v69, 1, r.1.Quanta.map (AV.int .i64)⟩ :: ⟨v71, 1, ouw nm_SInt d73 r.1.Queues⟩ :: ⟨v74, 1, r.1.Credit.map (AV.int .i64)⟩ :: ⟨v76, 1, r.1.Sent.map (AV.int .i64)⟩ :: ⟨v78, 1, r.2.1.map (AV.int .i64)⟩ :: ((inn np_SInt (AV.int .i64) 1 d73 r.1.Queues) ++ F)) → P (.tup [.agg [v69, v71, v74, v76, .int .i64 r.1.At], v78, .bool r.2.2]) H') : ACall C 22 [.agg [.fz (a0.Quanta.map (AV.int .i64)), .fz (a0.Queues.map (fzl (AV.int .i64))), .fz (a0.Credit.map (AV.int .i64)), .fz (a0.Sent.map (AV.int .i64)), .int .i64 a0.At]] H P := by
  refine acall_of gC (res := [.cell 2 27, .tmp 3, .tmp 4]) (n := 24) rfl rfl rfl rfl fun K0 hK0 => ?_
  simp only [W, Nat.reduceSub, Nat.reduceAdd, List.replicate]
  unfold spec_NextTurn at h
  refine w_seq fun K1 hK1 => ?_
  refine w_reg gC ?_
  try simp only [W, Nat.reduceAdd]
  refine w_box hS rfl rfl rfl rfl fun ip2 wp2 H hS => ?_
  try simp only [W]
  refine w_alloc hS rfl rfl fun ip4 wp4 H hS => ?_
  try simp only [W]
  refine seq_n hK1 ?_
  refine w_seq fun K6 hK6 => ?_
  refine w_seq fun K7 hK7 => ?_
  refine w_reg gC ?_
  try simp only [W, EE, reduceIte, Nat.reduceAdd, Nat.reduceLeDiff, hS.var 1 rfl]
  refine w_call h fun b8 hb8 h => ?_
  refine spec_GoodTurns_w hb8 hS fun H hS => ?_
  try simp only [W]
  refine seq_n hK7 ?_
  refine w_if ?_
  simp only [W]
  refine w_cnd h (fun hc h => ?_) (fun hc h => ?_)
  · refine w_seq fun K9 hK9 => ?_
    refine w_reg gC ?_
    try simp only [W, EE, Nat.reduceAdd]
    refine w_bld rfl rfl rfl rfl rfl ?_
    try simp only [W]
    refine w_stv (a := .agg [.nil, .nil, .nil, .nil, .int .i64 0]) (y' := .agg [.nil, .nil, .nil, .nil, .int .i64 0]) 0 hS rfl rfl rfl rfl rfl rfl rfl rfl fun H hS => ?_
    try simp only [W]
    refine seq_n hK9 ?_
    refine w_ret ?_
    refine seq_r hK6 ?_
    have hS := hS.nil_ 1
    have hS := hS.nil_ 1
    obtain ⟨d12, qd12, hS⟩ := noneN (p := np_SInt) (c := (AV.int .i64)) (z := 1) (m := nm_SInt) hS
    have hS : Own _ (⟨AV.nil, 1, ouw nm_SInt d12 ([] : List (List Int))⟩ :: ⟨AV.nil, 1, ([] : List Int).map (AV.int .i64)⟩ :: ⟨.ptr ip4 wp4 0 0, 5, [.agg [.nil, .nil, .nil, .nil, .int .i64 0]]⟩ :: ⟨.ptr ip2 wp2 0 0, 5, [.agg [.fz (a0.Quanta.map (AV.int .i64)), .fz (a0.Queues.map (fzl (AV.int .i64))), .fz (a0.Credit.map (AV.int .i64)), .fz (a0.Sent.map (AV.int .i64)), .int .i64 a0.At]]⟩ :: ((inn np_SInt (AV.int .i64) 1 d12 ([] : List (List Int))) ++ (F))) := Own.catI_ (bl := [[⟨AV.nil, 1, ouw nm_SInt d12 ([] : List (List Int))⟩], (inn np_SInt (AV.int .i64) 1 d12 ([] : List (List Int))), [⟨AV.nil, 1, ([] : List Int).map (AV.int .i64)⟩], [⟨.ptr ip4 wp4 0 0, 5, [.agg [.nil, .nil, .nil, .nil, .int .i64 0]]⟩], [⟨.ptr ip2 wp2 0 0, 5, [.agg [.fz (a0.Quanta.map (AV.int .i64)), .fz (a0.Queues.map (fzl (AV.int .i64))), .fz (a0.Credit.map (AV.int .i64)), .fz (a0.Sent.map (AV.int .i64)), .int .i64 a0.At]]⟩]]) (F := F) hS 5 rfl [0, 2, 3, 4, 1] (by decide)
    have hS := hS.nil_ 1
    have hS := hS.nil_ 1
    have hS := hS.nil_ 1
    refine fin_r hK0 (res_c rfl rfl (hS.var 5 rfl) rfl (res_tc rfl (res_tc rfl rfl))) ?_
    try obtain rfl := Option.some.inj h
    have hS : Own _ (⟨AV.nil, 1, ([] : List Int).map (AV.int .i64)⟩ :: ⟨AV.nil, 1, ouw nm_SInt d12 ([] : List (List Int))⟩ :: ⟨AV.nil, 1, ([] : List Int).map (AV.int .i64)⟩ :: ⟨AV.nil, 1, ([] : List Int).map (AV.int .i64)⟩ :: ⟨AV.nil, 1, ([] : List Int).map (AV.int .i64)⟩ :: ((inn np_SInt (AV.int .i64) 1 d12 ([] : List (List Int))) ++ (F))) := Own.catI_ (bl := [[⟨AV.nil, 1, ([] : List Int).map (AV.int .i64)⟩], [⟨AV.nil, 1, ([] : List Int).map (AV.int .i64)⟩], [⟨AV.nil, 1, ([] : List Int).map (AV.int .i64)⟩], [⟨AV.nil, 1, ouw nm_SInt d12 ([] : List (List Int))⟩], [⟨AV.nil, 1, ([] : List Int).map (AV.int .i64)⟩], [⟨.ptr ip4 wp4 0 0, 5, [.agg [.nil, .nil, .nil, .nil, .int .i64 0]]⟩], [⟨.ptr ip2 wp2 0 0, 5, [.agg [.fz (a0.Quanta.map (AV.int .i64)), .fz (a0.Queues.map (fzl (AV.int .i64))), .fz (a0.Credit.map (AV.int .i64)), .fz (a0.Sent.map (AV.int .i64)), .int .i64 a0.At]]⟩], (inn np_SInt (AV.int .i64) 1 d12 ([] : List (List Int)))]) (F := F) hS 8 rfl [4, 3, 2, 1, 0, 7] (by decide)
    exact hP _ isSl_nil _ isSl_nil _ qd12 _ isSl_nil _ isSl_nil _ isSl_nil _ hS
  · refine w_skip ?_
    refine seq_n hK6 ?_
    refine w_seq fun K16 hK16 => ?_
    refine w_reg gC ?_
    try simp only [W, EE, reduceIte, Nat.reduceAdd, Nat.reduceLeDiff, hS.var 1 rfl]
    refine w_call h fun b17 hb17 h => ?_
    refine spec_l8Own_w hb17 hS fun v18 qv18 v20 qv20 d22 qd22 v23 qv23 v25 qv25 H hS => ?_
    have hS : Own _ (⟨v18, 1, b17.Quanta.map (AV.int .i64)⟩ :: ⟨v20, 1, ouw nm_SInt d22 b17.Queues⟩ :: ⟨v23, 1, b17.Credit.map (AV.int .i64)⟩ :: ⟨v25, 1, b17.Sent.map (AV.int .i64)⟩ :: ⟨.ptr ip4 wp4 0 0, 5, [.agg [.nil, .nil, .nil, .nil, .int .i64 0]]⟩ :: ⟨.ptr ip2 wp2 0 0, 5, [.agg [.fz (a0.Quanta.map (AV.int .i64)), .fz (a0.Queues.map (fzl (AV.int .i64))), .fz (a0.Credit.map (AV.int .i64)), .fz (a0.Sent.map (AV.int .i64)), .int .i64 a0.At]]⟩ :: ((inn np_SInt (AV.int .i64) 1 d22 b17.Queues) ++ (F))) := Own.catI_ (bl := [[⟨v18, 1, b17.Quanta.map (AV.int .i64)⟩], [⟨v20, 1, ouw nm_SInt d22 b17.Queues⟩], [⟨v23, 1, b17.Credit.map (AV.int .i64)⟩], [⟨v25, 1, b17.Sent.map (AV.int .i64)⟩], (inn np_SInt (AV.int .i64) 1 d22 b17.Queues), [⟨.ptr ip4 wp4 0 0, 5, [.agg [.nil, .nil, .nil, .nil, .int .i64 0]]⟩], [⟨.ptr ip2 wp2 0 0, 5, [.agg [.fz (a0.Quanta.map (AV.int .i64)), .fz (a0.Queues.map (fzl (AV.int .i64))), .fz (a0.Credit.map (AV.int .i64)), .fz (a0.Sent.map (AV.int .i64)), .int .i64 a0.At]]⟩]]) (F := F) hS 7 rfl [0, 1, 2, 3, 5, 6, 4] (by decide)
    try simp only [W]
    have hS : Own _ (⟨v18, 1, b17.Quanta.map (AV.int .i64)⟩ :: ⟨v20, 1, ouw nm_SInt d22 b17.Queues⟩ :: ⟨v23, 1, b17.Credit.map (AV.int .i64)⟩ :: ⟨v25, 1, b17.Sent.map (AV.int .i64)⟩ :: ((inn np_SInt (AV.int .i64) 1 d22 b17.Queues) ++ (⟨.ptr ip4 wp4 0 0, 5, [.agg [.nil, .nil, .nil, .nil, .int .i64 0]]⟩ :: ⟨.ptr ip2 wp2 0 0, 5, [.agg [.fz (a0.Quanta.map (AV.int .i64)), .fz (a0.Queues.map (fzl (AV.int .i64))), .fz (a0.Credit.map (AV.int .i64)), .fz (a0.Sent.map (AV.int .i64)), .int .i64 a0.At]]⟩ :: F))) := Own.catI_ (bl := [[⟨v18, 1, b17.Quanta.map (AV.int .i64)⟩], [⟨v20, 1, ouw nm_SInt d22 b17.Queues⟩], [⟨v23, 1, b17.Credit.map (AV.int .i64)⟩], [⟨v25, 1, b17.Sent.map (AV.int .i64)⟩], [⟨.ptr ip4 wp4 0 0, 5, [.agg [.nil, .nil, .nil, .nil, .int .i64 0]]⟩], [⟨.ptr ip2 wp2 0 0, 5, [.agg [.fz (a0.Quanta.map (AV.int .i64)), .fz (a0.Queues.map (fzl (AV.int .i64))), .fz (a0.Credit.map (AV.int .i64)), .fz (a0.Sent.map (AV.int .i64)), .int .i64 a0.At]]⟩], (inn np_SInt (AV.int .i64) 1 d22 b17.Queues)]) (F := F) hS 7 rfl [0, 1, 2, 3, 6, 4, 5] (by decide)
    refine w_call h fun b27 hb27 h => ?_
    obtain ⟨b28, b29⟩ := b27
    try dsimp only at h
    refine spec_l8Next_w hb27 hS qv18 qv20 qd22 qv23 qv25 fun v30 qv30 v32 qv32 d34 qd34 v35 qv35 v37 qv37 v39 qv39 H hS => ?_
    have hS : Own _ (⟨v30, 1, b28.Quanta.map (AV.int .i64)⟩ :: ⟨v32, 1, ouw nm_SInt d34 b28.Queues⟩ :: ⟨v35, 1, b28.Credit.map (AV.int .i64)⟩ :: ⟨v37, 1, b28.Sent.map (AV.int .i64)⟩ :: ⟨v39, 1, b29.map (AV.int .i64)⟩ :: ⟨.ptr ip4 wp4 0 0, 5, [.agg [.nil, .nil, .nil, .nil, .int .i64 0]]⟩ :: ⟨.ptr ip2 wp2 0 0, 5, [.agg [.fz (a0.Quanta.map (AV.int .i64)), .fz (a0.Queues.map (fzl (AV.int .i64))), .fz (a0.Credit.map (AV.int .i64)), .fz (a0.Sent.map (AV.int .i64)), .int .i64 a0.At]]⟩ :: ((inn np_SInt (AV.int .i64) 1 d34 b28.Queues) ++ (F))) := Own.catI_ (bl := [[⟨v30, 1, b28.Quanta.map (AV.int .i64)⟩], [⟨v32, 1, ouw nm_SInt d34 b28.Queues⟩], [⟨v35, 1, b28.Credit.map (AV.int .i64)⟩], [⟨v37, 1, b28.Sent.map (AV.int .i64)⟩], [⟨v39, 1, b29.map (AV.int .i64)⟩], (inn np_SInt (AV.int .i64) 1 d34 b28.Queues), [⟨.ptr ip4 wp4 0 0, 5, [.agg [.nil, .nil, .nil, .nil, .int .i64 0]]⟩], [⟨.ptr ip2 wp2 0 0, 5, [.agg [.fz (a0.Quanta.map (AV.int .i64)), .fz (a0.Queues.map (fzl (AV.int .i64))), .fz (a0.Credit.map (AV.int .i64)), .fz (a0.Sent.map (AV.int .i64)), .int .i64 a0.At]]⟩]]) (F := F) hS 8 rfl [0, 1, 2, 3, 4, 6, 7, 5] (by decide)
    try simp only [W]
    refine w_alloc hS rfl rfl fun ip41 wp41 H hS => ?_
    try simp only [W]
    refine w_stv (a := .agg [v30, v32, v35, v37, .int .i64 b28.At]) (y' := .agg [v30, v32, v35, v37, .int .i64 b28.At]) 0 hS rfl rfl rfl rfl rfl (by simp only [storA, List.all_cons, List.all_nil, qv30.stor, qv32.stor, qv35.stor, qv37.stor]; rfl) rfl rfl fun H hS => ?_
    try simp only [W]
    refine seq_n hK16 ?_
    refine w_seq fun K43 hK43 => ?_
    refine w_seq fun K44 hK44 => ?_
    refine w_reg gC ?_
    try simp only [W, EE, reduceIte, Nat.reduceAdd, Nat.reduceLeDiff, hS.var 0 rfl]
    have hS : Own _ (⟨.ptr ip41 wp41 0 0, 5, [.agg [v30, v32, v35, v37, .int .i64 b28.At]]⟩ :: ⟨v30, 1, b28.Quanta.map (AV.int .i64)⟩ :: ⟨v32, 1, ouw nm_SInt d34 b28.Queues⟩ :: ⟨v35, 1, b28.Credit.map (AV.int .i64)⟩ :: ⟨v37, 1, b28.Sent.map (AV.int .i64)⟩ :: ⟨v39, 1, b29.map (AV.int .i64)⟩ :: ⟨.ptr ip4 wp4 0 0, 5, [.agg [.nil, .nil, .nil, .nil, .int .i64 0]]⟩ :: ⟨.ptr ip2 wp2 0 0, 5, [.agg [.fz (a0.Quanta.map (AV.int .i64)), .fz (a0.Queues.map (fzl (AV.int .i64))), .fz (a0.Credit.map (AV.int .i64)), .fz (a0.Sent.map (AV.int .i64)), .int .i64 a0.At]]⟩ :: ((inn np_SInt (AV.int .i64) 1 d34 b28.Queues) ++ F)) := hS
    refine w_callS (rsh := [[.sc]]) (ys := [.agg [.fz (b28.Quanta.map (AV.int .i64)), .fz (b28.Queues.map (fzl (AV.int .i64))), .fz (b28.Credit.map (AV.int .i64)), .fz (b28.Sent.map (AV.int .i64)), .int .i64 b28.At]]) h rfl (pv_c (sn_agg (sm_c (sn_ow hS 1 rfl qv30 (fun _ => rfl)) (sm_c (sn_owN (enc := (fzl (AV.int .i64))) hS 2 rfl qv32 qd34 (fun _ h => (List.mem_cons_of_mem _ (List.mem_cons_of_mem _ (List.mem_cons_of_mem _ (List.mem_cons_of_mem _ (List.mem_cons_of_mem _ (List.mem_cons_of_mem _ (List.mem_cons_of_mem _ (List.mem_cons_of_mem _ (List.mem_append_left _ h)))))))))) (fun _ _ ha hk => sn_it hk ha (fun _ => rfl))) (sm_c (sn_ow hS 3 rfl qv35 (fun _ => rfl)) (sm_c (sn_ow hS 4 rfl qv37 (fun _ => rfl)) (sm_c rfl (sm_n _))))))) pv_n) fun b45 hb45 h => ⟨.bool b45, spec_GoodTurns_w hb45 (Own.nil _) fun H hS => TV_ok rfl (TV_p rfl (TV_n rfl)), ⟨rfl, rfl, fun _ => rfl⟩, ?_⟩
    try simp only [W]
    refine seq_n hK44 ?_
    refine w_if ?_
    simp only [W]
    refine w_cnd h (fun hc h => ?_) (fun hc h => ?_)
    · refine w_seq fun K46 hK46 => ?_
      refine w_reg gC ?_
      try simp only [W, EE, Nat.reduceAdd]
      refine w_bld rfl rfl rfl rfl rfl ?_
      try simp only [W]
      refine w_stv (a := .agg [.nil, .nil, .nil, .nil, .int .i64 0]) (y' := .agg [.nil, .nil, .nil, .nil, .int .i64 0]) 6 hS rfl rfl rfl rfl rfl rfl rfl rfl fun H hS => ?_
      try simp only [W]
      refine seq_n hK46 ?_
      refine w_ret ?_
      refine seq_r hK43 ?_
      have hS := hS.nil_ 1
      have hS := hS.nil_ 1
      obtain ⟨d49, qd49, hS⟩ := noneN (p := np_SInt) (c := (AV.int .i64)) (z := 1) (m := nm_SInt) hS
      have hS : Own _ (⟨AV.nil, 1, ouw nm_SInt d49 ([] : List (List Int))⟩ :: ⟨AV.nil, 1, ([] : List Int).map (AV.int .i64)⟩ :: ⟨.ptr ip41 wp41 0 0, 5, [.agg [v30, v32, v35, v37, .int .i64 b28.At]]⟩ :: ⟨v30, 1, b28.Quanta.map (AV.int .i64)⟩ :: ⟨v32, 1, ouw nm_SInt d34 b28.Queues⟩ :: ⟨v35, 1, b28.Credit.map (AV.int .i64)⟩ :: ⟨v37, 1, b28.Sent.map (AV.int .i64)⟩ :: ⟨v39, 1, b29.map (AV.int .i64)⟩ :: ⟨.ptr ip4 wp4 0 0, 5, [.agg [.nil, .nil, .nil, .nil, .int .i64 0]]⟩ :: ⟨.ptr ip2 wp2 0 0, 5, [.agg [.fz (a0.Quanta.map (AV.int .i64)), .fz (a0.Queues.map (fzl (AV.int .i64))), .fz (a0.Credit.map (AV.int .i64)), .fz (a0.Sent.map (AV.int .i64)), .int .i64 a0.At]]⟩ :: ((inn np_SInt (AV.int .i64) 1 d49 ([] : List (List Int))) ++ (((inn np_SInt (AV.int .i64) 1 d34 b28.Queues) ++ (F))))) := Own.catI_ (bl := [[⟨AV.nil, 1, ouw nm_SInt d49 ([] : List (List Int))⟩], (inn np_SInt (AV.int .i64) 1 d49 ([] : List (List Int))), [⟨AV.nil, 1, ([] : List Int).map (AV.int .i64)⟩], [⟨.ptr ip41 wp41 0 0, 5, [.agg [v30, v32, v35, v37, .int .i64 b28.At]]⟩], [⟨v30, 1, b28.Quanta.map (AV.int .i64)⟩], [⟨v32, 1, ouw nm_SInt d34 b28.Queues⟩], [⟨v35, 1, b28.Credit.map (AV.int .i64)⟩], [⟨v37, 1, b28.Sent.map (AV.int .i64)⟩], [⟨v39, 1, b29.map (AV.int .i64)⟩], [⟨.ptr ip4 wp4 0 0, 5, [.agg [.nil, .nil, .nil, .nil, .int .i64 0]]⟩], [⟨.ptr ip2 wp2 0 0, 5, [.agg [.fz (a0.Quanta.map (AV.int .i64)), .fz (a0.Queues.map (fzl (AV.int .i64))), .fz (a0.Credit.map (AV.int .i64)), .fz (a0.Sent.map (AV.int .i64)), .int .i64 a0.At]]⟩], (inn np_SInt (AV.int .i64) 1 d34 b28.Queues)]) (F := F) hS 12 rfl [0, 2, 3, 4, 5, 6, 7, 8, 9, 10, 1, 11] (by decide)
      have hS := hS.nil_ 1
      have hS := hS.nil_ 1
      have hS := hS.nil_ 1
      refine fin_r hK0 (res_c rfl rfl (hS.var 11 rfl) rfl (res_tc rfl (res_tc rfl rfl))) ?_
      try obtain rfl := Option.some.inj h
      have hS : Own _ (⟨AV.nil, 1, ([] : List Int).map (AV.int .i64)⟩ :: ⟨AV.nil, 1, ouw nm_SInt d49 ([] : List (List Int))⟩ :: ⟨AV.nil, 1, ([] : List Int).map (AV.int .i64)⟩ :: ⟨AV.nil, 1, ([] : List Int).map (AV.int .i64)⟩ :: ⟨AV.nil, 1, ([] : List Int).map (AV.int .i64)⟩ :: ((inn np_SInt (AV.int .i64) 1 d49 ([] : List (List Int))) ++ (F))) := Own.catI_ (bl := [[⟨AV.nil, 1, ([] : List Int).map (AV.int .i64)⟩], [⟨AV.nil, 1, ([] : List Int).map (AV.int .i64)⟩], [⟨AV.nil, 1, ([] : List Int).map (AV.int .i64)⟩], [⟨AV.nil, 1, ouw nm_SInt d49 ([] : List (List Int))⟩], [⟨AV.nil, 1, ([] : List Int).map (AV.int .i64)⟩], [⟨.ptr ip41 wp41 0 0, 5, [.agg [v30, v32, v35, v37, .int .i64 b28.At]]⟩], [⟨v30, 1, b28.Quanta.map (AV.int .i64)⟩], [⟨v32, 1, ouw nm_SInt d34 b28.Queues⟩], [⟨v35, 1, b28.Credit.map (AV.int .i64)⟩], [⟨v37, 1, b28.Sent.map (AV.int .i64)⟩], [⟨v39, 1, b29.map (AV.int .i64)⟩], [⟨.ptr ip4 wp4 0 0, 5, [.agg [.nil, .nil, .nil, .nil, .int .i64 0]]⟩], [⟨.ptr ip2 wp2 0 0, 5, [.agg [.fz (a0.Quanta.map (AV.int .i64)), .fz (a0.Queues.map (fzl (AV.int .i64))), .fz (a0.Credit.map (AV.int .i64)), .fz (a0.Sent.map (AV.int .i64)), .int .i64 a0.At]]⟩], (inn np_SInt (AV.int .i64) 1 d49 ([] : List (List Int))), (inn np_SInt (AV.int .i64) 1 d34 b28.Queues)]) (F := F) hS 15 rfl [4, 3, 2, 1, 0, 13] (by decide)
      exact hP _ isSl_nil _ isSl_nil _ qd49 _ isSl_nil _ isSl_nil _ isSl_nil _ hS
    · refine w_skip ?_
      refine seq_n hK43 ?_
      refine w_seq fun K53 hK53 => ?_
      refine w_reg gC ?_
      try simp only [W, EE, reduceIte, Nat.reduceAdd, Nat.reduceLeDiff, Nat.reduceBEq, hS.var 0 rfl, List.contains_cons, Nat.reduceBEq, Bool.or_self]
      have hS : Own _ (⟨.ptr ip41 wp41 0 0, 5, [.agg [v30, v32, v35, v37, .int .i64 b28.At]]⟩ :: ⟨v30, 1, b28.Quanta.map (AV.int .i64)⟩ :: ⟨v32, 1, ouw nm_SInt d34 b28.Queues⟩ :: ⟨v35, 1, b28.Credit.map (AV.int .i64)⟩ :: ⟨v37, 1, b28.Sent.map (AV.int .i64)⟩ :: ⟨v39, 1, b29.map (AV.int .i64)⟩ :: ⟨.ptr ip4 wp4 0 0, 5, [.agg [.nil, .nil, .nil, .nil, .int .i64 0]]⟩ :: ⟨.ptr ip2 wp2 0 0, 5, [.agg [.fz (a0.Quanta.map (AV.int .i64)), .fz (a0.Queues.map (fzl (AV.int .i64))), .fz (a0.Credit.map (AV.int .i64)), .fz (a0.Sent.map (AV.int .i64)), .int .i64 a0.At]]⟩ :: ((inn np_SInt (AV.int .i64) 1 d34 b28.Queues) ++ F)) := hS
      refine w_callO (rsh := [[.sl [.sc], .sl [.sl [.sc]], .sl [.sc], .sl [.sc], .sc]]) (ys := [.agg [.fz (b28.Quanta.map (AV.int .i64)), .fz (b28.Queues.map (fzl (AV.int .i64))), .fz (b28.Credit.map (AV.int .i64)), .fz (b28.Sent.map (AV.int .i64)), .int .i64 b28.At]]) h rfl (pv_c (sn_agg (sm_c (sn_ow hS 1 rfl qv30 (fun _ => rfl)) (sm_c (sn_owN (enc := (fzl (AV.int .i64))) hS 2 rfl qv32 qd34 (fun _ h => (List.mem_cons_of_mem _ (List.mem_cons_of_mem _ (List.mem_cons_of_mem _ (List.mem_cons_of_mem _ (List.mem_cons_of_mem _ (List.mem_cons_of_mem _ (List.mem_cons_of_mem _ (List.mem_cons_of_mem _ (List.mem_append_left _ h)))))))))) (fun _ _ ha hk => sn_it hk ha (fun _ => rfl))) (sm_c (sn_ow hS 3 rfl qv35 (fun _ => rfl)) (sm_c (sn_ow hS 4 rfl qv37 (fun _ => rfl)) (sm_c rfl (sm_n _))))))) pv_n) fun b54 hb54 h => ⟨.agg [.own 1 (b54.Quanta.map (AV.int .i64)), .own 1 (b54.Queues.map nd_SInt), .own 1 (b54.Credit.map (AV.int .i64)), .own 1 (b54.Sent.map (AV.int .i64)), .int .i64 b54.At], spec_l8Own_w hb54 (Own.nil _) fun v55 qv55 v56 qv56 d57 qd57 v58 qv58 v59 qv59 H hS => TV_ok rfl (TV_a (TC_ow 0 hS rfl qv55 (fun _ _ => by simp [takeE, takeT, plainA]) fun H hS => TC_owN (d := nd_SInt) (Own.catI_ (bl := [[⟨v56, 1, ouw nm_SInt d57 b54.Queues⟩], [⟨v58, 1, b54.Credit.map (AV.int .i64)⟩], [⟨v59, 1, b54.Sent.map (AV.int .i64)⟩], (inn np_SInt (AV.int .i64) 1 d57 b54.Queues)]) (F := []) hS 4 rfl [0, 3, 1, 2] (by decide)) qv56 qd57 nt_SInt fun H hS => TC_ow 0 hS rfl qv58 (fun _ _ => by simp [takeE, takeT, plainA]) fun H hS => TC_ow 0 hS rfl qv59 (fun _ _ => by simp [takeE, takeT, plainA]) fun H hS => TC_sc rfl (TC_nil (TV_n rfl)))), (nf_a (nf_c (noFz_o _ (fun _ => rfl) _) (nf_c (noFz_o _ nf_SInt _) (nf_c (noFz_o _ (fun _ => rfl) _) (nf_c (noFz_o _ (fun _ => rfl) _) (nf_c rfl nf_n)))))), ?_⟩
      refine thaw_1 ?_
      refine TH_a ?_
      refine TH_o hS (fun _ _ => rfl) (fun _ => rfl) fun v61 H qv61 hS => ?_
      refine TH_oN (l := b54.Queues) (d := nd_SInt) (m := nm_SInt) (p := np_SInt) (c := (AV.int .i64)) hS nc_SInt nh_SInt fun v63 d64 H qv63 qd64 hS => ?_
      have hS : Own _ (⟨v63, 1, ouw nm_SInt d64 b54.Queues⟩ :: ⟨v61, 1, b54.Quanta.map (AV.int .i64)⟩ :: ⟨.ptr ip41 wp41 0 0, 5, [.agg [v30, v32, v35, v37, .int .i64 b28.At]]⟩ :: ⟨v30, 1, b28.Quanta.map (AV.int .i64)⟩ :: ⟨v32, 1, ouw nm_SInt d34 b28.Queues⟩ :: ⟨v35, 1, b28.Credit.map (AV.int .i64)⟩ :: ⟨v37, 1, b28.Sent.map (AV.int .i64)⟩ :: ⟨v39, 1, b29.map (AV.int .i64)⟩ :: ⟨.ptr ip4 wp4 0 0, 5, [.agg [.nil, .nil, .nil, .nil, .int .i64 0]]⟩ :: ⟨.ptr ip2 wp2 0 0, 5, [.agg [.fz (a0.Quanta.map (AV.int .i64)), .fz (a0.Queues.map (fzl (AV.int .i64))), .fz (a0.Credit.map (AV.int .i64)), .fz (a0.Sent.map (AV.int .i64)), .int .i64 a0.At]]⟩ :: ((inn np_SInt (AV.int .i64) 1 d64 b54.Queues) ++ (((inn np_SInt (AV.int .i64) 1 d34 b28.Queues) ++ (F))))) := Own.catI_ (bl := [[⟨v63, 1, ouw nm_SInt d64 b54.Queues⟩], (inn np_SInt (AV.int .i64) 1 d64 b54.Queues), [⟨v61, 1, b54.Quanta.map (AV.int .i64)⟩], [⟨.ptr ip41 wp41 0 0, 5, [.agg [v30, v32, v35, v37, .int .i64 b28.At]]⟩], [⟨v30, 1, b28.Quanta.map (AV.int .i64)⟩], [⟨v32, 1, ouw nm_SInt d34 b28.Queues⟩], [⟨v35, 1, b28.Credit.map (AV.int .i64)⟩], [⟨v37, 1, b28.Sent.map (AV.int .i64)⟩], [⟨v39, 1, b29.map (AV.int .i64)⟩], [⟨.ptr ip4 wp4 0 0, 5, [.agg [.nil, .nil, .nil, .nil, .int .i64 0]]⟩], [⟨.ptr ip2 wp2 0 0, 5, [.agg [.fz (a0.Quanta.map (AV.int .i64)), .fz (a0.Queues.map (fzl (AV.int .i64))), .fz (a0.Credit.map (AV.int .i64)), .fz (a0.Sent.map (AV.int .i64)), .int .i64 a0.At]]⟩], (inn np_SInt (AV.int .i64) 1 d34 b28.Queues)]) (F := F) hS 12 rfl [0, 2, 3, 4, 5, 6, 7, 8, 9, 10, 1, 11] (by decide)
      refine TH_o hS (fun _ _ => rfl) (fun _ => rfl) fun v66 H qv66 hS => ?_
      refine TH_o hS (fun _ _ => rfl) (fun _ => rfl) fun v68 H qv68 hS => ?_
      refine TH_p (fun _ => rfl) ?_
      refine TH_n ?_
      refine TH_n ?_
      try simp only [List.headD_cons]
      try simp only [W]
      refine w_stv (a := .agg [v61, v63, v66, v68, .int .i64 b54.At]) (y' := .agg [v61, v63, v66, v68, .int .i64 b54.At]) 10 hS rfl rfl rfl rfl rfl (by simp only [storA, List.all_cons, List.all_nil, qv61.stor, qv63.stor, qv66.stor, qv68.stor]; rfl) rfl rfl fun H hS => ?_
      try simp only [W]
      refine seq_n hK53 ?_
      refine w_ret ?_
      refine fin_r hK0 (res_c rfl rfl (hS.var 10 rfl) rfl (res_tc rfl (res_tc rfl rfl))) ?_
      try obtain rfl := Option.some.inj h
      have hS : Own _ (⟨v61, 1, b54.Quanta.map (AV.int .i64)⟩ :: ⟨v63, 1, ouw nm_SInt d64 b54.Queues⟩ :: ⟨v66, 1, b54.Credit.map (AV.int .i64)⟩ :: ⟨v68, 1, b54.Sent.map (AV.int .i64)⟩ :: ⟨v39, 1, b29.map (AV.int .i64)⟩ :: ((inn np_SInt (AV.int .i64) 1 d64 b54.Queues) ++ (F))) := Own.catI_ (bl := [[⟨v68, 1, b54.Sent.map (AV.int .i64)⟩], [⟨v66, 1, b54.Credit.map (AV.int .i64)⟩], [⟨v63, 1, ouw nm_SInt d64 b54.Queues⟩], [⟨v61, 1, b54.Quanta.map (AV.int .i64)⟩], [⟨.ptr ip41 wp41 0 0, 5, [.agg [v30, v32, v35, v37, .int .i64 b28.At]]⟩], [⟨v30, 1, b28.Quanta.map (AV.int .i64)⟩], [⟨v32, 1, ouw nm_SInt d34 b28.Queues⟩], [⟨v35, 1, b28.Credit.map (AV.int .i64)⟩], [⟨v37, 1, b28.Sent.map (AV.int .i64)⟩], [⟨v39, 1, b29.map (AV.int .i64)⟩], [⟨.ptr ip4 wp4 0 0, 5, [.agg [v61, v63, v66, v68, .int .i64 b54.At]]⟩], [⟨.ptr ip2 wp2 0 0, 5, [.agg [.fz (a0.Quanta.map (AV.int .i64)), .fz (a0.Queues.map (fzl (AV.int .i64))), .fz (a0.Credit.map (AV.int .i64)), .fz (a0.Sent.map (AV.int .i64)), .int .i64 a0.At]]⟩], (inn np_SInt (AV.int .i64) 1 d64 b54.Queues), (inn np_SInt (AV.int .i64) 1 d34 b28.Queues)]) (F := F) hS 14 rfl [3, 2, 1, 0, 9, 12] (by decide)
      exact hP _ qv61 _ qv63 _ qd64 _ qv66 _ qv68 _ qv39 _ hS
theorem spec_RunTurns_w {a0 : Turns} {a1 : Int} {r : (Turns × Bool)} (h : spec_RunTurns a0 a1 = some r) {F : List It} {H : Heap} (hS : Own H (F)) {P : AV → Heap → Prop} (hP : ∀ v111 : AV, isSl v111 → ∀ v113 : AV, isSl v113 → ∀ d115 : List AV, isSls d115 (r.1.Queues).length → ∀ v116 : AV, isSl v116 → ∀ v118 : AV, isSl v118 → ∀ H', Own H' (⟨v111, 1, r.1.Quanta.map (AV.int .i64)⟩ :: ⟨v113, 1, ouw nm_SInt d115 r.1.Queues⟩ :: ⟨v116, 1, r.1.Credit.map (AV.int .i64)⟩ :: ⟨v118, 1, r.1.Sent.map (AV.int .i64)⟩ :: ((inn np_SInt (AV.int .i64) 1 d115 r.1.Queues) ++ F)) → P (.tup [.agg [v111, v113, v116, v118, .int .i64 r.1.At], .bool r.2]) H') : ACall C 27 [.agg [.fz (a0.Quanta.map (AV.int .i64)), .fz (a0.Queues.map (fzl (AV.int .i64))), .fz (a0.Credit.map (AV.int .i64)), .fz (a0.Sent.map (AV.int .i64)), .int .i64 a0.At], .int .i64 a1] H P := by
  refine acall_of gC (res := [.cell 4 27, .tmp 5]) (n := 36) rfl rfl rfl rfl fun K0 hK0 => ?_
  simp only [W, Nat.reduceSub, Nat.reduceAdd, List.replicate]
  unfold spec_RunTurns at h
  refine w_seq fun K1 hK1 => ?_
  refine w_reg gC ?_
  try simp only [W, Nat.reduceAdd]
  refine w_box hS rfl rfl rfl rfl fun ip2 wp2 H hS => ?_
  try simp only [W]
  refine w_alloc hS rfl rfl fun ip4 wp4 H hS => ?_
  try simp only [W]
  refine seq_n hK1 ?_
  refine w_seq fun K6 hK6 => ?_
  refine w_seq fun K7 hK7 => ?_
  obtain ⟨y9, h, g10⟩ := Option.bind_eq_some_iff.1 h
  refine w_join gC (fun s H => ∃ x8 : Bool, y9 = (x8) ∧ s = [u, .int .i64 a1, .ptr ip2 wp2 0 0, u, .ptr ip4 wp4 0 0, u, u, u, u, u, u, u, u, u, u, u, u, .bool x8, u, u, u, u, u, u, u, u, u, u, u, u, u, u, u, u, u, u] ∧ Own H (⟨.ptr ip2 wp2 0 0, 5, [.agg [.fz (a0.Quanta.map (AV.int .i64)), .fz (a0.Queues.map (fzl (AV.int .i64))), .fz (a0.Credit.map (AV.int .i64)), .fz (a0.Sent.map (AV.int .i64)), .int .i64 a0.At]]⟩ :: ⟨.ptr ip4 wp4 0 0, 5, [.agg [.nil, .nil, .nil, .nil, .int .i64 0]]⟩ :: F)) (fun K11 hK11 => ?_) (fun s H hq => ?_)
  · refine w_seq fun K12 hK12 => ?_
    refine w_reg gC ?_
    try simp only [W, EE, reduceIte, Nat.reduceAdd, Nat.reduceLeDiff, hS.var 1 rfl]
    refine w_call h fun b13 hb13 h => ?_
    refine spec_GoodTurns_w hb13 hS fun H hS => ?_
    try simp only [W]
    refine w_grdT h (fun hc h => ?_) (fun hc h => ?_)
    · try simp only [W, hc]
      refine seq_n hK12 ?_
      refine w_kill ?_
      exact cut_n hK11 ⟨_, (Option.some.inj h).symm, rfl, (hS.sel 2 [1, 0] (by decide))⟩
    · try simp only [W, hc]
      refine w_call h fun b14 hb14 h => ?_
      refine spec_l1In_w hb14 hS fun H hS => ?_
      try simp only [W, reduceIte, Bool.false_eq_true]
      refine seq_n hK12 ?_
      refine w_kill ?_
      exact cut_n hK11 ⟨_, (Option.some.inj h).symm, rfl, (hS.sel 2 [1, 0] (by decide))⟩
  · obtain ⟨x8, ey, rfl, hS⟩ := hq; obtain rfl := ey.symm
    replace h := g10
    try dsimp only at h
    refine seq_n hK7 ?_
    refine w_if ?_
    simp only [W]
    refine w_cnd h (fun hc h => ?_) (fun hc h => ?_)
    · refine w_seq fun K15 hK15 => ?_
      refine w_reg gC ?_
      try simp only [W, EE, Nat.reduceAdd]
      refine w_bld rfl rfl rfl rfl rfl ?_
      try simp only [W]
      refine w_stv (a := .agg [.nil, .nil, .nil, .nil, .int .i64 0]) (y' := .agg [.nil, .nil, .nil, .nil, .int .i64 0]) 1 hS rfl rfl rfl rfl rfl rfl rfl rfl fun H hS => ?_
      try simp only [W]
      refine seq_n hK15 ?_
      refine w_ret ?_
      refine seq_r hK6 ?_
      have hS := hS.nil_ 1
      have hS := hS.nil_ 1
      obtain ⟨d18, qd18, hS⟩ := noneN (p := np_SInt) (c := (AV.int .i64)) (z := 1) (m := nm_SInt) hS
      have hS : Own _ (⟨AV.nil, 1, ouw nm_SInt d18 ([] : List (List Int))⟩ :: ⟨AV.nil, 1, ([] : List Int).map (AV.int .i64)⟩ :: ⟨.ptr ip2 wp2 0 0, 5, [.agg [.fz (a0.Quanta.map (AV.int .i64)), .fz (a0.Queues.map (fzl (AV.int .i64))), .fz (a0.Credit.map (AV.int .i64)), .fz (a0.Sent.map (AV.int .i64)), .int .i64 a0.At]]⟩ :: ⟨.ptr ip4 wp4 0 0, 5, [.agg [.nil, .nil, .nil, .nil, .int .i64 0]]⟩ :: ((inn np_SInt (AV.int .i64) 1 d18 ([] : List (List Int))) ++ (F))) := Own.catI_ (bl := [[⟨AV.nil, 1, ouw nm_SInt d18 ([] : List (List Int))⟩], (inn np_SInt (AV.int .i64) 1 d18 ([] : List (List Int))), [⟨AV.nil, 1, ([] : List Int).map (AV.int .i64)⟩], [⟨.ptr ip2 wp2 0 0, 5, [.agg [.fz (a0.Quanta.map (AV.int .i64)), .fz (a0.Queues.map (fzl (AV.int .i64))), .fz (a0.Credit.map (AV.int .i64)), .fz (a0.Sent.map (AV.int .i64)), .int .i64 a0.At]]⟩], [⟨.ptr ip4 wp4 0 0, 5, [.agg [.nil, .nil, .nil, .nil, .int .i64 0]]⟩]]) (F := F) hS 5 rfl [0, 2, 3, 4, 1] (by decide)
      have hS := hS.nil_ 1
      have hS := hS.nil_ 1
      refine fin_r hK0 (res_c rfl rfl (hS.var 5 rfl) rfl (res_tc rfl rfl)) ?_
      try obtain rfl := Option.some.inj h
      have hS : Own _ (⟨AV.nil, 1, ([] : List Int).map (AV.int .i64)⟩ :: ⟨AV.nil, 1, ouw nm_SInt d18 ([] : List (List Int))⟩ :: ⟨AV.nil, 1, ([] : List Int).map (AV.int .i64)⟩ :: ⟨AV.nil, 1, ([] : List Int).map (AV.int .i64)⟩ :: ((inn np_SInt (AV.int .i64) 1 d18 ([] : List (List Int))) ++ (F))) := Own.catI_ (bl := [[⟨AV.nil, 1, ([] : List Int).map (AV.int .i64)⟩], [⟨AV.nil, 1, ([] : List Int).map (AV.int .i64)⟩], [⟨AV.nil, 1, ouw nm_SInt d18 ([] : List (List Int))⟩], [⟨AV.nil, 1, ([] : List Int).map (AV.int .i64)⟩], [⟨.ptr ip2 wp2 0 0, 5, [.agg [.fz (a0.Quanta.map (AV.int .i64)), .fz (a0.Queues.map (fzl (AV.int .i64))), .fz (a0.Credit.map (AV.int .i64)), .fz (a0.Sent.map (AV.int .i64)), .int .i64 a0.At]]⟩], [⟨.ptr ip4 wp4 0 0, 5, [.agg [.nil, .nil, .nil, .nil, .int .i64 0]]⟩], (inn np_SInt (AV.int .i64) 1 d18 ([] : List (List Int)))]) (F := F) hS 7 rfl [3, 2, 1, 0, 6] (by decide)
      exact hP _ isSl_nil _ isSl_nil _ qd18 _ isSl_nil _ isSl_nil _ hS
    · refine w_skip ?_
      refine seq_n hK6 ?_
      refine w_seq fun K21 hK21 => ?_
      refine w_reg gC ?_
      try simp only [W, EE, reduceIte, Nat.reduceAdd, Nat.reduceLeDiff, hS.var 0 rfl]
      refine w_call h fun b22 hb22 h => ?_
      refine spec_l8Own_w hb22 hS fun v23 qv23 v25 qv25 d27 qd27 v28 qv28 v30 qv30 H hS => ?_
      have hS : Own _ (⟨v23, 1, b22.Quanta.map (AV.int .i64)⟩ :: ⟨v25, 1, ouw nm_SInt d27 b22.Queues⟩ :: ⟨v28, 1, b22.Credit.map (AV.int .i64)⟩ :: ⟨v30, 1, b22.Sent.map (AV.int .i64)⟩ :: ⟨.ptr ip2 wp2 0 0, 5, [.agg [.fz (a0.Quanta.map (AV.int .i64)), .fz (a0.Queues.map (fzl (AV.int .i64))), .fz (a0.Credit.map (AV.int .i64)), .fz (a0.Sent.map (AV.int .i64)), .int .i64 a0.At]]⟩ :: ⟨.ptr ip4 wp4 0 0, 5, [.agg [.nil, .nil, .nil, .nil, .int .i64 0]]⟩ :: ((inn np_SInt (AV.int .i64) 1 d27 b22.Queues) ++ (F))) := Own.catI_ (bl := [[⟨v23, 1, b22.Quanta.map (AV.int .i64)⟩], [⟨v25, 1, ouw nm_SInt d27 b22.Queues⟩], [⟨v28, 1, b22.Credit.map (AV.int .i64)⟩], [⟨v30, 1, b22.Sent.map (AV.int .i64)⟩], (inn np_SInt (AV.int .i64) 1 d27 b22.Queues), [⟨.ptr ip2 wp2 0 0, 5, [.agg [.fz (a0.Quanta.map (AV.int .i64)), .fz (a0.Queues.map (fzl (AV.int .i64))), .fz (a0.Credit.map (AV.int .i64)), .fz (a0.Sent.map (AV.int .i64)), .int .i64 a0.At]]⟩], [⟨.ptr ip4 wp4 0 0, 5, [.agg [.nil, .nil, .nil, .nil, .int .i64 0]]⟩]]) (F := F) hS 7 rfl [0, 1, 2, 3, 5, 6, 4] (by decide)
      try simp only [W]
      refine w_alloc hS rfl rfl fun ip32 wp32 H hS => ?_
      try simp only [W]
      refine w_stv (a := .agg [v23, v25, v28, v30, .int .i64 b22.At]) (y' := .agg [v23, v25, v28, v30, .int .i64 b22.At]) 0 hS rfl rfl rfl rfl rfl (by simp only [storA, List.all_cons, List.all_nil, qv23.stor, qv25.stor, qv28.stor, qv30.stor]; rfl) rfl rfl fun H hS => ?_
      try simp only [W]
      refine seq_n hK21 ?_
      refine w_seq fun K34 hK34 => ?_
      obtain ⟨y60, hw61, g67⟩ := Option.bind_eq_some_iff.1 h
      refine w_join gC (fun s H => ∃ x50 : List Int, ∃ x52 : List (List Int), ∃ x55 : List Int, ∃ x57 : List Int, ∃ x59 : Int, y60 = LR.next (x50, x52, x55, x57, x59) ∧ ∃ v51 : AV, isSl v51 ∧ ∃ v53 : AV, isSl v53 ∧ ∃ v56 : AV, isSl v56 ∧ ∃ v58 : AV, isSl v58 ∧ ∃ d54 : List AV, isSls d54 (x52).length ∧ s = [u, u, u, u, .ptr ip4 wp4 0 0, u, .ptr ip32 wp32 0 0, u, u, u, u, u, u, u, u, u, u, u, u, u, u, u, u, u, u, u, u, u, u, u, u, u, u, u, u, u] ∧ Own H (⟨v51, 1, x50.map (AV.int .i64)⟩ :: ⟨v53, 1, ouw nm_SInt d54 x52⟩ :: ⟨v56, 1, x55.map (AV.int .i64)⟩ :: ⟨v58, 1, x57.map (AV.int .i64)⟩ :: ⟨.ptr ip4 wp4 0 0, 5, [.agg [.nil, .nil, .nil, .nil, .int .i64 0]]⟩ :: ⟨.ptr ip32 wp32 0 0, 5, [.agg [v51, v53, v56, v58, .int .i64 x59]]⟩ :: ((inn np_SInt (AV.int .i64) 1 d54 x52) ++ F))) (fun K62 hK62 => ?_) (fun s H hq => ?_)
      · refine w_blk fun K63 hK63 => ?_
        have hS : Own _ (⟨v23, 1, b22.Quanta.map (AV.int .i64)⟩ :: ⟨v25, 1, ouw nm_SInt d27 b22.Queues⟩ :: ⟨v28, 1, b22.Credit.map (AV.int .i64)⟩ :: ⟨v30, 1, b22.Sent.map (AV.int .i64)⟩ :: ⟨.ptr ip4 wp4 0 0, 5, [.agg [.nil, .nil, .nil, .nil, .int .i64 0]]⟩ :: ⟨.ptr ip32 wp32 0 0, 5, [.agg [v23, v25, v28, v30, .int .i64 b22.At]]⟩ :: ((inn np_SInt (AV.int .i64) 1 d27 b22.Queues) ++ (F))) := Own.catI_ (bl := [[⟨.ptr ip32 wp32 0 0, 5, [.agg [v23, v25, v28, v30, .int .i64 b22.At]]⟩], [⟨v23, 1, b22.Quanta.map (AV.int .i64)⟩], [⟨v25, 1, ouw nm_SInt d27 b22.Queues⟩], [⟨v28, 1, b22.Credit.map (AV.int .i64)⟩], [⟨v30, 1, b22.Sent.map (AV.int .i64)⟩], [⟨.ptr ip2 wp2 0 0, 5, [.agg [.fz (a0.Quanta.map (AV.int .i64)), .fz (a0.Queues.map (fzl (AV.int .i64))), .fz (a0.Credit.map (AV.int .i64)), .fz (a0.Sent.map (AV.int .i64)), .int .i64 a0.At]]⟩], [⟨.ptr ip4 wp4 0 0, 5, [.agg [.nil, .nil, .nil, .nil, .int .i64 0]]⟩], (inn np_SInt (AV.int .i64) 1 d27 b22.Queues)]) (F := F) hS 8 rfl [1, 2, 3, 4, 6, 0, 7] (by decide)
        refine w_loop gC hw61 (fun x s H => match x with | (x35, x36, x39, x43, x46, x49) => ∃ v37 : AV, isSl v37 ∧ ∃ v40 : AV, isSl v40 ∧ ∃ v44 : AV, isSl v44 ∧ ∃ v47 : AV, isSl v47 ∧ ∃ d42 : List AV, isSls d42 (x39).length ∧ s = [u, .int .i64 x35, u, u, .ptr ip4 wp4 0 0, u, .ptr ip32 wp32 0 0, u, u, u, u, u, u, u, u, u, u, u, u, u, u, u, u, u, u, u, u, u, u, u, u, u, u, u, u, u] ∧ Own H (⟨v37, 1, x36.map (AV.int .i64)⟩ :: ⟨v40, 1, ouw nm_SInt d42 x39⟩ :: ⟨v44, 1, x43.map (AV.int .i64)⟩ :: ⟨v47, 1, x46.map (AV.int .i64)⟩ :: ⟨.ptr ip4 wp4 0 0, 5, [.agg [.nil, .nil, .nil, .nil, .int .i64 0]]⟩ :: ⟨.ptr ip32 wp32 0 0, 5, [.agg [v37, v40, v44, v47, .int .i64 x49]]⟩ :: ((inn np_SInt (AV.int .i64) 1 d42 x39) ++ F))) ⟨_, qv23, _, qv25, _, qv28, _, qv30, _, qd27, rfl, hS⟩ (fun x y66 s H h hd65 hi K64 hK64 => ?_)
        obtain ⟨x35, x36, x39, x43, x46, x49⟩ := x
        try dsimp only at hi
        obtain ⟨v37, qv37, v40, qv40, v44, qv44, v47, qv47, d42, qd42, rfl, hS⟩ := hi
        simp only [spec_RunTurns_l0] at h
        refine w_seq fun K68 hK68 => ?_
        refine w_seq fun K69 hK69 => ?_
        refine w_reg gC ?_
        try simp only [W, EE, Nat.reduceAdd]
        refine seq_n hK69 ?_
        refine w_if ?_
        simp only [W]
        refine w_cnd h (fun hc h => ?_) (fun hc h => ?_)
        · refine w_skip ?_
          refine seq_n hK68 ?_
          refine w_seq fun K70 hK70 => ?_
          refine w_blk fun K71 hK71 => ?_
          refine w_seq fun K72 hK72 => ?_
          refine w_reg gC ?_
          try simp only [W, EE, reduceIte, Nat.reduceAdd, Nat.reduceLeDiff, Nat.reduceBEq, hS.var 5 rfl, List.contains_cons, Nat.reduceBEq, Bool.or_self]
          have hS : Own _ (⟨v37, 1, x36.map (AV.int .i64)⟩ :: ⟨v40, 1, ouw nm_SInt d42 x39⟩ :: ⟨v44, 1, x43.map (AV.int .i64)⟩ :: ⟨v47, 1, x46.map (AV.int .i64)⟩ :: ⟨.ptr ip4 wp4 0 0, 5, [.agg [.nil, .nil, .nil, .nil, .int .i64 0]]⟩ :: ⟨.ptr ip32 wp32 0 0, 5, [.agg [v37, v40, v44, v47, .int .i64 x49]]⟩ :: ((inn np_SInt (AV.int .i64) 1 d42 x39) ++ F)) := hS
          refine w_callO (rsh := [[.sl [.sc], .sl [.sl [.sc]], .sl [.sc], .sl [.sc], .sc], [.sl [.sc]], [.sc]]) (ys := [.agg [.fz (x36.map (AV.int .i64)), .fz (x39.map (fzl (AV.int .i64))), .fz (x43.map (AV.int .i64)), .fz (x46.map (AV.int .i64)), .int .i64 x49]]) h rfl (pv_c (sn_agg (sm_c (sn_ow hS 0 rfl qv37 (fun _ => rfl)) (sm_c (sn_owN (enc := (fzl (AV.int .i64))) hS 1 rfl qv40 qd42 (fun _ h => (List.mem_cons_of_mem _ (List.mem_cons_of_mem _ (List.mem_cons_of_mem _ (List.mem_cons_of_mem _ (List.mem_cons_of_mem _ (List.mem_cons_of_mem _ (List.mem_append_left _ h)))))))) (fun _ _ ha hk => sn_it hk ha (fun _ => rfl))) (sm_c (sn_ow hS 2 rfl qv44 (fun _ => rfl)) (sm_c (sn_ow hS 3 rfl qv47 (fun _ => rfl)) (sm_c rfl (sm_n _))))))) pv_n) fun b73 hb73 h => ⟨.tup [.agg [.own 1 (b73.1.Quanta.map (AV.int .i64)), .own 1 (b73.1.Queues.map nd_SInt), .own 1 (b73.1.Credit.map (AV.int .i64)), .own 1 (b73.1.Sent.map (AV.int .i64)), .int .i64 b73.1.At], .own 1 (b73.2.1.map (AV.int .i64)), .bool b73.2.2], spec_NextTurn_w hb73 (Own.nil _) fun v77 qv77 v78 qv78 d79 qd79 v80 qv80 v81 qv81 v82 qv82 H hS => TV_ok rfl (TV_a (TC_ow 0 hS rfl qv77 (fun _ _ => by simp [takeE, takeT, plainA]) fun H hS => TC_owN (d := nd_SInt) (Own.catI_ (bl := [[⟨v78, 1, ouw nm_SInt d79 b73.1.Queues⟩], [⟨v80, 1, b73.1.Credit.map (AV.int .i64)⟩], [⟨v81, 1, b73.1.Sent.map (AV.int .i64)⟩], [⟨v82, 1, b73.2.1.map (AV.int .i64)⟩], (inn np_SInt (AV.int .i64) 1 d79 b73.1.Queues)]) (F := []) hS 5 rfl [0, 4, 1, 2, 3] (by decide)) qv78 qd79 nt_SInt fun H hS => TC_ow 0 hS rfl qv80 (fun _ _ => by simp [takeE, takeT, plainA]) fun H hS => TC_ow 0 hS rfl qv81 (fun _ _ => by simp [takeE, takeT, plainA]) fun H hS => TC_sc rfl (TC_nil (TV_o 0 hS rfl qv82 (fun _ _ => by simp [takeE, takeT, plainA]) fun H hS => TV_p rfl (TV_n rfl))))), (nf_t (nf_c (nf_a (nf_c (noFz_o _ (fun _ => rfl) _) (nf_c (noFz_o _ nf_SInt _) (nf_c (noFz_o _ (fun _ => rfl) _) (nf_c (noFz_o _ (fun _ => rfl) _) (nf_c rfl nf_n)))))) (nf_c (noFz_o _ (fun _ => rfl) _) (nf_c rfl nf_n)))), ?_⟩
          obtain ⟨b74, b75, b76⟩ := b73
          try dsimp only at h
          dsimp only
          refine thaw_tup ?_
          refine TH_a ?_
          refine TH_o hS (fun _ _ => rfl) (fun _ => rfl) fun v84 H qv84 hS => ?_
          refine TH_oN (l := b74.Queues) (d := nd_SInt) (m := nm_SInt) (p := np_SInt) (c := (AV.int .i64)) hS nc_SInt nh_SInt fun v86 d87 H qv86 qd87 hS => ?_
          have hS : Own _ (⟨v86, 1, ouw nm_SInt d87 b74.Queues⟩ :: ⟨v84, 1, b74.Quanta.map (AV.int .i64)⟩ :: ⟨v37, 1, x36.map (AV.int .i64)⟩ :: ⟨v40, 1, ouw nm_SInt d42 x39⟩ :: ⟨v44, 1, x43.map (AV.int .i64)⟩ :: ⟨v47, 1, x46.map (AV.int .i64)⟩ :: ⟨.ptr ip4 wp4 0 0, 5, [.agg [.nil, .nil, .nil, .nil, .int .i64 0]]⟩ :: ⟨.ptr ip32 wp32 0 0, 5, [.agg [v37, v40, v44, v47, .int .i64 x49]]⟩ :: ((inn np_SInt (AV.int .i64) 1 d87 b74.Queues) ++ (((inn np_SInt (AV.int .i64) 1 d42 x39) ++ (F))))) := Own.catI_ (bl := [[⟨v86, 1, ouw nm_SInt d87 b74.Queues⟩], (inn np_SInt (AV.int .i64) 1 d87 b74.Queues), [⟨v84, 1, b74.Quanta.map (AV.int .i64)⟩], [⟨v37, 1, x36.map (AV.int .i64)⟩], [⟨v40, 1, ouw nm_SInt d42 x39⟩], [⟨v44, 1, x43.map (AV.int .i64)⟩], [⟨v47, 1, x46.map (AV.int .i64)⟩], [⟨.ptr ip4 wp4 0 0, 5, [.agg [.nil, .nil, .nil, .nil, .int .i64 0]]⟩], [⟨.ptr ip32 wp32 0 0, 5, [.agg [v37, v40, v44, v47, .int .i64 x49]]⟩], (inn np_SInt (AV.int .i64) 1 d42 x39)]) (F := F) hS 10 rfl [0, 2, 3, 4, 5, 6, 7, 8, 1, 9] (by decide)
          refine TH_o hS (fun _ _ => rfl) (fun _ => rfl) fun v89 H qv89 hS => ?_
          refine TH_o hS (fun _ _ => rfl) (fun _ => rfl) fun v91 H qv91 hS => ?_
          refine TH_p (fun _ => rfl) ?_
          refine TH_n ?_
          refine TH_o hS (fun _ _ => rfl) (fun _ => rfl) fun v93 H qv93 hS => ?_
          refine TH_p (fun _ => rfl) ?_
          refine TH_n ?_
          try simp only [List.headD_cons]
          try simp only [W]
          refine w_alloc hS rfl rfl fun ip94 wp94 H hS => ?_
          try simp only [W]
          refine w_stv (a := .agg [v84, v86, v89, v91, .int .i64 b74.At]) (y' := .agg [v84, v86, v89, v91, .int .i64 b74.At]) 0 hS rfl rfl rfl rfl rfl (by simp only [storA, List.all_cons, List.all_nil, qv84.stor, qv86.stor, qv89.stor, qv91.stor]; rfl) rfl rfl fun H hS => ?_
          try simp only [W]
          refine seq_n hK72 ?_
          refine w_seq fun K96 hK96 => ?_
          refine w_seq fun K97 hK97 => ?_
          refine w_reg gC ?_
          try simp only [W, Nat.reduceAdd]
          refine seq_n hK97 ?_
          refine w_if ?_
          simp only [W]
          refine w_cnd h (fun hc h => ?_) (fun hc h => ?_)
          · refine w_seq fun K98 hK98 => ?_
            refine w_reg gC ?_
            try simp only [W, EE, Nat.reduceAdd]
            refine w_bld rfl rfl rfl rfl rfl ?_
            try simp only [W]
            refine w_stv (a := .agg [.nil, .nil, .nil, .nil, .int .i64 0]) (y' := .agg [.nil, .nil, .nil, .nil, .int .i64 0]) 10 hS rfl rfl rfl rfl rfl rfl rfl rfl fun H hS => ?_
            try simp only [W]
            refine seq_n hK98 ?_
            refine w_ret ?_
            refine seq_r hK96 ?_
            refine blk_r hK71 ?_
            refine seq_r hK70 ?_
            try obtain rfl := Option.some.inj h
            obtain rfl := hd65 _ rfl
            have h : (some (LR.done ((⟨([] : List Int), ([] : List (List Int)), ([] : List Int), ([] : List Int), 0⟩ : Turns), false)) : Option (LR ((List Int) × (List (List Int)) × (List Int) × (List Int) × Int) (Turns × Bool))) = some (LR.done ((⟨([] : List Int), ([] : List (List Int)), ([] : List Int), ([] : List Int), 0⟩ : Turns), false)) := rfl
            refine lp_r hK64 ?_
            refine blk_r hK63 ?_
            try obtain rfl := Option.some.inj h
            obtain rfl := Option.some.inj g67
            have h : (some ((⟨([] : List Int), ([] : List (List Int)), ([] : List Int), ([] : List Int), 0⟩ : Turns), false) : Option (Turns × Bool)) = some ((⟨([] : List Int), ([] : List (List Int)), ([] : List Int), ([] : List Int), 0⟩ : Turns), false) := rfl
            refine cut_r hK62 ?_
            refine seq_r hK34 ?_
            have hS := hS.nil_ 1
            have hS := hS.nil_ 1
            obtain ⟨d101, qd101, hS⟩ := noneN (p := np_SInt) (c := (AV.int .i64)) (z := 1) (m := nm_SInt) hS
            have hS : Own _ (⟨AV.nil, 1, ouw nm_SInt d101 ([] : List (List Int))⟩ :: ⟨AV.nil, 1, ([] : List Int).map (AV.int .i64)⟩ :: ⟨.ptr ip94 wp94 0 0, 5, [.agg [v84, v86, v89, v91, .int .i64 b74.At]]⟩ :: ⟨v93, 1, b75.map (AV.int .i64)⟩ :: ⟨v91, 1, b74.Sent.map (AV.int .i64)⟩ :: ⟨v89, 1, b74.Credit.map (AV.int .i64)⟩ :: ⟨v86, 1, ouw nm_SInt d87 b74.Queues⟩ :: ⟨v84, 1, b74.Quanta.map (AV.int .i64)⟩ :: ⟨v37, 1, x36.map (AV.int .i64)⟩ :: ⟨v40, 1, ouw nm_SInt d42 x39⟩ :: ⟨v44, 1, x43.map (AV.int .i64)⟩ :: ⟨v47, 1, x46.map (AV.int .i64)⟩ :: ⟨.ptr ip4 wp4 0 0, 5, [.agg [.nil, .nil, .nil, .nil, .int .i64 0]]⟩ :: ⟨.ptr ip32 wp32 0 0, 5, [.agg [v37, v40, v44, v47, .int .i64 x49]]⟩ :: ((inn np_SInt (AV.int .i64) 1 d101 ([] : List (List Int))) ++ (((inn np_SInt (AV.int .i64) 1 d87 b74.Queues) ++ (((inn np_SInt (AV.int .i64) 1 d42 x39) ++ (F))))))) := Own.catI_ (bl := [[⟨AV.nil, 1, ouw nm_SInt d101 ([] : List (List Int))⟩], (inn np_SInt (AV.int .i64) 1 d101 ([] : List (List Int))), [⟨AV.nil, 1, ([] : List Int).map (AV.int .i64)⟩], [⟨.ptr ip94 wp94 0 0, 5, [.agg [v84, v86, v89, v91, .int .i64 b74.At]]⟩], [⟨v93, 1, b75.map (AV.int .i64)⟩], [⟨v91, 1, b74.Sent.map (AV.int .i64)⟩], [⟨v89, 1, b74.Credit.map (AV.int .i64)⟩], [⟨v86, 1, ouw nm_SInt d87 b74.Queues⟩], [⟨v84, 1, b74.Quanta.map (AV.int .i64)⟩], [⟨v37, 1, x36.map (AV.int .i64)⟩], [⟨v40, 1, ouw nm_SInt d42 x39⟩], [⟨v44, 1, x43.map (AV.int .i64)⟩], [⟨v47, 1, x46.map (AV.int .i64)⟩], [⟨.ptr ip4 wp4 0 0, 5, [.agg [.nil, .nil, .nil, .nil, .int .i64 0]]⟩], [⟨.ptr ip32 wp32 0 0, 5, [.agg [v37, v40, v44, v47, .int .i64 x49]]⟩], (inn np_SInt (AV.int .i64) 1 d87 b74.Queues), (inn np_SInt (AV.int .i64) 1 d42 x39)]) (F := F) hS 17 rfl [0, 2, 3, 4, 5, 6, 7, 8, 9, 10, 11, 12, 13, 14, 1, 15, 16] (by decide)
            have hS := hS.nil_ 1
            have hS := hS.nil_ 1
            refine fin_r hK0 (res_c rfl rfl (hS.var 14 rfl) rfl (res_tc rfl rfl)) ?_
            try obtain rfl := Option.some.inj h
            have hS : Own _ (⟨AV.nil, 1, ([] : List Int).map (AV.int .i64)⟩ :: ⟨AV.nil, 1, ouw nm_SInt d101 ([] : List (List Int))⟩ :: ⟨AV.nil, 1, ([] : List Int).map (AV.int .i64)⟩ :: ⟨AV.nil, 1, ([] : List Int).map (AV.int .i64)⟩ :: ((inn np_SInt (AV.int .i64) 1 d101 ([] : List (List Int))) ++ (F))) := Own.catI_ (bl := [[⟨AV.nil, 1, ([] : List Int).map (AV.int .i64)⟩], [⟨AV.nil, 1, ([] : List Int).map (AV.int .i64)⟩], [⟨AV.nil, 1, ouw nm_SInt d101 ([] : List (List Int))⟩], [⟨AV.nil, 1, ([] : List Int).map (AV.int .i64)⟩], [⟨.ptr ip94 wp94 0 0, 5, [.agg [v84, v86, v89, v91, .int .i64 b74.At]]⟩], [⟨v93, 1, b75.map (AV.int .i64)⟩], [⟨v91, 1, b74.Sent.map (AV.int .i64)⟩], [⟨v89, 1, b74.Credit.map (AV.int .i64)⟩], [⟨v86, 1, ouw nm_SInt d87 b74.Queues⟩], [⟨v84, 1, b74.Quanta.map (AV.int .i64)⟩], [⟨v37, 1, x36.map (AV.int .i64)⟩], [⟨v40, 1, ouw nm_SInt d42 x39⟩], [⟨v44, 1, x43.map (AV.int .i64)⟩], [⟨v47, 1, x46.map (AV.int .i64)⟩], [⟨.ptr ip4 wp4 0 0, 5, [.agg [.nil, .nil, .nil, .nil, .int .i64 0]]⟩], [⟨.ptr ip32 wp32 0 0, 5, [.agg [v37, v40, v44, v47, .int .i64 x49]]⟩], (inn np_SInt (AV.int .i64) 1 d101 ([] : List (List Int))), (inn np_SInt (AV.int .i64) 1 d87 b74.Queues), (inn np_SInt (AV.int .i64) 1 d42 x39)]) (F := F) hS 19 rfl [3, 2, 1, 0, 16] (by decide)
            exact hP _ isSl_nil _ isSl_nil _ qd101 _ isSl_nil _ isSl_nil _ hS
          · refine w_skip ?_
            refine seq_n hK96 ?_
            refine w_reg gC ?_
            try simp only [W, EE, reduceIte, Nat.reduceAdd, Nat.reduceLeDiff, hS.var 0 rfl]
            refine w_stv (a := .agg [v84, v86, v89, v91, .int .i64 b74.At]) (y' := .agg [v84, v86, v89, v91, .int .i64 b74.At]) 11 hS rfl rfl rfl rfl rfl (by simp only [storA, List.all_cons, List.all_nil, qv84.stor, qv86.stor, qv89.stor, qv91.stor]; rfl) rfl rfl fun H hS => ?_
            try simp only [W]
            refine blk_n0 hK71 ?_
            refine seq_n hK70 ?_
            refine w_reg gC ?_
            try simp only [W, EE, Nat.reduceAdd]
            have hS : Own _ (⟨v84, 1, b74.Quanta.map (AV.int .i64)⟩ :: ⟨v86, 1, ouw nm_SInt d87 b74.Queues⟩ :: ⟨v89, 1, b74.Credit.map (AV.int .i64)⟩ :: ⟨v91, 1, b74.Sent.map (AV.int .i64)⟩ :: ⟨.ptr ip4 wp4 0 0, 5, [.agg [.nil, .nil, .nil, .nil, .int .i64 0]]⟩ :: ⟨.ptr ip32 wp32 0 0, 5, [.agg [v84, v86, v89, v91, .int .i64 b74.At]]⟩ :: ((inn np_SInt (AV.int .i64) 1 d87 b74.Queues) ++ (F))) := Own.catI_ (bl := [[⟨.ptr ip94 wp94 0 0, 5, [.agg [v84, v86, v89, v91, .int .i64 b74.At]]⟩], [⟨v93, 1, b75.map (AV.int .i64)⟩], [⟨v91, 1, b74.Sent.map (AV.int .i64)⟩], [⟨v89, 1, b74.Credit.map (AV.int .i64)⟩], [⟨v86, 1, ouw nm_SInt d87 b74.Queues⟩], [⟨v84, 1, b74.Quanta.map (AV.int .i64)⟩], [⟨v37, 1, x36.map (AV.int .i64)⟩], [⟨v40, 1, ouw nm_SInt d42 x39⟩], [⟨v44, 1, x43.map (AV.int .i64)⟩], [⟨v47, 1, x46.map (AV.int .i64)⟩], [⟨.ptr ip4 wp4 0 0, 5, [.agg [.nil, .nil, .nil, .nil, .int .i64 0]]⟩], [⟨.ptr ip32 wp32 0 0, 5, [.agg [v84, v86, v89, v91, .int .i64 b74.At]]⟩], (inn np_SInt (AV.int .i64) 1 d87 b74.Queues), (inn np_SInt (AV.int .i64) 1 d42 x39)]) (F := F) hS 14 rfl [5, 4, 3, 2, 10, 11, 12] (by decide)
            exact lp_n hK64 h ⟨_, qv84, _, qv86, _, qv89, _, qv91, _, qd87, rfl, hS⟩
        · refine w_exit ?_
          refine seq_x hK68 ?_
          try obtain rfl := Option.some.inj h
          obtain rfl := hd65 _ rfl
          have h : (some (LR.next (x36, x39, x43, x46, x49)) : Option (LR ((List Int) × (List (List Int)) × (List Int) × (List Int) × Int) (Turns × Bool))) = some (LR.next (x36, x39, x43, x46, x49)) := rfl
          refine lp_x hK64 ?_
          refine blk_e hK63 ?_
          exact cut_n hK62 ⟨_, _, _, _, _, (Option.some.inj h).symm, _, qv37, _, qv40, _, qv44, _, qv47, _, qd42, rfl, hS⟩
      · obtain ⟨x50, x52, x55, x57, x59, rfl, v51, qv51, v53, qv53, v56, qv56, v58, qv58, d54, qd54, rfl, hS⟩ := hq
        replace h := g67
        try dsimp only at h
        refine seq_n hK34 ?_
        refine w_seq fun K110 hK110 => ?_
        refine w_reg gC ?_
        try simp only [W, EE, reduceIte, Nat.reduceAdd, Nat.reduceLeDiff, hS.var 5 rfl]
        refine w_stv (a := .agg [v51, v53, v56, v58, .int .i64 x59]) (y' := .agg [v51, v53, v56, v58, .int .i64 x59]) 4 hS rfl rfl rfl rfl rfl (by simp only [storA, List.all_cons, List.all_nil, qv51.stor, qv53.stor, qv56.stor, qv58.stor]; rfl) rfl rfl fun H hS => ?_
        try simp only [W]
        refine seq_n hK110 ?_
        refine w_ret ?_
        refine fin_r hK0 (res_c rfl rfl (hS.var 4 rfl) rfl (res_tc rfl rfl)) ?_
        try obtain rfl := Option.some.inj h
        have hS : Own _ (⟨v51, 1, x50.map (AV.int .i64)⟩ :: ⟨v53, 1, ouw nm_SInt d54 x52⟩ :: ⟨v56, 1, x55.map (AV.int .i64)⟩ :: ⟨v58, 1, x57.map (AV.int .i64)⟩ :: ((inn np_SInt (AV.int .i64) 1 d54 x52) ++ (F))) := Own.catI_ (bl := [[⟨v51, 1, x50.map (AV.int .i64)⟩], [⟨v53, 1, ouw nm_SInt d54 x52⟩], [⟨v56, 1, x55.map (AV.int .i64)⟩], [⟨v58, 1, x57.map (AV.int .i64)⟩], [⟨.ptr ip4 wp4 0 0, 5, [.agg [v51, v53, v56, v58, .int .i64 x59]]⟩], [⟨.ptr ip32 wp32 0 0, 5, [.agg [v51, v53, v56, v58, .int .i64 x59]]⟩], (inn np_SInt (AV.int .i64) 1 d54 x52)]) (F := F) hS 7 rfl [0, 1, 2, 3, 6] (by decide)
        exact hP _ qv51 _ qv53 _ qd54 _ qv56 _ qv58 _ hS
theorem impl_in_w {a0 : Int} {a1 : Int} {a2 : Int} {r : (Bool)} (h : impl_in a0 a1 a2 = some r) {F : List It} {H : Heap} (hS : Own H (F)) {P : AV → Heap → Prop} (hP : ∀ H', Own H' (F) → P (.bool r) H') : ACall C 114 [.int .i64 a0, .int .i64 a1, .int .i64 a2] H P := by
  refine acall_of gC (res := [.tmp 6]) (n := 15) rfl rfl rfl rfl fun K0 hK0 => ?_
  simp only [W, Nat.reduceSub, Nat.reduceAdd, List.replicate]
  unfold impl_in at h
  refine w_seq fun K1 hK1 => ?_
  refine w_reg gC ?_
  try simp only [W, Nat.reduceAdd]
  refine seq_n hK1 ?_
  refine w_seq fun K2 hK2 => ?_
  refine w_reg gC ?_
  try simp only [W, EE, Nat.reduceAdd]
  refine w_grdT h (fun hc h => ?_) (fun hc h => ?_)
  · try simp only [W, EE, reduceIte, hc]
    refine seq_n hK2 ?_
    refine w_ret ?_
    refine fin_r1 hK0 rfl ?_
    try obtain rfl := Option.some.inj h
    exact hP _ hS
  · try simp only [W, hc]
    refine seq_n hK2 ?_
    refine w_ret ?_
    refine fin_r1 hK0 rfl ?_
    try obtain rfl := Option.some.inj h
    exact hP _ hS
theorem slices_IndexFunc_int_w {a0 : List Int} {g1 : Int → Option Bool} {f1 : FuncId} {c1 : List AV} {r : (Int)} (h : slices_IndexFunc_int a0 g1 = some r) {F : List It} {H : Heap} (hg1 : ∀ {x0 : Int} {r : Bool}, g1 x0 = some r → ∀ (L : List It) (n : Nat), L.drop n = F → ∀ (H : Heap), Own H L → ∀ (P : AV → Heap → Prop), (∀ H', Own H' L → P (.bool r) H') → ACall C f1 ([.int .i64 x0] ++ c1) H P) (hS : Own H (F)) {P : AV → Heap → Prop} (hP : ∀ H', Own H' (F) → P (.int .i64 r) H') : ACall C 246 [.fz (a0.map (AV.int .i64)), .fn f1 c1] H P := by
  refine acall_of gC (res := [.tmp 4]) (n := 19) rfl rfl rfl rfl fun K0 hK0 => ?_
  simp only [W, Nat.reduceSub, Nat.reduceAdd, List.replicate]
  unfold slices_IndexFunc_int at h
  refine w_seq fun K1 hK1 => ?_
  refine w_reg gC ?_
  try simp only [W, Nat.reduceAdd]
  refine seq_n hK1 ?_
  refine w_seq fun K2 hK2 => ?_
  refine w_seq fun K3 hK3 => ?_
  refine w_reg gC ?_
  try simp only [W, EE, Nat.reduceAdd]
  refine seq_n hK3 ?_
  obtain ⟨y5, hw6, g12⟩ := Option.bind_eq_some_iff.1 h
  refine w_join gC (fun s H => y5 = LR.next () ∧ s = [u, u, u, u, u, u, u, u, u, u, u, u, u, u, u, u, u, u, u] ∧ Own H (F)) (fun K7 hK7 => ?_) (fun s H hq => ?_)
  · refine w_blk fun K8 hK8 => ?_
    refine w_loop gC hw6 (fun x s H => s = [.fz (a0.map (AV.int .i64)), .fn f1 c1, u, u, u, u, u, .int .i64 (a0.length : Int), .int .i64 x, u, u, u, u, u, u, u, u, u, u] ∧ Own H (F)) ⟨rfl, hS⟩ (fun x4 y11 s H h hd10 hi K9 hK9 => ?_)
    skip
    try dsimp only at hi
    obtain ⟨rfl, hS⟩ := hi
    simp only [slices_IndexFunc_int_l0] at h
    refine w_seq fun K13 hK13 => ?_
    refine w_reg gC ?_
    try simp only [W, EE, Nat.reduceAdd]
    refine seq_n hK13 ?_
    refine w_seq fun K14 hK14 => ?_
    refine w_if ?_
    simp only [W]
    refine w_cnd h (fun hc h => ?_) (fun hc h => ?_)
    · refine w_skip ?_
      refine seq_n hK14 ?_
      refine w_seq fun K15 hK15 => ?_
      refine w_blk fun K16 hK16 => ?_
      refine w_seq fun K17 hK17 => ?_
      refine w_reg gC ?_
      try simp only [W, Nat.reduceAdd]
      refine seq_n hK17 ?_
      refine w_seq fun K18 hK18 => ?_
      refine w_reg gC ?_
      try simp only [W, EE, Nat.reduceAdd]
      refine w_fz rfl rfl rfl (fun _ => rfl) h fun b19 hb19 h => ?_
      try simp only [W, EE]
      refine w_call h fun b20 hb20 h => ?_
      refine hg1 hb20 _ 0 rfl _ hS _ fun H hS => ?_
      try simp only [W]
      refine seq_n hK18 ?_
      refine w_if ?_
      simp only [W]
      refine w_cnd h (fun hc h => ?_) (fun hc h => ?_)
      · refine w_seq fun K21 hK21 => ?_
        refine w_reg gC ?_
        try simp only [W, Nat.reduceAdd]
        refine seq_n hK21 ?_
        refine w_ret ?_
        refine blk_r hK16 ?_
        refine seq_r hK15 ?_
        try obtain rfl := Option.some.inj h
        obtain rfl := hd10 _ rfl
        have h : (some (LR.done x4) : Option (LR Unit (Int))) = some (LR.done x4) := rfl
        refine lp_r hK9 ?_
        refine blk_r hK8 ?_
        try obtain rfl := Option.some.inj h
        obtain rfl := Option.some.inj g12
        have h : (some x4 : Option (Int)) = some x4 := rfl
        refine cut_r hK7 ?_
        refine seq_r hK2 ?_
        refine fin_r1 hK0 rfl ?_
        try obtain rfl := Option.some.inj h
        exact hP _ hS
      · refine w_skip ?_
        refine blk_n0 hK16 ?_
        refine seq_n hK15 ?_
        refine w_reg gC ?_
        try simp only [W, EE, Nat.reduceAdd]
        exact lp_n hK9 h ⟨rfl, hS⟩
    · refine w_exit ?_
      refine seq_x hK14 ?_
      try obtain rfl := Option.some.inj h
      obtain rfl := hd10 _ rfl
      have h : (some (LR.next ()) : Option (LR Unit (Int))) = some (LR.next ()) := rfl
      refine lp_x hK9 ?_
      refine blk_e hK8 ?_
      exact cut_n hK7 ⟨(Option.some.inj h).symm, rfl, hS⟩
  · obtain ⟨rfl, rfl, hS⟩ := hq
    replace h := g12
    try dsimp only at h
    refine seq_n hK2 ?_
    refine w_seq fun K28 hK28 => ?_
    refine w_reg gC ?_
    try simp only [W, Nat.reduceAdd]
    refine seq_n hK28 ?_
    refine w_ret ?_
    refine fin_r1 hK0 rfl ?_
    try obtain rfl := Option.some.inj h
    exact hP _ hS
theorem slices_ContainsFunc_int_w {a0 : List Int} {g1 : Int → Option Bool} {f1 : FuncId} {c1 : List AV} {r : (Bool)} (h : slices_ContainsFunc_int a0 g1 = some r) {F : List It} {H : Heap} (hg1 : ∀ {x0 : Int} {r : Bool}, g1 x0 = some r → ∀ (L : List It) (n : Nat), L.drop n = F → ∀ (H : Heap), Own H L → ∀ (P : AV → Heap → Prop), (∀ H', Own H' L → P (.bool r) H') → ACall C f1 ([.int .i64 x0] ++ c1) H P) (hS : Own H (F)) {P : AV → Heap → Prop} (hP : ∀ H', Own H' (F) → P (.bool r) H') : ACall C 169 [.fz (a0.map (AV.int .i64)), .fn f1 c1] H P := by
  refine acall_of gC (res := [.tmp 4]) (n := 9) rfl rfl rfl rfl fun K0 hK0 => ?_
  simp only [W, Nat.reduceSub, Nat.reduceAdd, List.replicate]
  unfold slices_ContainsFunc_int at h
  refine w_seq fun K1 hK1 => ?_
  refine w_reg gC ?_
  try simp only [W, Nat.reduceAdd]
  refine seq_n hK1 ?_
  refine w_seq fun K2 hK2 => ?_
  refine w_reg gC ?_
  try simp only [W, Nat.reduceAdd]
  refine w_call h fun b3 hb3 h => ?_
  refine slices_IndexFunc_int_w hb3 hg1 hS fun H hS => ?_
  try simp only [W, EE]
  refine seq_n hK2 ?_
  refine w_ret ?_
  refine fin_r1 hK0 rfl ?_
  try obtain rfl := Option.some.inj h
  exact hP _ hS
theorem impl_areQuanta_1_w {a0 : Int} {r : (Bool)} (h : impl_areQuanta_1 a0 = some r) {F : List It} {H : Heap} (hS : Own H (F)) {P : AV → Heap → Prop} (hP : ∀ H', Own H' (F) → P (.bool r) H') : ACall C 260 [.int .i64 a0] H P := by
  refine acall_of gC (res := [.tmp 2]) (n := 6) rfl rfl rfl rfl fun K0 hK0 => ?_
  simp only [W, Nat.reduceSub, Nat.reduceAdd, List.replicate]
  unfold impl_areQuanta_1 at h
  refine w_seq fun K1 hK1 => ?_
  refine w_reg gC ?_
  try simp only [W, Nat.reduceAdd]
  refine seq_n hK1 ?_
  refine w_seq fun K2 hK2 => ?_
  refine w_reg gC ?_
  try simp only [W, Nat.reduceAdd]
  refine w_call h fun b3 hb3 h => ?_
  refine impl_in_w hb3 hS fun H hS => ?_
  try simp only [W]
  refine seq_n hK2 ?_
  refine w_ret ?_
  refine fin_r1 hK0 rfl ?_
  try obtain rfl := Option.some.inj h
  exact hP _ hS
theorem impl_areQuanta_w {a0 : List Int} {r : (Bool)} (h : impl_areQuanta a0 = some r) {F : List It} {H : Heap} (hS : Own H (F)) {P : AV → Heap → Prop} (hP : ∀ H', Own H' (F) → P (.bool r) H') : ACall C 211 [.fz (a0.map (AV.int .i64))] H P := by
  refine acall_of gC (res := [.tmp 2]) (n := 11) rfl rfl rfl rfl fun K0 hK0 => ?_
  simp only [W, Nat.reduceSub, Nat.reduceAdd, List.replicate]
  unfold impl_areQuanta at h
  refine w_seq fun K1 hK1 => ?_
  refine w_reg gC ?_
  try simp only [W, Nat.reduceAdd]
  refine seq_n hK1 ?_
  refine w_seq fun K2 hK2 => ?_
  refine w_reg gC ?_
  try simp only [W, EE, Nat.reduceAdd]
  refine w_call h fun b3 hb3 h => ?_
  refine impl_in_w hb3 hS fun H hS => ?_
  try simp only [W]
  refine w_grdT h (fun hc h => ?_) (fun hc h => ?_)
  · try simp only [W, hc]
    refine w_call h fun b4 hb4 h => ?_
    refine slices_ContainsFunc_int_w hb4 (fun h _ n hL _ hS _ hP => impl_areQuanta_1_w h hS hP) hS fun H hS => ?_
    try simp only [W, reduceIte]
    refine seq_n hK2 ?_
    refine w_ret ?_
    refine fin_r1 hK0 rfl ?_
    try obtain rfl := Option.some.inj h
    exact hP _ hS
  · try simp only [W, hc]
    refine seq_n hK2 ?_
    refine w_ret ?_
    refine fin_r1 hK0 rfl ?_
    try obtain rfl := Option.some.inj h
    exact hP _ hS
theorem impl_isPacket_w {a0 : Int} {r : (Bool)} (h : impl_isPacket a0 = some r) {F : List It} {H : Heap} (hS : Own H (F)) {P : AV → Heap → Prop} (hP : ∀ H', Own H' (F) → P (.bool r) H') : ACall C 115 [.int .i64 a0] H P := by
  refine acall_of gC (res := [.tmp 2]) (n := 5) rfl rfl rfl rfl fun K0 hK0 => ?_
  simp only [W, Nat.reduceSub, Nat.reduceAdd, List.replicate]
  unfold impl_isPacket at h
  refine w_seq fun K1 hK1 => ?_
  refine w_reg gC ?_
  try simp only [W, Nat.reduceAdd]
  refine seq_n hK1 ?_
  refine w_seq fun K2 hK2 => ?_
  refine w_reg gC ?_
  try simp only [W, Nat.reduceAdd]
  refine w_call h fun b3 hb3 h => ?_
  refine impl_in_w hb3 hS fun H hS => ?_
  try simp only [W]
  refine seq_n hK2 ?_
  refine w_ret ?_
  refine fin_r1 hK0 rfl ?_
  try obtain rfl := Option.some.inj h
  exact hP _ hS
theorem impl_GoodTurns_1_w {a0 : Int} {r : (Bool)} (h : impl_GoodTurns_1 a0 = some r) {F : List It} {H : Heap} (hS : Own H (F)) {P : AV → Heap → Prop} (hP : ∀ H', Own H' (F) → P (.bool r) H') : ACall C 212 [.int .i64 a0] H P := by
  refine acall_of gC (res := [.tmp 2]) (n := 6) rfl rfl rfl rfl fun K0 hK0 => ?_
  simp only [W, Nat.reduceSub, Nat.reduceAdd, List.replicate]
  unfold impl_GoodTurns_1 at h
  refine w_seq fun K1 hK1 => ?_
  refine w_reg gC ?_
  try simp only [W, Nat.reduceAdd]
  refine seq_n hK1 ?_
  refine w_seq fun K2 hK2 => ?_
  refine w_reg gC ?_
  try simp only [W, Nat.reduceAdd]
  refine w_call h fun b3 hb3 h => ?_
  refine impl_isPacket_w hb3 hS fun H hS => ?_
  try simp only [W]
  refine seq_n hK2 ?_
  refine w_ret ?_
  refine fin_r1 hK0 rfl ?_
  try obtain rfl := Option.some.inj h
  exact hP _ hS
theorem impl_GoodTurns_w {a0 : Turns} {r : (Bool)} (h : impl_GoodTurns a0 = some r) {F : List It} {H : Heap} (hS : Own H (F)) {P : AV → Heap → Prop} (hP : ∀ H', Own H' (F) → P (.bool r) H') : ACall C 113 [.agg [.fz (a0.Quanta.map (AV.int .i64)), .fz (a0.Queues.map (fzl (AV.int .i64))), .fz (a0.Credit.map (AV.int .i64)), .fz (a0.Sent.map (AV.int .i64)), .int .i64 a0.At]] H P := by
  refine acall_of gC (res := [.tmp 2]) (n := 87) rfl rfl rfl rfl fun K0 hK0 => ?_
  simp only [W, Nat.reduceSub, Nat.reduceAdd, List.replicate]
  unfold impl_GoodTurns at h
  refine w_seq fun K1 hK1 => ?_
  refine w_reg gC ?_
  try simp only [W, Nat.reduceAdd]
  refine w_box hS rfl rfl rfl rfl fun ip2 wp2 H hS => ?_
  try simp only [W]
  refine seq_n hK1 ?_
  refine w_seq fun K4 hK4 => ?_
  refine w_reg gC ?_
  try simp only [W, EE, Nat.reduceAdd, Nat.reduceBEq, hS.var 0 rfl]
  refine seq_n hK4 ?_
  refine w_seq fun K5 hK5 => ?_
  refine w_seq fun K6 hK6 => ?_
  obtain ⟨y8, h, g9⟩ := Option.bind_eq_some_iff.1 h
  refine w_join gC (fun s H => ∃ x7 : Bool, y8 = (x7) ∧ s = (u :: .ptr ip2 wp2 0 0 :: u :: u :: u :: u :: u :: u :: u :: u :: u :: u :: u :: u :: u :: u :: u :: u :: u :: u :: u :: u :: u :: u :: u :: u :: u :: u :: u :: u :: u :: u :: u :: u :: u :: u :: u :: u :: u :: u :: u :: .bool x7 :: u :: u :: u :: u :: u :: u :: u :: u :: u :: u :: u :: u :: u :: u :: u :: u :: u :: u :: u :: u :: u :: u :: u :: u :: u :: u :: u :: u :: u :: u :: u :: u :: u :: u :: u :: u :: u :: u :: u :: u :: u :: u :: u :: u :: u :: []) ∧ Own H (⟨.ptr ip2 wp2 0 0, 5, [.agg [.fz (a0.Quanta.map (AV.int .i64)), .fz (a0.Queues.map (fzl (AV.int .i64))), .fz (a0.Credit.map (AV.int .i64)), .fz (a0.Sent.map (AV.int .i64)), .int .i64 a0.At]]⟩ :: F)) (fun K10 hK10 => ?_) (fun s H hq => ?_)
  · refine w_seq fun K11 hK11 => ?_
    refine w_reg gC ?_
    try simp only [W, EE, Nat.reduceAdd, Nat.reduceBEq, hS.var 0 rfl]
    refine w_call h fun b12 hb12 h => ?_
    refine impl_areQuanta_w hb12 hS fun H hS => ?_
    try simp only [W]
    refine w_grdT h (fun hc h => ?_) (fun hc h => ?_)
    · try simp only [W, hc]
      refine seq_n hK11 ?_
      refine w_killE (s' := (u :: .ptr ip2 wp2 0 0 :: u :: u :: u :: u :: u :: u :: u :: u :: u :: u :: u :: u :: u :: u :: u :: u :: u :: u :: u :: u :: u :: u :: u :: u :: u :: u :: u :: u :: u :: u :: u :: u :: u :: u :: u :: u :: u :: u :: u :: .bool true :: u :: u :: u :: u :: u :: u :: u :: u :: u :: u :: u :: u :: u :: u :: u :: u :: u :: u :: u :: u :: u :: u :: u :: u :: u :: u :: u :: u :: u :: u :: u :: u :: u :: u :: u :: u :: u :: u :: u :: u :: u :: u :: u :: u :: u :: [])) rfl ?_
      exact cut_n hK10 ⟨_, (Option.some.inj h).symm, rfl, hS⟩
    · try simp only [W, EE, reduceIte, Nat.reduceAdd, Nat.reduceBEq, Bool.false_eq_true, hS.var 0 rfl, hc]
      refine w_grdT h (fun hc h => ?_) (fun hc h => ?_)
      · try simp only [W, hc]
        refine seq_n hK11 ?_
        refine w_killE (s' := (u :: .ptr ip2 wp2 0 0 :: u :: u :: u :: u :: u :: u :: u :: u :: u :: u :: u :: u :: u :: u :: u :: u :: u :: u :: u :: u :: u :: u :: u :: u :: u :: u :: u :: u :: u :: u :: u :: u :: u :: u :: u :: u :: u :: u :: u :: .bool true :: u :: u :: u :: u :: u :: u :: u :: u :: u :: u :: u :: u :: u :: u :: u :: u :: u :: u :: u :: u :: u :: u :: u :: u :: u :: u :: u :: u :: u :: u :: u :: u :: u :: u :: u :: u :: u :: u :: u :: u :: u :: u :: u :: u :: u :: [])) rfl ?_
        exact cut_n hK10 ⟨_, (Option.some.inj h).symm, rfl, hS⟩
      · try simp only [W, EE, reduceIte, Nat.reduceAdd, Nat.reduceBEq, Bool.false_eq_true, hS.var 0 rfl, hc]
        refine w_grdT h (fun hc h => ?_) (fun hc h => ?_)
        · try simp only [W, hc]
          refine seq_n hK11 ?_
          refine w_killE (s' := (u :: .ptr ip2 wp2 0 0 :: u :: u :: u :: u :: u :: u :: u :: u :: u :: u :: u :: u :: u :: u :: u :: u :: u :: u :: u :: u :: u :: u :: u :: u :: u :: u :: u :: u :: u :: u :: u :: u :: u :: u :: u :: u :: u :: u :: u :: .bool true :: u :: u :: u :: u :: u :: u :: u :: u :: u :: u :: u :: u :: u :: u :: u :: u :: u :: u :: u :: u :: u :: u :: u :: u :: u :: u :: u :: u :: u :: u :: u :: u :: u :: u :: u :: u :: u :: u :: u :: u :: u :: u :: u :: u :: u :: [])) rfl ?_
          exact cut_n hK10 ⟨_, (Option.some.inj h).symm, rfl, hS⟩
        · try simp only [W, EE, reduceIte, Nat.reduceAdd, Nat.reduceBEq, Bool.false_eq_true, hS.var 0 rfl, hc]
          refine w_grdT h (fun hc h => ?_) (fun hc h => ?_)
          · try simp only [W, hc]
            refine seq_n hK11 ?_
            refine w_killE (s' := (u :: .ptr ip2 wp2 0 0 :: u :: u :: u :: u :: u :: u :: u :: u :: u :: u :: u :: u :: u :: u :: u :: u :: u :: u :: u :: u :: u :: u :: u :: u :: u :: u :: u :: u :: u :: u :: u :: u :: u :: u :: u :: u :: u :: u :: u :: .bool true :: u :: u :: u :: u :: u :: u :: u :: u :: u :: u :: u :: u :: u :: u :: u :: u :: u :: u :: u :: u :: u :: u :: u :: u :: u :: u :: u :: u :: u :: u :: u :: u :: u :: u :: u :: u :: u :: u :: u :: u :: u :: u :: u :: u :: u :: [])) rfl ?_
            exact cut_n hK10 ⟨_, (Option.some.inj h).symm, rfl, hS⟩
          · try simp only [W, EE, Nat.reduceAdd, Nat.reduceBEq, hS.var 0 rfl, hc]
            refine w_call h fun b13 hb13 h => ?_
            refine impl_in_w hb13 hS fun H hS => ?_
            try simp only [W, reduceIte, Bool.false_eq_true]
            refine seq_n hK11 ?_
            refine w_killE (s' := (u :: .ptr ip2 wp2 0 0 :: u :: u :: u :: u :: u :: u :: u :: u :: u :: u :: u :: u :: u :: u :: u :: u :: u :: u :: u :: u :: u :: u :: u :: u :: u :: u :: u :: u :: u :: u :: u :: u :: u :: u :: u :: u :: u :: u :: u :: .bool (!b13) :: u :: u :: u :: u :: u :: u :: u :: u :: u :: u :: u :: u :: u :: u :: u :: u :: u :: u :: u :: u :: u :: u :: u :: u :: u :: u :: u :: u :: u :: u :: u :: u :: u :: u :: u :: u :: u :: u :: u :: u :: u :: u :: u :: u :: u :: [])) rfl ?_
            exact cut_n hK10 ⟨_, (Option.some.inj h).symm, rfl, hS⟩
  · obtain ⟨x7, ey, rfl, hS⟩ := hq; obtain rfl := ey.symm
    replace h := g9
    try dsimp only at h
    refine seq_n hK6 ?_
    refine w_if ?_
    simp only [W]
    refine w_cnd h (fun hc h => ?_) (fun hc h => ?_)
    · refine w_seq fun K14 hK14 => ?_
      refine w_reg gC ?_
      try simp only [W, Nat.reduceAdd]
      refine seq_n hK14 ?_
      refine w_ret ?_
      refine seq_r hK5 ?_
      refine fin_r1 hK0 rfl ?_
      try obtain rfl := Option.some.inj h
      exact hP _ (hS.sel 1 [] (by decide))
    · refine w_skip ?_
      refine seq_n hK5 ?_
      refine w_seq fun K15 hK15 => ?_
      refine w_seq fun K16 hK16 => ?_
      refine w_reg gC ?_
      try simp only [W, EE, Nat.reduceAdd, Nat.reduceBEq, hS.var 0 rfl]
      refine seq_n hK16 ?_
      obtain ⟨y18, hw19, g25⟩ := Option.bind_eq_some_iff.1 h
      refine w_join gC (fun s H => y18 = LR.next () ∧ s = (u :: u :: u :: u :: u :: u :: u :: u :: u :: u :: u :: u :: u :: u :: u :: u :: u :: u :: u :: u :: u :: u :: u :: u :: u :: u :: u :: u :: u :: u :: u :: u :: u :: u :: u :: u :: u :: u :: u :: u :: u :: u :: u :: u :: u :: u :: u :: u :: u :: u :: u :: u :: u :: u :: u :: u :: u :: u :: u :: u :: u :: u :: u :: u :: u :: u :: u :: u :: u :: u :: u :: u :: u :: u :: u :: u :: u :: u :: u :: u :: u :: u :: u :: u :: u :: u :: u :: []) ∧ Own H (F)) (fun K20 hK20 => ?_) (fun s H hq => ?_)
      · refine w_blk fun K21 hK21 => ?_
        refine w_loop gC hw19 (fun x s H => s = (u :: .ptr ip2 wp2 0 0 :: u :: u :: u :: u :: u :: u :: u :: u :: u :: u :: u :: u :: u :: u :: u :: u :: u :: u :: u :: u :: u :: u :: u :: u :: u :: u :: u :: u :: u :: u :: u :: u :: u :: u :: u :: u :: u :: u :: u :: u :: u :: .fz (a0.Queues.map (fzl (AV.int .i64))) :: .int .i64 (a0.Queues.length : Int) :: .int .i64 x :: u :: u :: u :: u :: u :: u :: u :: u :: u :: u :: u :: u :: u :: u :: u :: u :: u :: u :: u :: u :: u :: u :: u :: u :: u :: u :: u :: u :: u :: u :: u :: u :: u :: u :: u :: u :: u :: u :: u :: u :: u :: []) ∧ Own H (⟨.ptr ip2 wp2 0 0, 5, [.agg [.fz (a0.Quanta.map (AV.int .i64)), .fz (a0.Queues.map (fzl (AV.int .i64))), .fz (a0.Credit.map (AV.int .i64)), .fz (a0.Sent.map (AV.int .i64)), .int .i64 a0.At]]⟩ :: F)) ⟨rfl, hS⟩ (fun x17 y24 s H h hd23 hi K22 hK22 => ?_)
        skip
        try dsimp only at hi
        obtain ⟨rfl, hS⟩ := hi
        simp only [impl_GoodTurns_l0] at h
        refine w_seq fun K26 hK26 => ?_
        refine w_reg gC ?_
        try simp only [W, EE, Nat.reduceAdd]
        refine seq_n hK26 ?_
        refine w_seq fun K27 hK27 => ?_
        refine w_if ?_
        simp only [W]
        refine w_cnd h (fun hc h => ?_) (fun hc h => ?_)
        · refine w_skip ?_
          refine seq_n hK27 ?_
          refine w_seq fun K28 hK28 => ?_
          refine w_blk fun K29 hK29 => ?_
          refine w_seq fun K30 hK30 => ?_
          refine w_reg gC ?_
          try simp only [W, EE, Nat.reduceAdd]
          refine w_fz rfl rfl rfl (fun _ => rfl) h fun b31 hb31 h => ?_
          try simp only [W, EE, EN]
          refine seq_n hK30 ?_
          refine w_seq fun K32 hK32 => ?_
          refine w_seq fun K33 hK33 => ?_
          obtain ⟨y35, h, g36⟩ := Option.bind_eq_some_iff.1 h
          refine w_join gC (fun s H => ∃ x34 : Bool, y35 = (x34) ∧ s = (u :: .ptr ip2 wp2 0 0 :: u :: u :: .int .i64 x17 :: .fz (b31.map (AV.int .i64)) :: u :: u :: u :: u :: u :: u :: u :: u :: u :: u :: u :: u :: u :: u :: u :: u :: u :: u :: u :: u :: u :: u :: u :: u :: u :: u :: u :: u :: u :: u :: u :: u :: u :: u :: u :: u :: u :: .fz (a0.Queues.map (fzl (AV.int .i64))) :: .int .i64 (a0.Queues.length : Int) :: .int .i64 x17 :: u :: u :: u :: u :: u :: u :: u :: u :: u :: u :: .bool x34 :: u :: u :: u :: u :: u :: u :: u :: u :: u :: u :: u :: u :: u :: u :: u :: u :: u :: u :: u :: u :: u :: u :: u :: u :: u :: u :: u :: u :: u :: u :: []) ∧ Own H (⟨.ptr ip2 wp2 0 0, 5, [.agg [.fz (a0.Quanta.map (AV.int .i64)), .fz (a0.Queues.map (fzl (AV.int .i64))), .fz (a0.Credit.map (AV.int .i64)), .fz (a0.Sent.map (AV.int .i64)), .int .i64 a0.At]]⟩ :: F)) (fun K37 hK37 => ?_) (fun s H hq => ?_)
          · refine w_seq fun K38 hK38 => ?_
            refine w_reg gC ?_
            try simp only [W, EE, Nat.reduceAdd]
            refine w_grdT h (fun hc h => ?_) (fun hc h => ?_)
            · try simp only [W, hc]
              refine seq_n hK38 ?_
              refine w_killE (s' := (u :: .ptr ip2 wp2 0 0 :: u :: u :: .int .i64 x17 :: .fz (b31.map (AV.int .i64)) :: u :: u :: u :: u :: u :: u :: u :: u :: u :: u :: u :: u :: u :: u :: u :: u :: u :: u :: u :: u :: u :: u :: u :: u :: u :: u :: u :: u :: u :: u :: u :: u :: u :: u :: u :: u :: u :: .fz (a0.Queues.map (fzl (AV.int .i64))) :: .int .i64 (a0.Queues.length : Int) :: .int .i64 x17 :: u :: u :: u :: u :: u :: u :: u :: u :: u :: u :: .bool true :: u :: u :: u :: u :: u :: u :: u :: u :: u :: u :: u :: u :: u :: u :: u :: u :: u :: u :: u :: u :: u :: u :: u :: u :: u :: u :: u :: u :: u :: u :: [])) rfl ?_
              exact cut_n hK37 ⟨_, (Option.some.inj h).symm, rfl, hS⟩
            · try simp only [W, hc]
              refine w_call h fun b39 hb39 h => ?_
              refine slices_ContainsFunc_int_w hb39 (fun h _ n hL _ hS _ hP => impl_GoodTurns_1_w h hS hP) hS fun H hS => ?_
              try simp only [W, reduceIte, Bool.false_eq_true]
              refine seq_n hK38 ?_
              refine w_killE (s' := (u :: .ptr ip2 wp2 0 0 :: u :: u :: .int .i64 x17 :: .fz (b31.map (AV.int .i64)) :: u :: u :: u :: u :: u :: u :: u :: u :: u :: u :: u :: u :: u :: u :: u :: u :: u :: u :: u :: u :: u :: u :: u :: u :: u :: u :: u :: u :: u :: u :: u :: u :: u :: u :: u :: u :: u :: .fz (a0.Queues.map (fzl (AV.int .i64))) :: .int .i64 (a0.Queues.length : Int) :: .int .i64 x17 :: u :: u :: u :: u :: u :: u :: u :: u :: u :: u :: .bool b39 :: u :: u :: u :: u :: u :: u :: u :: u :: u :: u :: u :: u :: u :: u :: u :: u :: u :: u :: u :: u :: u :: u :: u :: u :: u :: u :: u :: u :: u :: u :: [])) rfl ?_
              exact cut_n hK37 ⟨_, (Option.some.inj h).symm, rfl, hS⟩
          · obtain ⟨x34, ey, rfl, hS⟩ := hq; obtain rfl := ey.symm
            replace h := g36
            try dsimp only at h
            refine seq_n hK33 ?_
            refine w_if ?_
            simp only [W]
            refine w_cnd h (fun hc h => ?_) (fun hc h => ?_)
            · refine w_seq fun K40 hK40 => ?_
              refine w_reg gC ?_
              try simp only [W, Nat.reduceAdd]
              refine seq_n hK40 ?_
              refine w_ret ?_
              refine seq_r hK32 ?_
              refine blk_r hK29 ?_
              refine seq_r hK28 ?_
              try obtain rfl := Option.some.inj h
              obtain rfl := hd23 _ rfl
              have h : (some (LR.done false) : Option (LR Unit (Bool))) = some (LR.done false) := rfl
              refine lp_r hK22 ?_
              refine blk_r hK21 ?_
              try obtain rfl := Option.some.inj h
              obtain rfl := Option.some.inj g25
              have h : (some false : Option (Bool)) = some false := rfl
              refine cut_r hK20 ?_
              refine seq_r hK15 ?_
              refine fin_r1 hK0 rfl ?_
              try obtain rfl := Option.some.inj h
              exact hP _ (hS.sel 1 [] (by decide))
            · refine w_skip ?_
              refine seq_n hK32 ?_
              refine w_seq fun K45 hK45 => ?_
              obtain ⟨y47, h, g48⟩ := Option.bind_eq_some_iff.1 h
              refine w_join gC (fun s H => ∃ x46 : Bool, y47 = (x46) ∧ s = (u :: .ptr ip2 wp2 0 0 :: u :: u :: u :: u :: u :: u :: u :: u :: u :: u :: u :: u :: u :: u :: u :: u :: u :: u :: u :: u :: u :: u :: u :: u :: u :: u :: u :: u :: u :: u :: u :: u :: u :: u :: u :: u :: u :: u :: u :: u :: u :: .fz (a0.Queues.map (fzl (AV.int .i64))) :: .int .i64 (a0.Queues.length : Int) :: .int .i64 x17 :: u :: u :: u :: u :: u :: u :: u :: u :: u :: u :: u :: u :: u :: u :: u :: u :: u :: u :: u :: u :: u :: u :: u :: u :: u :: u :: u :: u :: u :: u :: u :: u :: u :: u :: u :: u :: u :: u :: u :: .bool x46 :: u :: []) ∧ Own H (⟨.ptr ip2 wp2 0 0, 5, [.agg [.fz (a0.Quanta.map (AV.int .i64)), .fz (a0.Queues.map (fzl (AV.int .i64))), .fz (a0.Credit.map (AV.int .i64)), .fz (a0.Sent.map (AV.int .i64)), .int .i64 a0.At]]⟩ :: F)) (fun K49 hK49 => ?_) (fun s H hq => ?_)
              · refine w_seq fun K50 hK50 => ?_
                refine w_reg gC ?_
                try simp only [W, EE, Nat.reduceAdd, Nat.reduceBEq, hS.var 0 rfl]
                refine w_fz rfl rfl rfl (fun _ => rfl) h fun b51 hb51 h => ?_
                try simp only [W, EE]
                refine w_call h fun b52 hb52 h => ?_
                refine impl_in_w hb52 hS fun H hS => ?_
                try simp only [W]
                refine w_grdT h (fun hc h => ?_) (fun hc h => ?_)
                · try simp only [W, hc]
                  refine seq_n hK50 ?_
                  refine w_killE (s' := (u :: .ptr ip2 wp2 0 0 :: u :: u :: u :: u :: u :: u :: u :: u :: u :: u :: u :: u :: u :: u :: u :: u :: u :: u :: u :: u :: u :: u :: u :: u :: u :: u :: u :: u :: u :: u :: u :: u :: u :: u :: u :: u :: u :: u :: u :: u :: u :: .fz (a0.Queues.map (fzl (AV.int .i64))) :: .int .i64 (a0.Queues.length : Int) :: .int .i64 x17 :: u :: u :: u :: u :: u :: u :: u :: u :: u :: u :: u :: u :: u :: u :: u :: u :: u :: u :: u :: u :: u :: u :: u :: u :: u :: u :: u :: u :: u :: u :: u :: u :: u :: u :: u :: u :: u :: u :: u :: .bool true :: u :: [])) rfl ?_
                  exact cut_n hK49 ⟨_, (Option.some.inj h).symm, rfl, hS⟩
                · try simp only [W, EE, hc]
                  refine w_grdT h (fun hc h => ?_) (fun hc h => ?_)
                  · try simp only [W, EE, Nat.reduceAdd, Nat.reduceBEq, hS.var 0 rfl, hc]
                    refine w_fz rfl rfl rfl (fun _ => rfl) h fun b53 hb53 h => ?_
                    try simp only [W, EE, reduceIte, Bool.false_eq_true]
                    refine w_grdT h (fun hc h => ?_) (fun hc h => ?_)
                    · try simp only [W, hc]
                      refine seq_n hK50 ?_
                      refine w_killE (s' := (u :: .ptr ip2 wp2 0 0 :: u :: u :: u :: u :: u :: u :: u :: u :: u :: u :: u :: u :: u :: u :: u :: u :: u :: u :: u :: u :: u :: u :: u :: u :: u :: u :: u :: u :: u :: u :: u :: u :: u :: u :: u :: u :: u :: u :: u :: u :: u :: .fz (a0.Queues.map (fzl (AV.int .i64))) :: .int .i64 (a0.Queues.length : Int) :: .int .i64 x17 :: u :: u :: u :: u :: u :: u :: u :: u :: u :: u :: u :: u :: u :: u :: u :: u :: u :: u :: u :: u :: u :: u :: u :: u :: u :: u :: u :: u :: u :: u :: u :: u :: u :: u :: u :: u :: u :: u :: u :: .bool true :: u :: [])) rfl ?_
                      exact cut_n hK49 ⟨_, (Option.some.inj h).symm, rfl, hS⟩
                    · try simp only [W, EE, Nat.reduceAdd, Nat.reduceBEq, hS.var 0 rfl, hc]
                      refine w_fz rfl rfl rfl (fun _ => rfl) h fun b54 hb54 h => ?_
                      try simp only [W, EE]
                      refine w_call h fun b55 hb55 h => ?_
                      refine impl_in_w hb55 hS fun H hS => ?_
                      try simp only [W, reduceIte, Bool.false_eq_true]
                      refine seq_n hK50 ?_
                      refine w_killE (s' := (u :: .ptr ip2 wp2 0 0 :: u :: u :: u :: u :: u :: u :: u :: u :: u :: u :: u :: u :: u :: u :: u :: u :: u :: u :: u :: u :: u :: u :: u :: u :: u :: u :: u :: u :: u :: u :: u :: u :: u :: u :: u :: u :: u :: u :: u :: u :: u :: .fz (a0.Queues.map (fzl (AV.int .i64))) :: .int .i64 (a0.Queues.length : Int) :: .int .i64 x17 :: u :: u :: u :: u :: u :: u :: u :: u :: u :: u :: u :: u :: u :: u :: u :: u :: u :: u :: u :: u :: u :: u :: u :: u :: u :: u :: u :: u :: u :: u :: u :: u :: u :: u :: u :: u :: u :: u :: u :: .bool (!b55) :: u :: [])) rfl ?_
                      exact cut_n hK49 ⟨_, (Option.some.inj h).symm, rfl, hS⟩
                  · try simp only [W, EE, reduceIte, Nat.reduceAdd, Nat.reduceBEq, Bool.false_eq_true, hS.var 0 rfl, hc]
                    refine w_fz rfl rfl rfl (fun _ => rfl) h fun b56 hb56 h => ?_
                    try simp only [W, EE]
                    refine w_call h fun b57 hb57 h => ?_
                    refine impl_in_w hb57 hS fun H hS => ?_
                    try simp only [W, reduceIte, Bool.false_eq_true]
                    refine seq_n hK50 ?_
                    refine w_killE (s' := (u :: .ptr ip2 wp2 0 0 :: u :: u :: u :: u :: u :: u :: u :: u :: u :: u :: u :: u :: u :: u :: u :: u :: u :: u :: u :: u :: u :: u :: u :: u :: u :: u :: u :: u :: u :: u :: u :: u :: u :: u :: u :: u :: u :: u :: u :: u :: u :: .fz (a0.Queues.map (fzl (AV.int .i64))) :: .int .i64 (a0.Queues.length : Int) :: .int .i64 x17 :: u :: u :: u :: u :: u :: u :: u :: u :: u :: u :: u :: u :: u :: u :: u :: u :: u :: u :: u :: u :: u :: u :: u :: u :: u :: u :: u :: u :: u :: u :: u :: u :: u :: u :: u :: u :: u :: u :: u :: .bool (!b57) :: u :: [])) rfl ?_
                    exact cut_n hK49 ⟨_, (Option.some.inj h).symm, rfl, hS⟩
              · obtain ⟨x46, ey, rfl, hS⟩ := hq; obtain rfl := ey.symm
                replace h := g48
                try dsimp only at h
                refine seq_n hK45 ?_
                refine w_if ?_
                simp only [W]
                refine w_cnd h (fun hc h => ?_) (fun hc h => ?_)
                · refine w_seq fun K58 hK58 => ?_
                  refine w_reg gC ?_
                  try simp only [W, Nat.reduceAdd]
                  refine seq_n hK58 ?_
                  refine w_ret ?_
                  refine blk_r hK29 ?_
                  refine seq_r hK28 ?_
                  try obtain rfl := Option.some.inj h
                  obtain rfl := hd23 _ rfl
                  have h : (some (LR.done false) : Option (LR Unit (Bool))) = some (LR.done false) := rfl
                  refine lp_r hK22 ?_
                  refine blk_r hK21 ?_
                  try obtain rfl := Option.some.inj h
                  obtain rfl := Option.some.inj g25
                  have h : (some false : Option (Bool)) = some false := rfl
                  refine cut_r hK20 ?_
                  refine seq_r hK15 ?_
                  refine fin_r1 hK0 rfl ?_
                  try obtain rfl := Option.some.inj h
                  exact hP _ (hS.sel 1 [] (by decide))
                · refine w_skip ?_
                  refine blk_n0 hK29 ?_
                  refine seq_n hK28 ?_
                  refine w_reg gC ?_
                  try simp only [W, EE, Nat.reduceAdd]
                  exact lp_n hK22 h ⟨rfl, hS⟩
        · refine w_exit ?_
          refine seq_x hK27 ?_
          try obtain rfl := Option.some.inj h
          obtain rfl := hd23 _ rfl
          have h : (some (LR.next ()) : Option (LR Unit (Bool))) = some (LR.next ()) := rfl
          refine lp_x hK22 ?_
          refine blk_e hK21 ?_
          exact cut_n hK20 ⟨(Option.some.inj h).symm, rfl, (hS.sel 1 [] (by decide))⟩
      · obtain ⟨rfl, rfl, hS⟩ := hq
        replace h := g25
        try dsimp only at h
        refine seq_n hK15 ?_
        refine w_seq fun K65 hK65 => ?_
        refine w_reg gC ?_
        try simp only [W, Nat.reduceAdd]
        refine seq_n hK65 ?_
        refine w_ret ?_
        refine fin_r1 hK0 rfl ?_
        try obtain rfl := Option.some.inj h
        exact hP _ hS
theorem slices_Clone_int_w {a0 : List Int} {r : List Int} (h : slices_Clone_int a0 = some r) {F : List It} {H : Heap} (hS : Own H F) {P : AV → Heap → Prop} (hP : ∀ v0 : AV, isSl v0 → ∀ H', Own H' (⟨v0, 1, r.map (AV.int .i64)⟩ :: F) → P v0 H') : ACall C 213 [.fz (a0.map (AV.int .i64))] H P :=
  clone_w (ids := cids) rfl (sz := 1) (b := 8) (by simp [cids]) (fun _ => rfl) (by decide) h hS hP
theorem impl_Turns_copied_w {a0 : Turns} {r : (Turns)} (h : impl_Turns_copied a0 = some r) {F : List It} {H : Heap} (hS : Own H (F)) {P : AV → Heap → Prop} (hP : ∀ v61 : AV, isSl v61 → ∀ v63 : AV, isSl v63 → ∀ d65 : List AV, isSls d65 (r.Queues).length → ∀ v66 : AV, isSl v66 → ∀ v68 : AV, isSl v68 → ∀ H', Own H' (⟨v61, 1, r.Quanta.map (AV.int .i64)⟩ :: ⟨v63, 1, ouw nm_SInt d65 r.Queues⟩ :: ⟨v66, 1, r.Credit.map (AV.int .i64)⟩ :: ⟨v68, 1, r.Sent.map (AV.int .i64)⟩ :: ((inn np_SInt (AV.int .i64) 1 d65 r.Queues) ++ F)) → P (.agg [v61, v63, v66, v68, .int .i64 r.At]) H') : ACall C 116 [.agg [.fz (a0.Quanta.map (AV.int .i64)), .fz (a0.Queues.map (fzl (AV.int .i64))), .fz (a0.Credit.map (AV.int .i64)), .fz (a0.Sent.map (AV.int .i64)), .int .i64 a0.At]] H P := by
  refine acall_of gC (res := [.cell 2 27]) (n := 34) rfl rfl rfl rfl fun K0 hK0 => ?_
  simp only [W, Nat.reduceSub, Nat.reduceAdd, List.replicate]
  unfold impl_Turns_copied at h
  refine w_seq fun K1 hK1 => ?_
  refine w_reg gC ?_
  try simp only [W, Nat.reduceAdd]
  refine w_box hS rfl rfl rfl rfl fun ip2 wp2 H hS => ?_
  try simp only [W]
  refine w_alloc hS rfl rfl fun ip4 wp4 H hS => ?_
  try simp only [W]
  refine seq_n hK1 ?_
  refine w_seq fun K6 hK6 => ?_
  refine w_drawL gC [(13, [])] (by kernel_rfl) rfl (by kernel_rfl) ?_
  try simp only [W, EE, reduceIte, Nat.reduceAdd, Nat.reduceBEq, hS.var 1 rfl, tabAt, qAt, Nat.reduceEqDiff, List.contains_cons, Nat.reduceBEq, Bool.or_true, Bool.or_self]
  refine w_callO (rsh := [[.sl [.sc]]]) (ys := [.fz (a0.Quanta.map (AV.int .i64))]) h rfl (by rfl) fun b7 hb7 h => ⟨.own 1 (b7.map (AV.int .i64)), slices_Clone_int_w hb7 (Own.nil _) fun v8 qv8 H hS => TV_ok rfl (TV_o 0 hS rfl qv8 (fun _ _ => by simp [takeE, takeT, plainA]) fun H hS => TV_n rfl), (noFz_o _ (fun _ => rfl) _), ?_⟩
  refine thaw_1 ?_
  refine TH_o hS (fun _ _ => rfl) (fun _ => rfl) fun v10 H qv10 hS => ?_
  refine TH_n ?_
  try simp only [List.headD_cons]
  try simp only [W, EE, Nat.reduceAdd, Nat.reduceBEq, hS.var 2 rfl, Nat.reduceBEq]
  refine w_callO (rsh := [[.sl [.sc]]]) (ys := [.fz (a0.Credit.map (AV.int .i64))]) h rfl (by rfl) fun b11 hb11 h => ⟨.own 1 (b11.map (AV.int .i64)), slices_Clone_int_w hb11 (Own.nil _) fun v12 qv12 H hS => TV_ok rfl (TV_o 0 hS rfl qv12 (fun _ _ => by simp [takeE, takeT, plainA]) fun H hS => TV_n rfl), (noFz_o _ (fun _ => rfl) _), ?_⟩
  refine thaw_1 ?_
  refine TH_o hS (fun _ _ => rfl) (fun _ => rfl) fun v14 H qv14 hS => ?_
  refine TH_n ?_
  try simp only [List.headD_cons]
  try simp only [W, EE, Nat.reduceAdd, Nat.reduceBEq, hS.var 3 rfl, Nat.reduceBEq]
  refine w_callO (rsh := [[.sl [.sc]]]) (ys := [.fz (a0.Sent.map (AV.int .i64))]) h rfl (by rfl) fun b15 hb15 h => ⟨.own 1 (b15.map (AV.int .i64)), slices_Clone_int_w hb15 (Own.nil _) fun v16 qv16 H hS => TV_ok rfl (TV_o 0 hS rfl qv16 (fun _ _ => by simp [takeE, takeT, plainA]) fun H hS => TV_n rfl), (noFz_o _ (fun _ => rfl) _), ?_⟩
  refine thaw_1 ?_
  refine TH_o hS (fun _ _ => rfl) (fun _ => rfl) fun v18 H qv18 hS => ?_
  refine TH_n ?_
  try simp only [List.headD_cons]
  try simp only [W, EE, Nat.reduceAdd, Nat.reduceBEq, hS.var 4 rfl, Nat.reduceBEq]
  refine w_bld rfl rfl rfl rfl (by simp only [fillA, qv10.stora, qv10.cells, qv14.stora, qv14.cells, qv18.stora, qv18.cells]; simp [E, splice, AV.cells, storA, stor1] <;> rfl) ?_
  try simp only [W]
  refine w_alloc hS rfl rfl fun ip19 wp19 H hS => ?_
  try simp only [W]
  refine w_stv (a := .agg [v10, .nil, v14, v18, .int .i64 a0.At]) (y' := .agg [v10, .nil, v14, v18, .int .i64 a0.At]) 0 hS rfl rfl rfl rfl rfl (by simp only [storA, List.all_cons, List.all_nil, qv10.stor, qv14.stor, qv18.stor]; rfl) rfl rfl fun H hS => ?_
  try simp only [W]
  refine seq_n hK6 ?_
  refine w_seq fun K21 hK21 => ?_
  refine w_seq fun K22 hK22 => ?_
  refine w_reg gC ?_
  try simp only [W, EE, Nat.reduceAdd, Nat.reduceBEq, hS.var 5 rfl]
  refine seq_n hK22 ?_
  obtain ⟨y31, hw32, g38⟩ := Option.bind_eq_some_iff.1 h
  refine w_join gC (fun s H => ∃ x28 : List (List Int), y31 = (x28) ∧ ∃ v29 : AV, isSl v29 ∧ ∃ d30 : List AV, isSls d30 (x28).length ∧ s = [u, u, .ptr ip4 wp4 0 0, .ptr ip19 wp19 0 0, u, u, u, u, u, u, u, u, u, u, u, u, u, u, u, u, u, u, u, u, u, u, u, u, u, u, u, u, u, u] ∧ Own H (⟨v10, 1, b7.map (AV.int .i64)⟩ :: ⟨v29, 1, ouw nm_SInt d30 x28⟩ :: ⟨v14, 1, b11.map (AV.int .i64)⟩ :: ⟨v18, 1, b15.map (AV.int .i64)⟩ :: ⟨.ptr ip4 wp4 0 0, 5, [.agg [.nil, .nil, .nil, .nil, .int .i64 0]]⟩ :: ⟨.ptr ip19 wp19 0 0, 5, [.agg [v10, v29, v14, v18, .int .i64 a0.At]]⟩ :: ((inn np_SInt (AV.int .i64) 1 d30 x28) ++ F))) (fun K33 hK33 => ?_) (fun s H hq => ?_)
  · refine w_blk fun K34 hK34 => ?_
    have hS := hS.nil_ 1
    obtain ⟨d59, qd59, hS⟩ := noneN (p := np_SInt) (c := (AV.int .i64)) (z := 1) (m := nm_SInt) hS
    have hS : Own _ (⟨AV.nil, 1, ouw nm_SInt d59 ([] : List (List Int))⟩ :: ⟨.ptr ip19 wp19 0 0, 5, [.agg [v10, .nil, v14, v18, .int .i64 a0.At]]⟩ :: ⟨v18, 1, b15.map (AV.int .i64)⟩ :: ⟨v14, 1, b11.map (AV.int .i64)⟩ :: ⟨v10, 1, b7.map (AV.int .i64)⟩ :: ⟨.ptr ip4 wp4 0 0, 5, [.agg [.nil, .nil, .nil, .nil, .int .i64 0]]⟩ :: ⟨.ptr ip2 wp2 0 0, 5, [.agg [.fz (a0.Quanta.map (AV.int .i64)), .fz (a0.Queues.map (fzl (AV.int .i64))), .fz (a0.Credit.map (AV.int .i64)), .fz (a0.Sent.map (AV.int .i64)), .int .i64 a0.At]]⟩ :: ((inn np_SInt (AV.int .i64) 1 d59 ([] : List (List Int))) ++ (F))) := Own.catI_ (bl := [[⟨AV.nil, 1, ouw nm_SInt d59 ([] : List (List Int))⟩], (inn np_SInt (AV.int .i64) 1 d59 ([] : List (List Int))), [⟨.ptr ip19 wp19 0 0, 5, [.agg [v10, .nil, v14, v18, .int .i64 a0.At]]⟩], [⟨v18, 1, b15.map (AV.int .i64)⟩], [⟨v14, 1, b11.map (AV.int .i64)⟩], [⟨v10, 1, b7.map (AV.int .i64)⟩], [⟨.ptr ip4 wp4 0 0, 5, [.agg [.nil, .nil, .nil, .nil, .int .i64 0]]⟩], [⟨.ptr ip2 wp2 0 0, 5, [.agg [.fz (a0.Quanta.map (AV.int .i64)), .fz (a0.Queues.map (fzl (AV.int .i64))), .fz (a0.Credit.map (AV.int .i64)), .fz (a0.Sent.map (AV.int .i64)), .int .i64 a0.At]]⟩]]) (F := F) hS 8 rfl [0, 2, 3, 4, 5, 6, 7, 1] (by decide)
    have hS : Own _ (⟨v10, 1, b7.map (AV.int .i64)⟩ :: ⟨AV.nil, 1, ouw nm_SInt d59 ([] : List (List Int))⟩ :: ⟨v14, 1, b11.map (AV.int .i64)⟩ :: ⟨v18, 1, b15.map (AV.int .i64)⟩ :: ⟨.ptr ip4 wp4 0 0, 5, [.agg [.nil, .nil, .nil, .nil, .int .i64 0]]⟩ :: ⟨.ptr ip19 wp19 0 0, 5, [.agg [v10, .nil, v14, v18, .int .i64 a0.At]]⟩ :: ((inn np_SInt (AV.int .i64) 1 d59 ([] : List (List Int))) ++ (F))) := Own.catI_ (bl := [[⟨AV.nil, 1, ouw nm_SInt d59 ([] : List (List Int))⟩], [⟨.ptr ip19 wp19 0 0, 5, [.agg [v10, .nil, v14, v18, .int .i64 a0.At]]⟩], [⟨v18, 1, b15.map (AV.int .i64)⟩], [⟨v14, 1, b11.map (AV.int .i64)⟩], [⟨v10, 1, b7.map (AV.int .i64)⟩], [⟨.ptr ip4 wp4 0 0, 5, [.agg [.nil, .nil, .nil, .nil, .int .i64 0]]⟩], [⟨.ptr ip2 wp2 0 0, 5, [.agg [.fz (a0.Quanta.map (AV.int .i64)), .fz (a0.Queues.map (fzl (AV.int .i64))), .fz (a0.Credit.map (AV.int .i64)), .fz (a0.Sent.map (AV.int .i64)), .int .i64 a0.At]]⟩], (inn np_SInt (AV.int .i64) 1 d59 ([] : List (List Int)))]) (F := F) hS 8 rfl [4, 0, 3, 2, 5, 1, 7] (by decide)
    refine w_loop gC hw32 (fun x s H => match x with | (x23, x24) => ∃ v25 : AV, isSl v25 ∧ ∃ d27 : List AV, isSls d27 (x24).length ∧ s = [u, u, .ptr ip4 wp4 0 0, .ptr ip19 wp19 0 0, u, u, u, u, u, u, u, u, u, u, u, u, u, u, u, .fz (a0.Queues.map (fzl (AV.int .i64))), .int .i64 (a0.Queues.length : Int), .int .i64 x23, u, u, u, u, u, u, u, u, u, u, u, u] ∧ Own H (⟨v10, 1, b7.map (AV.int .i64)⟩ :: ⟨v25, 1, ouw nm_SInt d27 x24⟩ :: ⟨v14, 1, b11.map (AV.int .i64)⟩ :: ⟨v18, 1, b15.map (AV.int .i64)⟩ :: ⟨.ptr ip4 wp4 0 0, 5, [.agg [.nil, .nil, .nil, .nil, .int .i64 0]]⟩ :: ⟨.ptr ip19 wp19 0 0, 5, [.agg [v10, v25, v14, v18, .int .i64 a0.At]]⟩ :: ((inn np_SInt (AV.int .i64) 1 d27 x24) ++ F))) ⟨_, isSl_nil, _, qd59, rfl, hS⟩ (fun x y37 s H h hd36 hi K35 hK35 => ?_)
    obtain ⟨x23, x24⟩ := x
    try dsimp only at hi
    obtain ⟨v25, qv25, d27, qd27, rfl, hS⟩ := hi
    simp only [impl_Turns_copied_l0] at h
    refine w_seq fun K39 hK39 => ?_
    refine w_reg gC ?_
    try simp only [W, EE, Nat.reduceAdd]
    refine seq_n hK39 ?_
    refine w_seq fun K40 hK40 => ?_
    refine w_if ?_
    simp only [W]
    refine w_cnd h (fun hc h => ?_) (fun hc h => ?_)
    · refine w_skip ?_
      refine seq_n hK40 ?_
      refine w_seq fun K41 hK41 => ?_
      refine w_blk fun K42 hK42 => ?_
      refine w_seq fun K43 hK43 => ?_
      refine w_reg gC ?_
      try simp only [W, EE, Nat.reduceAdd]
      refine w_fz rfl rfl rfl (fun _ => rfl) h fun b44 hb44 h => ?_
      try simp only [W, EE, EN]
      refine seq_n hK43 ?_
      refine w_drawL gC [(7, []), (5, [])] (by kernel_rfl) rfl (by kernel_rfl) ?_
      try simp only [W, EE, reduceIte, Nat.reduceAdd, Nat.reduceBEq, hS.var 5 rfl, tabAt, qAt, Nat.reduceEqDiff, List.contains_cons, Nat.reduceBEq, Bool.or_self]
      refine w_callO (rsh := [[.sl [.sc]]]) (ys := [.fz (b44.map (AV.int .i64))]) h rfl (by rfl) fun b45 hb45 h => ⟨.own 1 (b45.map (AV.int .i64)), slices_Clone_int_w hb45 (Own.nil _) fun v46 qv46 H hS => TV_ok rfl (TV_o 0 hS rfl qv46 (fun _ _ => by simp [takeE, takeT, plainA]) fun H hS => TV_n rfl), (noFz_o _ (fun _ => rfl) _), ?_⟩
      refine thaw_1 ?_
      refine TH_o hS (fun _ _ => rfl) (fun _ => rfl) fun v48 H qv48 hS => ?_
      refine TH_n ?_
      try simp only [List.headD_cons]
      try simp only [W]
      refine w_lit (el := [v48]) hS rfl rfl rfl rfl (fill1 (isSl.clen qv48) qv48.stora) rfl (sz1 (isSl.clen qv48)) fun v49 H qv49 hS => ?_
      have hS : Own _ (⟨v49, 1, [v48]⟩ :: ⟨v48, 1, b45.map (AV.int .i64)⟩ :: ⟨v10, 1, b7.map (AV.int .i64)⟩ :: ⟨v25, 1, ouw nm_SInt d27 x24⟩ :: ⟨v14, 1, b11.map (AV.int .i64)⟩ :: ⟨v18, 1, b15.map (AV.int .i64)⟩ :: ⟨.ptr ip4 wp4 0 0, 5, [.agg [.nil, .nil, .nil, .nil, .int .i64 0]]⟩ :: ⟨.ptr ip19 wp19 0 0, 5, [.agg [v10, v25, v14, v18, .int .i64 a0.At]]⟩ :: ((inn np_SInt (AV.int .i64) 1 d27 x24) ++ (F))) := hS
      obtain ⟨d50, qd50, hS⟩ := oneN (m := nm_SInt) (p := np_SInt) (c := (AV.int .i64)) (b := b45) hS qv48
      have hS : Own _ (⟨v49, 1, ouw nm_SInt d50 ([b45] : List (List Int))⟩ :: ⟨v10, 1, b7.map (AV.int .i64)⟩ :: ⟨v25, 1, ouw nm_SInt d27 x24⟩ :: ⟨v14, 1, b11.map (AV.int .i64)⟩ :: ⟨v18, 1, b15.map (AV.int .i64)⟩ :: ⟨.ptr ip4 wp4 0 0, 5, [.agg [.nil, .nil, .nil, .nil, .int .i64 0]]⟩ :: ⟨.ptr ip19 wp19 0 0, 5, [.agg [v10, v25, v14, v18, .int .i64 a0.At]]⟩ :: ((inn np_SInt (AV.int .i64) 1 d50 ([b45] : List (List Int))) ++ (((inn np_SInt (AV.int .i64) 1 d27 x24) ++ (F))))) := Own.catI_ (bl := [[⟨v49, 1, ouw nm_SInt d50 ([b45] : List (List Int))⟩], (inn np_SInt (AV.int .i64) 1 d50 ([b45] : List (List Int))), [⟨v10, 1, b7.map (AV.int .i64)⟩], [⟨v25, 1, ouw nm_SInt d27 x24⟩], [⟨v14, 1, b11.map (AV.int .i64)⟩], [⟨v18, 1, b15.map (AV.int .i64)⟩], [⟨.ptr ip4 wp4 0 0, 5, [.agg [.nil, .nil, .nil, .nil, .int .i64 0]]⟩], [⟨.ptr ip19 wp19 0 0, 5, [.agg [v10, v25, v14, v18, .int .i64 a0.At]]⟩], (inn np_SInt (AV.int .i64) 1 d27 x24)]) (F := F) hS 9 rfl [0, 2, 3, 4, 5, 6, 7, 1, 8] (by decide)
      try simp only [W, EE]
      have hS : Own _ (⟨v25, 1, ouw nm_SInt d27 x24⟩ :: ⟨v49, 1, ouw nm_SInt d50 ([b45] : List (List Int))⟩ :: ((inn np_SInt (AV.int .i64) 1 d27 x24) ++ (((inn np_SInt (AV.int .i64) 1 d50 ([b45] : List (List Int))) ++ (⟨v10, 1, b7.map (AV.int .i64)⟩ :: ⟨v14, 1, b11.map (AV.int .i64)⟩ :: ⟨v18, 1, b15.map (AV.int .i64)⟩ :: ⟨.ptr ip4 wp4 0 0, 5, [.agg [.nil, .nil, .nil, .nil, .int .i64 0]]⟩ :: ⟨.ptr ip19 wp19 0 0, 5, [.agg [v10, v25, v14, v18, .int .i64 a0.At]]⟩ :: F))))) := Own.catI_ (bl := [[⟨v49, 1, ouw nm_SInt d50 ([b45] : List (List Int))⟩], [⟨v10, 1, b7.map (AV.int .i64)⟩], [⟨v25, 1, ouw nm_SInt d27 x24⟩], [⟨v14, 1, b11.map (AV.int .i64)⟩], [⟨v18, 1, b15.map (AV.int .i64)⟩], [⟨.ptr ip4 wp4 0 0, 5, [.agg [.nil, .nil, .nil, .nil, .int .i64 0]]⟩], [⟨.ptr ip19 wp19 0 0, 5, [.agg [v10, v25, v14, v18, .int .i64 a0.At]]⟩], (inn np_SInt (AV.int .i64) 1 d50 ([b45] : List (List Int))), (inn np_SInt (AV.int .i64) 1 d27 x24)]) (F := F) hS 9 rfl [2, 0, 8, 7, 1, 3, 4, 5, 6] (by decide)
      refine w_appN (l := x24) (m := nm_SInt) (p := np_SInt) (c := (AV.int .i64)) hS qv25 qv49 qd27 qd50 rfl rfl rfl nc_SInt rfl h fun v52 H n54 d53 qv52 qd53 hm h hS => ?_
      have hS : Own _ (⟨v10, 1, b7.map (AV.int .i64)⟩ :: ⟨v52, 1, ouw nm_SInt d53 n54⟩ :: ⟨v14, 1, b11.map (AV.int .i64)⟩ :: ⟨v18, 1, b15.map (AV.int .i64)⟩ :: ⟨.ptr ip4 wp4 0 0, 5, [.agg [.nil, .nil, .nil, .nil, .int .i64 0]]⟩ :: ⟨.ptr ip19 wp19 0 0, 5, [.agg [v10, v25, v14, v18, .int .i64 a0.At]]⟩ :: ((inn np_SInt (AV.int .i64) 1 d53 n54) ++ (F))) := Own.catI_ (bl := [[⟨v52, 1, ouw nm_SInt d53 n54⟩], (inn np_SInt (AV.int .i64) 1 d53 n54), [⟨v10, 1, b7.map (AV.int .i64)⟩], [⟨v14, 1, b11.map (AV.int .i64)⟩], [⟨v18, 1, b15.map (AV.int .i64)⟩], [⟨.ptr ip4 wp4 0 0, 5, [.agg [.nil, .nil, .nil, .nil, .int .i64 0]]⟩], [⟨.ptr ip19 wp19 0 0, 5, [.agg [v10, v25, v14, v18, .int .i64 a0.At]]⟩]]) (F := F) hS 7 rfl [2, 0, 3, 4, 5, 6, 1] (by decide)
      try simp only [W, EE, Nat.reduceAdd, Nat.reduceBEq, hS.var 5 rfl, Nat.reduceBEq]
      refine w_stv (a := v52) (y' := .agg [v10, v52, v14, v18, .int .i64 a0.At]) 5 hS rfl rfl rfl rfl (by rw [qv52.cells]; rfl) qv52.stora (qv52.wr _ _ (by simp)) rfl fun H hS => ?_
      try simp only [W]
      refine blk_n0 hK42 ?_
      refine seq_n hK41 ?_
      refine w_reg gC ?_
      try simp only [W, EE, Nat.reduceAdd]
      exact lp_n hK35 h ⟨_, qv52, _, qd53, rfl, hS⟩
    · refine w_exit ?_
      refine seq_x hK40 ?_
      try obtain rfl := Option.some.inj h
      obtain rfl := hd36 _ rfl
      have h : (some (x24) : Option ((List (List Int)))) = some (x24) := rfl
      refine lp_x hK35 ?_
      refine blk_e hK34 ?_
      exact cut_n hK33 ⟨_, (Option.some.inj h).symm, _, qv25, _, qd27, rfl, hS⟩
  · obtain ⟨x28, ey, v29, qv29, d30, qd30, rfl, hS⟩ := hq; obtain rfl := ey.symm
    replace h := g38
    try dsimp only at h
    refine seq_n hK21 ?_
    refine w_seq fun K60 hK60 => ?_
    refine w_reg gC ?_
    try simp only [W, EE, reduceIte, Nat.reduceAdd, Nat.reduceLeDiff, hS.var 5 rfl]
    refine w_stv (a := .agg [v10, v29, v14, v18, .int .i64 a0.At]) (y' := .agg [v10, v29, v14, v18, .int .i64 a0.At]) 4 hS rfl rfl rfl rfl rfl (by simp only [storA, List.all_cons, List.all_nil, qv10.stor, qv29.stor, qv14.stor, qv18.stor]; rfl) rfl rfl fun H hS => ?_
    try simp only [W]
    refine seq_n hK60 ?_
    refine w_ret ?_
    refine fin_r hK0 (res_c rfl rfl (hS.var 4 rfl) rfl rfl) ?_
    try obtain rfl := Option.some.inj h
    have hS : Own _ (⟨v10, 1, b7.map (AV.int .i64)⟩ :: ⟨v29, 1, ouw nm_SInt d30 x28⟩ :: ⟨v14, 1, b11.map (AV.int .i64)⟩ :: ⟨v18, 1, b15.map (AV.int .i64)⟩ :: ((inn np_SInt (AV.int .i64) 1 d30 x28) ++ (F))) := Own.catI_ (bl := [[⟨v10, 1, b7.map (AV.int .i64)⟩], [⟨v29, 1, ouw nm_SInt d30 x28⟩], [⟨v14, 1, b11.map (AV.int .i64)⟩], [⟨v18, 1, b15.map (AV.int .i64)⟩], [⟨.ptr ip4 wp4 0 0, 5, [.agg [v10, v29, v14, v18, .int .i64 a0.At]]⟩], [⟨.ptr ip19 wp19 0 0, 5, [.agg [v10, v29, v14, v18, .int .i64 a0.At]]⟩], (inn np_SInt (AV.int .i64) 1 d30 x28)]) (F := F) hS 7 rfl [0, 1, 2, 3, 6] (by decide)
    exact hP _ qv10 _ qv29 _ qd30 _ qv14 _ qv18 _ hS
end Go.VxW
