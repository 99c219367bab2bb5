import Derived.Test.YtcgnkhdeckgaaaaVyGF
import Derived.Test.YtcgnkhdeckgaaaaProg
import Derived.Test.YtcgnkhdeckgaaaaVaE
import Derived.KernelRfl
open Go Go.VS
set_option maxRecDepth 8000
set_option maxHeartbeats 4000000
namespace Go.VxW
def e_Turns (x : Turns) : AV := .agg [.fz (x.Quanta.map (AV.int .i64)), .fz (x.Queues.map (fzl (AV.int .i64))), .fz (x.Credit.map (AV.int .i64)), .fz (x.Sent.map (AV.int .i64)), .int .i64 x.At]
def E : TEnv := fun t => match t with
  | 3 => some { sz := 1, agg := false, zero := [AV.int IntKind.i64 0], bytes := 8, und := UD.it IntKind.i64, eqok := true }
  | 4 => some { sz := 1, agg := false, zero := [AV.bool false], bytes := 1, und := UD.bl, eqok := true }
  | 22 => some { sz := 1, agg := false, zero := [AV.nil], bytes := 24, und := UD.sl 3, eqok := true }
  | 23 => some { sz := 1, agg := false, zero := [AV.nil], bytes := 24, und := UD.sl 22, eqok := true }
  | 25 => some { sz := 5, agg := true, zero := [AV.nil, AV.nil, AV.nil, AV.nil, AV.int IntKind.i64 0], bytes := 104, und := UD.st [(0, 22), (1, 23), (2, 22), (3, 22), (4, 3)], eqok := true }
  | 27 => some { sz := 5, agg := true, zero := [AV.nil, AV.nil, AV.nil, AV.nil, AV.int IntKind.i64 0], bytes := 104, und := UD.st [(0, 22), (1, 23), (2, 22), (3, 22), (4, 3)], eqok := true }
  | 137 => some { sz := 1, agg := false, zero := [AV.undef], bytes := 8, und := UD.ot, eqok := true }
  | _ => none
def pol : FuncId → FPol := fun f => match f with
  | 3 => { rsh := [[.sc]], regs := [(5, [], [4]), (7, [], [3]), (24, [], [4])], frz := [(8, [], some [1, 2, 3, 8, 9, 10, 11, 12, 48]), (14, [], some [1, 2, 3, 8, 9, 11, 69]), (25, [], some [11, 14, 97])] }
  | 15 => { rsh := [[.sc]] }
  | 16 => { rsh := [[.sl [.sc], .sl [.sl [.sc]], .sl [.sc], .sl [.sc], .sc], [.sc]], regs := [(4, [10, 12], [])], frz := [(1, [], some [1, 2, 3, 6, 36])] }
  | 17 => { rsh := [[.sl [.sc], .sl [.sl [.sc]], .sl [.sc], .sl [.sc], .sc]] }
  | 18 => { rsh := [[.sl [.sc], .sl [.sl [.sc]], .sl [.sc], .sl [.sc], .sc], [.sc]], regs := [(4, [10, 12], [])], frz := [(1, [], some [1, 2, 3, 6, 34])] }
  | 19 => { rsh := [[.sc]] }
  | 20 => { rsh := [[.sc]] }
  | 21 => { rsh := [[.sc]] }
  | 24 => { rsh := [[.sc]], loops := [(0, { keep := [0, 1, 5] })], blocks := [(0, [])] }
  | 25 => { rsh := [[.sc]], loops := [(0, { keep := [0, 1, 5] })], blocks := [(0, [1])] }
  | 26 => { rsh := [[.sc]], loops := [(0, { keep := [0, 1, 5] })], blocks := [(0, [1])] }
  | 106 => { rsh := [[.sc]] }
  | 107 => { rsh := [[.sc]], loops := [(0, { keep := [0, 1, 5] })], blocks := [(0, [1])] }
  | 108 => { rsh := [[.sc]], loops := [(0, { keep := [1, 60, 61, 62] })], blocks := [(0, [])], frz := [(2, [], some [1, 58]), (7, [], some [1, 60, 61, 62, 87])] }
  | 109 => { rsh := [[.sc]] }
  | 110 => { rsh := [[.sl [.sc], .sl [.sl [.sc]], .sl [.sc], .sl [.sc], .sc]], loops := [(0, { keep := [2, 3, 22, 23, 24] })], blocks := [(0, [2, 3])], regs := [(1, [16], []), (5, [8, 6], [])] }
  | 111 => { rsh := [[.sl [.sc]]], loops := [(0, { keep := [0, 3, 4] })], blocks := [(0, [3])] }
  | 112 => { rsh := [[.sl [.sl [.sc]]]], loops := [(0, { keep := [0, 3, 4] })], blocks := [(0, [3])] }
  | 113 => { rsh := [[.sc]], loops := [(0, { keep := [1, 43, 44, 45] })], blocks := [(0, [])], frz := [(2, [], some [1, 41]), (7, [], some [1, 4, 5, 43, 44, 45, 56]), (9, [], some [1, 43, 44, 45, 85])] }
  | 114 => { rsh := [[.sc]] }
  | 115 => { rsh := [[.sc]] }
  | 116 => { rsh := [[.sl [.sc], .sl [.sl [.sc]], .sl [.sc], .sl [.sc], .sc]], loops := [(0, { keep := [2, 3, 19, 20, 21] })], blocks := [(0, [2, 3])], regs := [(1, [13], [2, 5, 8]), (5, [7, 5], [3])] }
  | 117 => { rsh := [[.sc]], loops := [(0, { keep := [0, 1, 5] })], blocks := [(0, [])] }
  | 118 => { rsh := [[.sc]], loops := [(0, { keep := [0, 1, 5] })], blocks := [(0, [1])] }
  | 119 => { rsh := [[.sc]], loops := [(0, { keep := [0, 1, 5] })], blocks := [(0, [1])] }
  | 169 => { rsh := [[.sc]] }
  | 174 => { rsh := [[.sc]], loops := [(0, { keep := [1, 2, 9, 10, 11] })], blocks := [(0, [])] }
  | 211 => { rsh := [[.sc]] }
  | 212 => { rsh := [[.sc]] }
  | 213 => { rsh := [[.sl [.sc]]] }
  | 246 => { rsh := [[.sc]], loops := [(0, { keep := [0, 1, 7, 8] })], blocks := [(0, [])] }
  | 260 => { rsh := [[.sc]] }
  | _ => {}
noncomputable def code : FuncId → Option Func := fun f => match f with
  | 3 => some Go.Proofs.Try.f3
  | 15 => some Go.Proofs.Try.f15
  | 16 => some Go.Proofs.Try.f16
  | 17 => some Go.Proofs.Try.f17
  | 18 => some Go.Proofs.Try.f18
  | 19 => some Go.Proofs.Try.f19
  | 20 => some Go.Proofs.Try.f20
  | 21 => some Go.Proofs.Try.f21
  | 24 => some Go.Proofs.Try.f24
  | 25 => some Go.Proofs.Try.f25
  | 26 => some Go.Proofs.Try.f26
  | 106 => some Go.Proofs.Try.f106
  | 107 => some Go.Proofs.Try.f107
  | 108 => some Go.Proofs.Try.f108
  | 109 => some Go.Proofs.Try.f109
  | 110 => some Go.Proofs.Try.f110
  | 111 => some Go.Proofs.Try.f111
  | 112 => some Go.Proofs.Try.f112
  | 113 => some Go.Proofs.Try.f113
  | 114 => some Go.Proofs.Try.f114
  | 115 => some Go.Proofs.Try.f115
  | 116 => some Go.Proofs.Try.f116
  | 117 => some Go.Proofs.Try.f117
  | 118 => some Go.Proofs.Try.f118
  | 119 => some Go.Proofs.Try.f119
  | 169 => some Go.Proofs.Try.f169
  | 174 => some Go.Proofs.Try.f174
  | 211 => some Go.Proofs.Try.f211
  | 212 => some Go.Proofs.Try.f212
  | 246 => some Go.Proofs.Try.f246
  | 260 => some Go.Proofs.Try.f260
  | _ => none
def cids : List (FuncId × Nat × Nat) := [(213, 1, 8)]
noncomputable def C : Ctx := ⟨E, pol, code, cloneExt cids⟩
theorem gC : Good C := clone_good (ids := cids) rfl
theorem cE : C.E = E := rfl
theorem E3 : E 3 = some { sz := 1, agg := false, zero := [AV.int IntKind.i64 0], bytes := 8, und := UD.it IntKind.i64, eqok := true } := rfl
theorem E4 : E 4 = some { sz := 1, agg := false, zero := [AV.bool false], bytes := 1, und := UD.bl, eqok := true } := rfl
theorem E22 : E 22 = some { sz := 1, agg := false, zero := [AV.nil], bytes := 24, und := UD.sl 3, eqok := true } := rfl
theorem E23 : E 23 = some { sz := 1, agg := false, zero := [AV.nil], bytes := 24, und := UD.sl 22, eqok := true } := rfl
theorem E25 : E 25 = some { sz := 5, agg := true, zero := [AV.nil, AV.nil, AV.nil, AV.nil, AV.int IntKind.i64 0], bytes := 104, und := UD.st [(0, 22), (1, 23), (2, 22), (3, 22), (4, 3)], eqok := true } := rfl
theorem E27 : E 27 = some { sz := 5, agg := true, zero := [AV.nil, AV.nil, AV.nil, AV.nil, AV.int IntKind.i64 0], bytes := 104, und := UD.st [(0, 22), (1, 23), (2, 22), (3, 22), (4, 3)], eqok := true } := rfl
theorem E137 : E 137 = some { sz := 1, agg := false, zero := [AV.undef], bytes := 8, und := UD.ot, eqok := true } := rfl
theorem EE : type_of% (And.intro @cE <| And.intro @E3 <| And.intro @E4 <| And.intro @E22 <| And.intro @E23 <| And.intro @E25 <| And.intro @E27 @E137) := And.intro @cE <| And.intro @E3 <| And.intro @E4 <| And.intro @E22 <| And.intro @E23 <| And.intro @E25 <| And.intro @E27 @E137
theorem e_Turns_d (x : Turns) : e_Turns x = .agg [.fz (x.Quanta.map (AV.int .i64)), .fz (x.Queues.map (fzl (AV.int .i64))), .fz (x.Credit.map (AV.int .i64)), .fz (x.Sent.map (AV.int .i64)), .int .i64 x.At] := rfl
theorem EN : type_of% (And.intro @e_Turns_d <| And.intro @fzl_d @killB_n) := And.intro @e_Turns_d <| And.intro @fzl_d @killB_n
def nm_SInt (a : AV) (_x : List Int) : AV := a
abbrev np_SInt (x : List Int) : List Int := x
def nd_SInt (x : List Int) : AV := .own 1 ((np_SInt x).map (AV.int .i64))
theorem nc_SInt (a : AV) (x : List Int) (h : isSl a) : (nm_SInt a x).cells.length = 1 := by
  first | rfl | (show a.cells.length = 1; rw [h.cells]; rfl)
theorem nt_SInt (a : AV) (x : List Int) (H : Heap) (L : List It) (ha : isSl a) (hS : Own H (⟨a, 1, (np_SInt x).map (AV.int .i64)⟩ :: L)) : ∃ H', takeE [.sl [.sc]] (nm_SInt a x) H = some (nd_SInt x, H') ∧ Own H' L :=
  take_sl (fs := [.sc]) (fun _ _ => by simp [takeE, takeT, plainA]) ha hS
theorem nf_SInt (x : List Int) : noFz (nd_SInt x) = true := by
  simp [nd_SInt, noFz, noFzL_map (c := (AV.int .i64)) (fun _ => rfl)]
theorem nh_SInt (x : List Int) (H : Heap) (L : List It) (hS : Own H L) : ∃ a, isSl a ∧ (thawV (nd_SInt x) H).1 = nm_SInt a x ∧ Own (thawV (nd_SInt x) H).2 (⟨a, 1, (np_SInt x).map (AV.int .i64)⟩ :: L) := by
  obtain ⟨a, H1, h1, h2, h3⟩ := th_one (c := (AV.int .i64)) (n := 1) (fun _ _ => rfl) (fun _ => rfl) (np_SInt x) H L hS
  exact ⟨a, h1, by rw [show nd_SInt x = .own 1 ((np_SInt x).map (AV.int .i64)) from rfl, h2]; rfl, by rw [show nd_SInt x = .own 1 ((np_SInt x).map (AV.int .i64)) from rfl, h2]; exact h3⟩
theorem nz_SInt (x : List Int) : frzV (nd_SInt x) = (fzl (AV.int .i64)) x := by
  simp [nd_SInt, frzV, frzL_map (c := (AV.int .i64)) (fun _ => rfl), fzl]
theorem laws_szIntS_w {a0 : List Int} {a1 : Int} {r : (Int)} (h : laws_szIntS a0 a1 = some r) {F : List It} {H : Heap} (hS : Own H (F)) {P : AV → Heap → Prop} (hP : ∀ H', Own H' (F) → P (.int .i64 r) H') : ACall C 106 [.fz (a0.map (AV.int .i64)), .int .i64 a1] H P := by
  refine acall_of gC (res := [.tmp 4]) (n := 12) rfl rfl rfl rfl fun K0 hK0 => ?_
  simp only [W, Nat.reduceSub, Nat.reduceAdd, List.replicate]
  unfold laws_szIntS at h
  refine w_seq fun K1 hK1 => ?_
  refine w_reg gC ?_
  try simp only [W, Nat.reduceAdd]
  refine seq_n hK1 ?_
  refine w_seq fun K2 hK2 => ?_
  refine w_reg gC ?_
  try simp only [W, EE, Nat.reduceAdd]
  refine seq_n hK2 ?_
  refine w_seq fun K3 hK3 => ?_
  refine w_seq fun K4 hK4 => ?_
  refine w_reg gC ?_
  try simp only [W, EE, Nat.reduceAdd]
  refine seq_n hK4 ?_
  refine w_if ?_
  simp only [W]
  refine w_cnd h (fun hc h => ?_) (fun hc h => ?_)
  · refine w_seq fun K5 hK5 => ?_
    refine w_reg gC ?_
    try simp only [W, Nat.reduceAdd]
    refine seq_n hK5 ?_
    refine w_ret ?_
    refine seq_r hK3 ?_
    refine fin_r1 hK0 rfl ?_
    try obtain rfl := Option.some.inj h
    exact hP _ hS
  · refine w_skip ?_
    refine seq_n hK3 ?_
    refine w_seq fun K6 hK6 => ?_
    refine w_reg gC ?_
    try simp only [W, Nat.reduceAdd]
    refine seq_n hK6 ?_
    refine w_ret ?_
    refine fin_r1 hK0 rfl ?_
    try obtain rfl := Option.some.inj h
    exact hP _ hS
theorem laws_szIntSS_w {a0 : List (List Int)} {a1 : Int} {r : (Int)} (h : laws_szIntSS a0 a1 = some r) {F : List It} {H : Heap} (hS : Own H (F)) {P : AV → Heap → Prop} (hP : ∀ H', Own H' (F) → P (.int .i64 r) H') : ACall C 107 [.fz (a0.map (fzl (AV.int .i64))), .int .i64 a1] H P := by
  refine acall_of gC (res := [.tmp 4]) (n := 27) rfl rfl rfl rfl fun K0 hK0 => ?_
  simp only [W, Nat.reduceSub, Nat.reduceAdd, List.replicate]
  unfold laws_szIntSS at h
  refine w_seq fun K1 hK1 => ?_
  refine w_reg gC ?_
  try simp only [W, Nat.reduceAdd]
  refine seq_n hK1 ?_
  refine w_seq fun K2 hK2 => ?_
  refine w_reg gC ?_
  try simp only [W, EE, Nat.reduceAdd]
  refine seq_n hK2 ?_
  refine w_seq fun K3 hK3 => ?_
  refine w_seq fun K4 hK4 => ?_
  refine w_reg gC ?_
  try simp only [W, EE, Nat.reduceAdd]
  refine seq_n hK4 ?_
  refine w_if ?_
  simp only [W]
  refine w_cnd h (fun hc h => ?_) (fun hc h => ?_)
  · refine w_seq fun K5 hK5 => ?_
    refine w_reg gC ?_
    try simp only [W, Nat.reduceAdd]
    refine seq_n hK5 ?_
    refine w_ret ?_
    refine seq_r hK3 ?_
    refine fin_r1 hK0 rfl ?_
    try obtain rfl := Option.some.inj h
    exact hP _ hS
  · refine w_skip ?_
    refine seq_n hK3 ?_
    refine w_seq fun K6 hK6 => ?_
    refine w_seq fun K7 hK7 => ?_
    refine w_reg gC ?_
    try simp only [W, Nat.reduceAdd]
    refine seq_n hK7 ?_
    obtain ⟨y11, hw12, g18⟩ := Option.bind_eq_some_iff.1 h
    refine w_join gC (fun s H => ∃ x10 : Int, y11 = LR.next (x10) ∧ s = [u, .int .i64 x10, u, u, u, u, u, u, u, u, u, u, u, u, u, u, u, u, u, u, u, u, u, u, u, u, u] ∧ Own H (F)) (fun K13 hK13 => ?_) (fun s H hq => ?_)
    · refine w_blk fun K14 hK14 => ?_
      refine w_loop gC hw12 (fun x s H => match x with | (x8, x9) => s = [.fz (a0.map (fzl (AV.int .i64))), .int .i64 x8, u, u, u, .int .i64 x9, u, u, u, u, u, u, u, u, u, u, u, u, u, u, u, u, u, u, u, u, u] ∧ Own H (F)) ⟨rfl, hS⟩ (fun x y17 s H h hd16 hi K15 hK15 => ?_)
      obtain ⟨x8, x9⟩ := x
      try dsimp only at hi
      obtain ⟨rfl, hS⟩ := hi
      simp only [laws_szIntSS_l0] at h
      refine w_seq fun K19 hK19 => ?_
      refine w_seq fun K20 hK20 => ?_
      refine w_reg gC ?_
      try simp only [W, EE, Nat.reduceAdd]
      refine seq_n hK20 ?_
      refine w_if ?_
      simp only [W]
      refine w_cnd h (fun hc h => ?_) (fun hc h => ?_)
      · refine w_skip ?_
        refine seq_n hK19 ?_
        refine w_seq fun K21 hK21 => ?_
        refine w_blk fun K22 hK22 => ?_
        refine w_seq fun K23 hK23 => ?_
        refine w_reg gC ?_
        try simp only [W, EE, Nat.reduceAdd]
        refine w_fz rfl rfl rfl (fun _ => rfl) h fun b24 hb24 h => ?_
        try simp only [W, EE, EN]
        refine w_call h fun b25 hb25 h => ?_
        refine laws_szIntS_w hb25 hS fun H hS => ?_
        try simp only [W]
        refine seq_n hK23 ?_
        refine w_seq fun K26 hK26 => ?_
        refine w_reg gC ?_
        try simp only [W, EE, Nat.reduceAdd]
        refine seq_n hK26 ?_
        refine w_if ?_
        simp only [W]
        refine w_cnd h (fun hc h => ?_) (fun hc h => ?_)
        · refine w_seq fun K27 hK27 => ?_
          refine w_reg gC ?_
          try simp only [W, Nat.reduceAdd]
          refine seq_n hK27 ?_
          refine w_ret ?_
          refine blk_r hK22 ?_
          refine seq_r hK21 ?_
          try obtain rfl := Option.some.inj h
          obtain rfl := hd16 _ rfl
          have h : (some (LR.done (-1)) : Option (LR (Int) (Int))) = some (LR.done (-1)) := rfl
          refine lp_r hK15 ?_
          refine blk_r hK14 ?_
          try obtain rfl := Option.some.inj h
          obtain rfl := Option.some.inj g18
          have h : (some (-1) : Option (Int)) = some (-1) := rfl
          refine cut_r hK13 ?_
          refine seq_r hK6 ?_
          refine fin_r1 hK0 rfl ?_
          try obtain rfl := Option.some.inj h
          exact hP _ hS
        · refine w_skip ?_
          refine blk_n0 hK22 ?_
          refine seq_n hK21 ?_
          refine w_reg gC ?_
          try simp only [W, EE, Nat.reduceAdd]
          exact lp_n hK15 h ⟨rfl, hS⟩
      · refine w_exit ?_
        refine seq_x hK19 ?_
        try obtain rfl := Option.some.inj h
        obtain rfl := hd16 _ rfl
        have h : (some (LR.next (x8)) : Option (LR (Int) (Int))) = some (LR.next (x8)) := rfl
        refine lp_x hK15 ?_
        refine blk_e hK14 ?_
        exact cut_n hK13 ⟨_, (Option.some.inj h).symm, rfl, hS⟩
    · obtain ⟨x10, ey, rfl, hS⟩ := hq; obtain rfl := ey.symm
      replace h := g18
      try dsimp only at h
      refine seq_n hK6 ?_
      refine w_seq fun K34 hK34 => ?_
      refine w_reg gC ?_
      try simp only [W, Nat.reduceAdd]
      refine seq_n hK34 ?_
      refine w_ret ?_
      refine fin_r1 hK0 rfl ?_
      try obtain rfl := Option.some.inj h
      exact hP _ hS
theorem laws_szTurns_w {a0 : Turns} {a1 : Int} {r : (Int)} (h : laws_szTurns a0 a1 = some r) {F : List It} {H : Heap} (hS : Own H (F)) {P : AV → Heap → Prop} (hP : ∀ H', Own H' (F) → P (.int .i64 r) H') : ACall C 15 [.agg [.fz (a0.Quanta.map (AV.int .i64)), .fz (a0.Queues.map (fzl (AV.int .i64))), .fz (a0.Credit.map (AV.int .i64)), .fz (a0.Sent.map (AV.int .i64)), .int .i64 a0.At], .int .i64 a1] H P := by
  refine acall_of gC (res := [.tmp 4]) (n := 30) rfl rfl rfl rfl fun K0 hK0 => ?_
  simp only [W, Nat.reduceSub, Nat.reduceAdd, List.replicate]
  unfold laws_szTurns at h
  refine w_seq fun K1 hK1 => ?_
  refine w_reg gC ?_
  try simp only [W, Nat.reduceAdd]
  refine w_box hS rfl rfl rfl rfl fun ip2 wp2 H hS => ?_
  try simp only [W]
  refine seq_n hK1 ?_
  refine w_seq fun K4 hK4 => ?_
  refine w_reg gC ?_
  try simp only [W, EE, Nat.reduceAdd, Nat.reduceBEq, hS.var 0 rfl]
  refine w_call h fun b5 hb5 h => ?_
  refine laws_szIntS_w hb5 hS fun H hS => ?_
  try simp only [W]
  refine seq_n hK4 ?_
  refine w_seq fun K6 hK6 => ?_
  refine w_seq fun K7 hK7 => ?_
  refine w_reg gC ?_
  try simp only [W, EE, Nat.reduceAdd]
  refine seq_n hK7 ?_
  refine w_if ?_
  simp only [W]
  refine w_cnd h (fun hc h => ?_) (fun hc h => ?_)
  · refine w_seq fun K8 hK8 => ?_
    refine w_reg gC ?_
    try simp only [W, Nat.reduceAdd]
    refine seq_n hK8 ?_
    refine w_ret ?_
    refine seq_r hK6 ?_
    refine fin_r1 hK0 rfl ?_
    try obtain rfl := Option.some.inj h
    exact hP _ (hS.sel 1 [] (by decide))
  · refine w_skip ?_
    refine seq_n hK6 ?_
    refine w_seq fun K9 hK9 => ?_
    refine w_reg gC ?_
    try simp only [W, EE, Nat.reduceAdd, Nat.reduceBEq, hS.var 0 rfl]
    refine w_call h fun b10 hb10 h => ?_
    refine laws_szIntSS_w hb10 hS fun H hS => ?_
    try simp only [W]
    refine seq_n hK9 ?_
    refine w_seq fun K11 hK11 => ?_
    refine w_seq fun K12 hK12 => ?_
    refine w_reg gC ?_
    try simp only [W, EE, Nat.reduceAdd]
    refine seq_n hK12 ?_
    refine w_if ?_
    simp only [W]
    refine w_cnd h (fun hc h => ?_) (fun hc h => ?_)
    · refine w_seq fun K13 hK13 => ?_
      refine w_reg gC ?_
      try simp only [W, Nat.reduceAdd]
      refine seq_n hK13 ?_
      refine w_ret ?_
      refine seq_r hK11 ?_
      refine fin_r1 hK0 rfl ?_
      try obtain rfl := Option.some.inj h
      exact hP _ (hS.sel 1 [] (by decide))
    · refine w_skip ?_
      refine seq_n hK11 ?_
      refine w_seq fun K14 hK14 => ?_
      refine w_reg gC ?_
      try simp only [W, EE, Nat.reduceAdd, Nat.reduceBEq, hS.var 0 rfl]
      refine w_call h fun b15 hb15 h => ?_
      refine laws_szIntS_w hb15 hS fun H hS => ?_
      try simp only [W]
      refine seq_n hK14 ?_
      refine w_seq fun K16 hK16 => ?_
      refine w_seq fun K17 hK17 => ?_
      refine w_reg gC ?_
      try simp only [W, EE, Nat.reduceAdd]
      refine seq_n hK17 ?_
      refine w_if ?_
      simp only [W]
      refine w_cnd h (fun hc h => ?_) (fun hc h => ?_)
      · refine w_seq fun K18 hK18 => ?_
        refine w_reg gC ?_
        try simp only [W, Nat.reduceAdd]
        refine seq_n hK18 ?_
        refine w_ret ?_
        refine seq_r hK16 ?_
        refine fin_r1 hK0 rfl ?_
        try obtain rfl := Option.some.inj h
        exact hP _ (hS.sel 1 [] (by decide))
      · refine w_skip ?_
        refine seq_n hK16 ?_
        refine w_seq fun K19 hK19 => ?_
        refine w_reg gC ?_
        try simp only [W, EE, Nat.reduceAdd, Nat.reduceBEq, hS.var 0 rfl]
        refine w_call h fun b20 hb20 h => ?_
        refine laws_szIntS_w hb20 hS fun H hS => ?_
        try simp only [W]
        refine seq_n hK19 ?_
        refine w_seq fun K21 hK21 => ?_
        refine w_seq fun K22 hK22 => ?_
        refine w_reg gC ?_
        try simp only [W, EE, Nat.reduceAdd]
        refine seq_n hK22 ?_
        refine w_if ?_
        simp only [W]
        refine w_cnd h (fun hc h => ?_) (fun hc h => ?_)
        · refine w_seq fun K23 hK23 => ?_
          refine w_reg gC ?_
          try simp only [W, Nat.reduceAdd]
          refine seq_n hK23 ?_
          refine w_ret ?_
          refine seq_r hK21 ?_
          refine fin_r1 hK0 rfl ?_
          try obtain rfl := Option.some.inj h
          exact hP _ (hS.sel 1 [] (by decide))
        · refine w_skip ?_
          refine seq_n hK21 ?_
          refine w_seq fun K24 hK24 => ?_
          refine w_reg gC ?_
          try simp only [W, Nat.reduceAdd]
          refine seq_n hK24 ?_
          refine w_ret ?_
          refine fin_r1 hK0 rfl ?_
          try obtain rfl := Option.some.inj h
          exact hP _ (hS.sel 1 [] (by decide))
theorem laws_toIntS_w {a0 : List Int} {r : (List Int)} (h : laws_toIntS a0 = some r) {F : List It} {H : Heap} (hS : Own H (F)) {P : AV → Heap → Prop} (hP : ∀ v29 : AV, isSl v29 → ∀ H', Own H' (⟨v29, 1, r.map (AV.int .i64)⟩ :: F) → P (v29) H') : ACall C 111 [.fz (a0.map (AV.int .i64))] H P := by
  refine acall_of gC (res := [.tmp 2]) (n := 22) rfl rfl rfl rfl fun K0 hK0 => ?_
  simp only [W, Nat.reduceSub, Nat.reduceAdd, List.replicate]
  unfold laws_toIntS at h
  refine w_seq fun K1 hK1 => ?_
  refine w_reg gC ?_
  try simp only [W, Nat.reduceAdd]
  refine seq_n hK1 ?_
  refine w_seq fun K2 hK2 => ?_
  refine w_reg gC ?_
  try simp only [W, EE, Nat.reduceAdd]
  refine w_make (c := (AV.int .i64)) hS rfl rfl rfl rfl rfl rfl h fun v3 H x5 qv3 hm h hS => ?_
  try simp only [W]
  refine seq_n hK2 ?_
  refine w_seq fun K6 hK6 => ?_
  refine w_seq fun K7 hK7 => ?_
  refine w_reg gC ?_
  try simp only [W, Nat.reduceAdd]
  refine seq_n hK7 ?_
  obtain ⟨y11, hw12, g18⟩ := Option.bind_eq_some_iff.1 h
  refine w_join gC (fun s H => ∃ x10 : List Int, y11 = (x10) ∧ s = [u, u, u, v3, u, u, u, u, u, u, u, u, u, u, u, u, u, u, u, u, u, u] ∧ Own H (⟨v3, 1, x10.map (AV.int .i64)⟩ :: F)) (fun K13 hK13 => ?_) (fun s H hq => ?_)
  · refine w_blk fun K14 hK14 => ?_
    refine w_loop gC hw12 (fun x s H => match x with | (x8, x9) => s = [.fz (a0.map (AV.int .i64)), u, u, v3, .int .i64 x9, u, u, u, u, u, u, u, u, u, u, u, u, u, u, u, u, u] ∧ Own H (⟨v3, 1, x8.map (AV.int .i64)⟩ :: F)) ⟨rfl, hS⟩ (fun x y17 s H h hd16 hi K15 hK15 => ?_)
    obtain ⟨x8, x9⟩ := x
    try dsimp only at hi
    obtain ⟨rfl, hS⟩ := hi
    simp only [laws_toIntS_l0] at h
    refine w_seq fun K19 hK19 => ?_
    refine w_seq fun K20 hK20 => ?_
    refine w_reg gC ?_
    try simp only [W, EE, Nat.reduceAdd]
    refine seq_n hK20 ?_
    refine w_if ?_
    simp only [W]
    refine w_cnd h (fun hc h => ?_) (fun hc h => ?_)
    · refine w_skip ?_
      refine seq_n hK19 ?_
      refine w_seq fun K21 hK21 => ?_
      refine w_blk fun K22 hK22 => ?_
      refine w_reg gC ?_
      try simp only [W, EE, Nat.reduceAdd]
      refine w_fz rfl rfl rfl (fun _ => rfl) h fun b23 hb23 h => ?_
      try simp only [W, EE]
      refine w_ow 0 hS rfl rfl rfl rfl rfl h (fun b24 in25 wn25 on25 hb24 h en25 => ?_) qv3.ne
      obtain ⟨kn25, hbn25, hen25⟩ := hS.elem 0 rfl en25 hb24
      try simp only [W]
      refine w_ste (a := .int .i64 b23) (y' := b23) 0 hS rfl en25 hb24 rfl rfl rfl rfl rfl rfl rfl fun H hS => ?_
      try simp only [W]
      refine blk_n0 hK22 ?_
      refine seq_n hK21 ?_
      refine w_reg gC ?_
      try simp only [W, EE, Nat.reduceAdd]
      exact lp_n hK15 h ⟨rfl, hS⟩
    · refine w_exit ?_
      refine seq_x hK19 ?_
      try obtain rfl := Option.some.inj h
      obtain rfl := hd16 _ rfl
      have h : (some (x8) : Option ((List Int))) = some (x8) := rfl
      refine lp_x hK15 ?_
      refine blk_e hK14 ?_
      exact cut_n hK13 ⟨_, (Option.some.inj h).symm, rfl, hS⟩
  · obtain ⟨x10, ey, rfl, hS⟩ := hq; obtain rfl := ey.symm
    replace h := g18
    try dsimp only at h
    refine seq_n hK6 ?_
    refine w_seq fun K28 hK28 => ?_
    refine w_reg gC ?_
    try simp only [W, Nat.reduceAdd]
    refine seq_n hK28 ?_
    refine w_ret ?_
    refine fin_r1 hK0 rfl ?_
    try obtain rfl := Option.some.inj h
    exact hP _ qv3 _ hS
theorem laws_toIntSS_w {a0 : List (List Int)} {r : (List (List Int))} (h : laws_toIntSS a0 = some r) {F : List It} {H : Heap} (hS : Own H (F)) {P : AV → Heap → Prop} (hP : ∀ v39 : AV, isSl v39 → ∀ d41 : List AV, isSls d41 (r).length → ∀ H', Own H' (⟨v39, 1, ouw nm_SInt d41 r⟩ :: ((inn np_SInt (AV.int .i64) 1 d41 r) ++ F)) → P (v39) H') : ACall C 112 [.fz (a0.map (fzl (AV.int .i64)))] H P := by
  refine acall_of gC (res := [.tmp 2]) (n := 23) rfl rfl rfl rfl fun K0 hK0 => ?_
  simp only [W, Nat.reduceSub, Nat.reduceAdd, List.replicate]
  unfold laws_toIntSS at h
  refine w_seq fun K1 hK1 => ?_
  refine w_reg gC ?_
  try simp only [W, Nat.reduceAdd]
  refine seq_n hK1 ?_
  refine w_seq fun K2 hK2 => ?_
  refine w_reg gC ?_
  try simp only [W, EE, Nat.reduceAdd]
  refine w_makeN (m := nm_SInt) (p := np_SInt) (c := (AV.int .i64)) (z := 1) hS rfl rfl rfl rfl rfl rfl rfl h fun v3 H x5 d6 qv3 qd6 hm h hS => ?_
  have hS : Own _ (⟨v3, 1, ouw nm_SInt d6 x5⟩ :: ((inn np_SInt (AV.int .i64) 1 d6 x5) ++ (F))) := hS
  try simp only [W]
  refine seq_n hK2 ?_
  refine w_seq fun K7 hK7 => ?_
  refine w_seq fun K8 hK8 => ?_
  refine w_reg gC ?_
  try simp only [W, Nat.reduceAdd]
  refine seq_n hK8 ?_
  obtain ⟨y15, hw16, g22⟩ := Option.bind_eq_some_iff.1 h
  refine w_join gC (fun s H => ∃ x13 : List (List Int), y15 = (x13) ∧ ∃ d14 : List AV, isSls d14 (x13).length ∧ s = [u, u, u, v3, u, u, u, u, u, u, u, u, u, u, u, u, u, u, u, u, u, u, u] ∧ Own H (⟨v3, 1, ouw nm_SInt d14 x13⟩ :: ((inn np_SInt (AV.int .i64) 1 d14 x13) ++ F))) (fun K17 hK17 => ?_) (fun s H hq => ?_)
  · refine w_blk fun K18 hK18 => ?_
    refine w_loop gC hw16 (fun x s H => match x with | (x10, x12) => ∃ d11 : List AV, isSls d11 (x10).length ∧ s = [.fz (a0.map (fzl (AV.int .i64))), u, u, v3, .int .i64 x12, u, u, u, u, u, u, u, u, u, u, u, u, u, u, u, u, u, u] ∧ Own H (⟨v3, 1, ouw nm_SInt d11 x10⟩ :: ((inn np_SInt (AV.int .i64) 1 d11 x10) ++ F))) ⟨_, qd6, rfl, hS⟩ (fun x y21 s H h hd20 hi K19 hK19 => ?_)
    obtain ⟨x10, x12⟩ := x
    try dsimp only at hi
    obtain ⟨d11, qd11, rfl, hS⟩ := hi
    simp only [laws_toIntSS_l0] at h
    refine w_seq fun K23 hK23 => ?_
    refine w_seq fun K24 hK24 => ?_
    refine w_reg gC ?_
    try simp only [W, EE, Nat.reduceAdd]
    refine seq_n hK24 ?_
    refine w_if ?_
    simp only [W]
    refine w_cnd h (fun hc h => ?_) (fun hc h => ?_)
    · refine w_skip ?_
      refine seq_n hK23 ?_
      refine w_seq fun K25 hK25 => ?_
      refine w_blk fun K26 hK26 => ?_
      refine w_reg gC ?_
      try simp only [W, EE, Nat.reduceAdd]
      refine w_fz rfl rfl rfl (fun _ => rfl) h fun b27 hb27 h => ?_
      try simp only [W, EE, EN]
      refine w_call h fun b28 hb28 h => ?_
      refine laws_toIntS_w hb28 hS fun v29 qv29 H hS => ?_
      try simp only [W, EE]
      obtain ⟨b32, hb32, h⟩ := Option.bind_eq_some_iff.1 h
      have hS : Own _ (⟨v3, 1, ouw nm_SInt d11 x10⟩ :: ((inn np_SInt (AV.int .i64) 1 d11 x10) ++ (⟨v29, 1, b28.map (AV.int .i64)⟩ :: F))) := Own.catI_ (bl := [[⟨v29, 1, b28.map (AV.int .i64)⟩], [⟨v3, 1, ouw nm_SInt d11 x10⟩], (inn np_SInt (AV.int .i64) 1 d11 x10)]) (F := F) hS 3 rfl [1, 2, 0] (by decide)
      obtain ⟨v33, qv33, hS⟩ := openN (p := np_SInt) (c := (AV.int .i64)) (m := nm_SInt) (b := b32) hS qd11 hb32
      have hS : Own _ (⟨v33, 1, b32.map (AV.int .i64)⟩ :: ⟨v29, 1, b28.map (AV.int .i64)⟩ :: ⟨v3, 1, (ouw nm_SInt d11 x10).set x12.toNat (v33)⟩ :: ((inx np_SInt (AV.int .i64) 1 d11 x10 x12.toNat) ++ (F))) := Own.catI_ (bl := [[⟨v33, 1, b32.map (AV.int .i64)⟩], [⟨v3, 1, (ouw nm_SInt d11 x10).set x12.toNat (v33)⟩], (inx np_SInt (AV.int .i64) 1 d11 x10 x12.toNat), [⟨v29, 1, b28.map (AV.int .i64)⟩]]) (F := F) hS 4 rfl [0, 3, 1, 2] (by decide)
      refine w_owE (x := v33) 2 hS rfl rfl rfl rfl rfl (idx_some hb32).1 (holeG qd11 hb32) qv3 (fun in31 wn31 on31 en31 hkn31 => ?_)
      obtain ⟨kn31, hbn31, hen31⟩ := hkn31
      try simp only [W]
      refine w_stE (a := v29) (y' := v29) (i := x12.toNat) 2 hS rfl en31 (holeG qd11 hb32) rfl rfl rfl (by rw [qv29.cells]; rfl) qv29.stora (qv29.wr2 qv33) (by first | rfl | (rw [qv29.cells]; rfl)) (List.set_set ..) fun H hS => ?_
      try simp only [W]
      refine blk_n0 hK26 ?_
      refine seq_n hK25 ?_
      refine w_reg gC ?_
      try simp only [W, EE, Nat.reduceAdd]
      have hS : Own _ (⟨v29, 1, b28.map (AV.int .i64)⟩ :: ⟨v3, 1, (ouw nm_SInt d11 x10).set x12.toNat (v29)⟩ :: ((inx np_SInt (AV.int .i64) 1 d11 x10 x12.toNat) ++ (⟨v33, 1, b32.map (AV.int .i64)⟩ :: F))) := Own.catI_ (bl := [[⟨v33, 1, b32.map (AV.int .i64)⟩], [⟨v29, 1, b28.map (AV.int .i64)⟩], [⟨v3, 1, (ouw nm_SInt d11 x10).set x12.toNat (v29)⟩], (inx np_SInt (AV.int .i64) 1 d11 x10 x12.toNat)]) (F := F) hS 4 rfl [1, 2, 3, 0] (by decide)
      obtain ⟨d35, qd35, hS⟩ := closeN (p := np_SInt) (c := (AV.int .i64)) (m := nm_SInt) (b := b32) (y := b28) hS qd11 qv29 hb32
      have hS : Own _ (⟨v33, 1, b32.map (AV.int .i64)⟩ :: ⟨v3, 1, ouw nm_SInt d35 (x10.set x12.toNat b28)⟩ :: ((inn np_SInt (AV.int .i64) 1 d35 (x10.set x12.toNat b28)) ++ (F))) := Own.catI_ (bl := [[⟨v3, 1, ouw nm_SInt d35 (x10.set x12.toNat b28)⟩], (inn np_SInt (AV.int .i64) 1 d35 (x10.set x12.toNat b28)), [⟨v33, 1, b32.map (AV.int .i64)⟩]]) (F := F) hS 3 rfl [2, 0, 1] (by decide)
      have hS : Own _ (⟨v3, 1, ouw nm_SInt d35 (x10.set x12.toNat b28)⟩ :: ((inn np_SInt (AV.int .i64) 1 d35 (x10.set x12.toNat b28)) ++ (F))) := Own.catI_ (bl := [[⟨v33, 1, b32.map (AV.int .i64)⟩], [⟨v3, 1, ouw nm_SInt d35 (x10.set x12.toNat b28)⟩], (inn np_SInt (AV.int .i64) 1 d35 (x10.set x12.toNat b28))]) (F := F) hS 3 rfl [1, 2] (by decide)
      exact lp_n hK19 h ⟨_, qd35, rfl, hS⟩
    · refine w_exit ?_
      refine seq_x hK23 ?_
      try obtain rfl := Option.some.inj h
      obtain rfl := hd20 _ rfl
      have h : (some (x10) : Option ((List (List Int)))) = some (x10) := rfl
      refine lp_x hK19 ?_
      refine blk_e hK18 ?_
      exact cut_n hK17 ⟨_, (Option.some.inj h).symm, _, qd11, rfl, hS⟩
  · obtain ⟨x13, ey, d14, qd14, rfl, hS⟩ := hq; obtain rfl := ey.symm
    replace h := g22
    try dsimp only at h
    refine seq_n hK7 ?_
    refine w_seq fun K38 hK38 => ?_
    refine w_reg gC ?_
    try simp only [W, Nat.reduceAdd]
    refine seq_n hK38 ?_
    refine w_ret ?_
    refine fin_r1 hK0 rfl ?_
    try obtain rfl := Option.some.inj h
    exact hP _ qv3 _ qd14 _ hS
theorem laws_toTurns_w {a0 : Turns} {r : (Turns)} (h : laws_toTurns a0 = some r) {F : List It} {H : Heap} (hS : Own H (F)) {P : AV → Heap → Prop} (hP : ∀ v28 : AV, isSl v28 → ∀ v30 : AV, isSl v30 → ∀ d32 : List AV, isSls d32 (r.Queues).length → ∀ v33 : AV, isSl v33 → ∀ v35 : AV, isSl v35 → ∀ H', Own H' (⟨v28, 1, r.Quanta.map (AV.int .i64)⟩ :: ⟨v30, 1, ouw nm_SInt d32 r.Queues⟩ :: ⟨v33, 1, r.Credit.map (AV.int .i64)⟩ :: ⟨v35, 1, r.Sent.map (AV.int .i64)⟩ :: ((inn np_SInt (AV.int .i64) 1 d32 r.Queues) ++ F)) → P (.agg [v28, v30, v33, v35, .int .i64 r.At]) H') : ACall C 17 [.agg [.fz (a0.Quanta.map (AV.int .i64)), .fz (a0.Queues.map (fzl (AV.int .i64))), .fz (a0.Credit.map (AV.int .i64)), .fz (a0.Sent.map (AV.int .i64)), .int .i64 a0.At]] H P := by
  refine acall_of gC (res := [.cell 2 27]) (n := 24) rfl rfl rfl rfl fun K0 hK0 => ?_
  simp only [W, Nat.reduceSub, Nat.reduceAdd, List.replicate]
  unfold laws_toTurns at h
  refine w_seq fun K1 hK1 => ?_
  refine w_reg gC ?_
  try simp only [W, Nat.reduceAdd]
  refine w_box hS rfl rfl rfl rfl fun ip2 wp2 H hS => ?_
  try simp only [W]
  refine w_alloc hS rfl rfl fun ip4 wp4 H hS => ?_
  try simp only [W]
  refine seq_n hK1 ?_
  refine w_seq fun K6 hK6 => ?_
  refine w_reg gC ?_
  try simp only [W, Nat.reduceAdd]
  refine w_alloc hS rfl rfl fun ip7 wp7 H hS => ?_
  try simp only [W]
  refine seq_n hK6 ?_
  refine w_seq fun K9 hK9 => ?_
  refine w_reg gC ?_
  try simp only [W, EE, Nat.reduceAdd, Nat.reduceBEq, hS.var 2 rfl]
  refine w_call h fun b10 hb10 h => ?_
  refine laws_toIntS_w hb10 hS fun v11 qv11 H hS => ?_
  try simp only [W, EE, Nat.reduceAdd, Nat.reduceBEq, hS.var 1 rfl]
  refine w_stv (a := v11) (y' := .agg [v11, .nil, .nil, .nil, .int .i64 0]) 1 hS rfl rfl rfl rfl (by rw [qv11.cells]; rfl) qv11.stora (qv11.wr _ _ (by simp)) rfl fun H hS => ?_
  try simp only [W]
  refine seq_n hK9 ?_
  refine w_seq fun K13 hK13 => ?_
  refine w_reg gC ?_
  try simp only [W, EE, Nat.reduceAdd, Nat.reduceBEq, hS.var 3 rfl]
  refine w_call h fun b14 hb14 h => ?_
  refine laws_toIntSS_w hb14 hS fun v15 qv15 d17 qd17 H hS => ?_
  have hS : Own _ (⟨v15, 1, ouw nm_SInt d17 b14⟩ :: ⟨v11, 1, b10.map (AV.int .i64)⟩ :: ⟨.ptr ip7 wp7 0 0, 5, [.agg [v11, .nil, .nil, .nil, .int .i64 0]]⟩ :: ⟨.ptr ip4 wp4 0 0, 5, [.agg [.nil, .nil, .nil, .nil, .int .i64 0]]⟩ :: ⟨.ptr ip2 wp2 0 0, 5, [.agg [.fz (a0.Quanta.map (AV.int .i64)), .fz (a0.Queues.map (fzl (AV.int .i64))), .fz (a0.Credit.map (AV.int .i64)), .fz (a0.Sent.map (AV.int .i64)), .int .i64 a0.At]]⟩ :: ((inn np_SInt (AV.int .i64) 1 d17 b14) ++ (F))) := Own.catI_ (bl := [[⟨v15, 1, ouw nm_SInt d17 b14⟩], (inn np_SInt (AV.int .i64) 1 d17 b14), [⟨v11, 1, b10.map (AV.int .i64)⟩], [⟨.ptr ip7 wp7 0 0, 5, [.agg [v11, .nil, .nil, .nil, .int .i64 0]]⟩], [⟨.ptr ip4 wp4 0 0, 5, [.agg [.nil, .nil, .nil, .nil, .int .i64 0]]⟩], [⟨.ptr ip2 wp2 0 0, 5, [.agg [.fz (a0.Quanta.map (AV.int .i64)), .fz (a0.Queues.map (fzl (AV.int .i64))), .fz (a0.Credit.map (AV.int .i64)), .fz (a0.Sent.map (AV.int .i64)), .int .i64 a0.At]]⟩]]) (F := F) hS 6 rfl [0, 2, 3, 4, 5, 1] (by decide)
  try simp only [W, EE, Nat.reduceAdd, Nat.reduceBEq, hS.var 2 rfl]
  refine w_stv (a := v15) (y' := .agg [v11, v15, .nil, .nil, .int .i64 0]) 2 hS rfl rfl rfl rfl (by rw [qv15.cells]; rfl) qv15.stora (qv15.wr _ _ (by simp)) rfl fun H hS => ?_
  try simp only [W]
  refine seq_n hK13 ?_
  refine w_seq fun K18 hK18 => ?_
  refine w_reg gC ?_
  try simp only [W, EE, Nat.reduceAdd, Nat.reduceBEq, hS.var 4 rfl]
  refine w_call h fun b19 hb19 h => ?_
  refine laws_toIntS_w hb19 hS fun v20 qv20 H hS => ?_
  try simp only [W, EE, Nat.reduceAdd, Nat.reduceBEq, hS.var 3 rfl]
  refine w_stv (a := v20) (y' := .agg [v11, v15, v20, .nil, .int .i64 0]) 3 hS rfl rfl rfl rfl (by rw [qv20.cells]; rfl) qv20.stora (qv20.wr _ _ (by simp)) rfl fun H hS => ?_
  try simp only [W]
  refine seq_n hK18 ?_
  refine w_seq fun K22 hK22 => ?_
  refine w_reg gC ?_
  try simp only [W, EE, Nat.reduceAdd, Nat.reduceBEq, hS.var 5 rfl]
  refine w_call h fun b23 hb23 h => ?_
  refine laws_toIntS_w hb23 hS fun v24 qv24 H hS => ?_
  try simp only [W, EE, Nat.reduceAdd, Nat.reduceBEq, hS.var 4 rfl]
  refine w_stv (a := v24) (y' := .agg [v11, v15, v20, v24, .int .i64 0]) 4 hS rfl rfl rfl rfl (by rw [qv24.cells]; rfl) qv24.stora (qv24.wr _ _ (by simp)) rfl fun H hS => ?_
  try simp only [W]
  refine seq_n hK22 ?_
  refine w_seq fun K26 hK26 => ?_
  refine w_reg gC ?_
  try simp only [W, EE, Nat.reduceAdd, Nat.reduceBEq, hS.var 6 rfl, hS.var 4 rfl]
  refine w_stv (a := .int .i64 a0.At) (y' := .agg [v11, v15, v20, v24, .int .i64 a0.At]) 4 hS rfl rfl rfl rfl rfl rfl rfl rfl fun H hS => ?_
  try simp only [W]
  refine seq_n hK26 ?_
  refine w_seq fun K27 hK27 => ?_
  refine w_reg gC ?_
  try simp only [W, EE, reduceIte, Nat.reduceAdd, Nat.reduceLeDiff, hS.var 4 rfl]
  refine w_stv (a := .agg [v11, v15, v20, v24, .int .i64 a0.At]) (y' := .agg [v11, v15, v20, v24, .int .i64 a0.At]) 5 hS rfl rfl rfl rfl rfl (by simp only [storA, List.all_cons, List.all_nil, qv11.stor, qv15.stor, qv20.stor, qv24.stor]; rfl) rfl rfl fun H hS => ?_
  try simp only [W]
  refine seq_n hK27 ?_
  refine w_ret ?_
  refine fin_r hK0 (res_c rfl rfl (hS.var 5 rfl) rfl rfl) ?_
  try obtain rfl := Option.some.inj h
  have hS : Own _ (⟨v11, 1, b10.map (AV.int .i64)⟩ :: ⟨v15, 1, ouw nm_SInt d17 b14⟩ :: ⟨v20, 1, b19.map (AV.int .i64)⟩ :: ⟨v24, 1, b23.map (AV.int .i64)⟩ :: ((inn np_SInt (AV.int .i64) 1 d17 b14) ++ (F))) := Own.catI_ (bl := [[⟨v24, 1, b23.map (AV.int .i64)⟩], [⟨v20, 1, b19.map (AV.int .i64)⟩], [⟨v15, 1, ouw nm_SInt d17 b14⟩], [⟨v11, 1, b10.map (AV.int .i64)⟩], [⟨.ptr ip7 wp7 0 0, 5, [.agg [v11, v15, v20, v24, .int .i64 a0.At]]⟩], [⟨.ptr ip4 wp4 0 0, 5, [.agg [v11, v15, v20, v24, .int .i64 a0.At]]⟩], [⟨.ptr ip2 wp2 0 0, 5, [.agg [.fz (a0.Quanta.map (AV.int .i64)), .fz (a0.Queues.map (fzl (AV.int .i64))), .fz (a0.Credit.map (AV.int .i64)), .fz (a0.Sent.map (AV.int .i64)), .int .i64 a0.At]]⟩], (inn np_SInt (AV.int .i64) 1 d17 b14)]) (F := F) hS 8 rfl [3, 2, 1, 0, 7] (by decide)
  exact hP _ qv11 _ qv15 _ qd17 _ qv20 _ qv24 _ hS
theorem spec_l1In_w {a0 : Int} {a1 : Int} {a2 : Int} {r : (Bool)} (h : spec_l1In a0 a1 a2 = some r) {F : List It} {H : Heap} (hS : Own H (F)) {P : AV → Heap → Prop} (hP : ∀ H', Own H' (F) → P (.bool r) H') : ACall C 109 [.int .i64 a0, .int .i64 a1, .int .i64 a2] H P := by
  refine acall_of gC (res := [.tmp 6]) (n := 15) rfl rfl rfl rfl fun K0 hK0 => ?_
  simp only [W, Nat.reduceSub, Nat.reduceAdd, List.replicate]
  unfold spec_l1In at h
  refine w_seq fun K1 hK1 => ?_
  refine w_reg gC ?_
  try simp only [W, Nat.reduceAdd]
  refine seq_n hK1 ?_
  refine w_seq fun K2 hK2 => ?_
  refine w_reg gC ?_
  try simp only [W, EE, Nat.reduceAdd]
  refine w_grdT h (fun hc h => ?_) (fun hc h => ?_)
  · try simp only [W, EE, reduceIte, hc]
    refine seq_n hK2 ?_
    refine w_ret ?_
    refine fin_r1 hK0 rfl ?_
    try obtain rfl := Option.some.inj h
    exact hP _ hS
  · try simp only [W, hc]
    refine seq_n hK2 ?_
    refine w_ret ?_
    refine fin_r1 hK0 rfl ?_
    try obtain rfl := Option.some.inj h
    exact hP _ hS
theorem spec_l1All_w {a0 : List Int} {a1 : Int} {a2 : Int} {r : (Bool)} (h : spec_l1All a0 a1 a2 = some r) {F : List It} {H : Heap} (hS : Own H (F)) {P : AV → Heap → Prop} (hP : ∀ H', Own H' (F) → P (.bool r) H') : ACall C 174 [.fz (a0.map (AV.int .i64)), .int .i64 a1, .int .i64 a2] H P := by
  refine acall_of gC (res := [.tmp 6]) (n := 21) rfl rfl rfl rfl fun K0 hK0 => ?_
  simp only [W, Nat.reduceSub, Nat.reduceAdd, List.replicate]
  unfold spec_l1All at h
  refine w_seq fun K1 hK1 => ?_
  refine w_reg gC ?_
  try simp only [W, Nat.reduceAdd]
  refine seq_n hK1 ?_
  refine w_seq fun K2 hK2 => ?_
  refine w_seq fun K3 hK3 => ?_
  refine w_reg gC ?_
  try simp only [W, EE, Nat.reduceAdd]
  refine seq_n hK3 ?_
  obtain ⟨y5, hw6, g12⟩ := Option.bind_eq_some_iff.1 h
  refine w_join gC (fun s H => y5 = LR.next () ∧ s = [u, u, u, u, u, u, u, u, u, u, u, u, u, u, u, u, u, u, u, u, u] ∧ Own H (F)) (fun K7 hK7 => ?_) (fun s H hq => ?_)
  · refine w_blk fun K8 hK8 => ?_
    refine w_loop gC hw6 (fun x s H => s = [u, .int .i64 a1, .int .i64 a2, u, u, u, u, u, u, .fz (a0.map (AV.int .i64)), .int .i64 (a0.length : Int), .int .i64 x, u, u, u, u, u, u, u, u, u] ∧ Own H (F)) ⟨rfl, hS⟩ (fun x4 y11 s H h hd10 hi K9 hK9 => ?_)
    skip
    try dsimp only at hi
    obtain ⟨rfl, hS⟩ := hi
    simp only [spec_l1All_l0] at h
    refine w_seq fun K13 hK13 => ?_
    refine w_reg gC ?_
    try simp only [W, EE, Nat.reduceAdd]
    refine seq_n hK13 ?_
    refine w_seq fun K14 hK14 => ?_
    refine w_if ?_
    simp only [W]
    refine w_cnd h (fun hc h => ?_) (fun hc h => ?_)
    · refine w_skip ?_
      refine seq_n hK14 ?_
      refine w_seq fun K15 hK15 => ?_
      refine w_blk fun K16 hK16 => ?_
      refine w_seq fun K17 hK17 => ?_
      refine w_reg gC ?_
      try simp only [W, EE, Nat.reduceAdd]
      refine w_fz rfl rfl rfl (fun _ => rfl) h fun b18 hb18 h => ?_
      try simp only [W, EE]
      refine seq_n hK17 ?_
      refine w_seq fun K19 hK19 => ?_
      refine w_reg gC ?_
      try simp only [W, Nat.reduceAdd]
      refine w_call h fun b20 hb20 h => ?_
      refine spec_l1In_w hb20 hS fun H hS => ?_
      try simp only [W]
      refine seq_n hK19 ?_
      refine w_if ?_
      simp only [W]
      refine w_cnd h (fun hc h => ?_) (fun hc h => ?_)
      · refine w_seq fun K21 hK21 => ?_
        refine w_reg gC ?_
        try simp only [W, Nat.reduceAdd]
        refine seq_n hK21 ?_
        refine w_ret ?_
        refine blk_r hK16 ?_
        refine seq_r hK15 ?_
        try obtain rfl := Option.some.inj h
        obtain rfl := hd10 _ rfl
        have h : (some (LR.done false) : Option (LR Unit (Bool))) = some (LR.done false) := rfl
        refine lp_r hK9 ?_
        refine blk_r hK8 ?_
        try obtain rfl := Option.some.inj h
        obtain rfl := Option.some.inj g12
        have h : (some false : Option (Bool)) = some false := rfl
        refine cut_r hK7 ?_
        refine seq_r hK2 ?_
        refine fin_r1 hK0 rfl ?_
        try obtain rfl := Option.some.inj h
        exact hP _ hS
      · refine w_skip ?_
        refine blk_n0 hK16 ?_
        refine seq_n hK15 ?_
        refine w_reg gC ?_
        try simp only [W, EE, Nat.reduceAdd]
        exact lp_n hK9 h ⟨rfl, hS⟩
    · refine w_exit ?_
      refine seq_x hK14 ?_
      try obtain rfl := Option.some.inj h
      obtain rfl := hd10 _ rfl
      have h : (some (LR.next ()) : Option (LR Unit (Bool))) = some (LR.next ()) := rfl
      refine lp_x hK9 ?_
      refine blk_e hK8 ?_
      exact cut_n hK7 ⟨(Option.some.inj h).symm, rfl, hS⟩
  · obtain ⟨rfl, rfl, hS⟩ := hq
    replace h := g12
    try dsimp only at h
    refine seq_n hK2 ?_
    refine w_seq fun K28 hK28 => ?_
    refine w_reg gC ?_
    try simp only [W, Nat.reduceAdd]
    refine seq_n hK28 ?_
    refine w_ret ?_
    refine fin_r1 hK0 rfl ?_
    try obtain rfl := Option.some.inj h
    exact hP _ hS
theorem spec_GoodTurns_w {a0 : Turns} {r : (Bool)} (h : spec_GoodTurns a0 = some r) {F : List It} {H : Heap} (hS : Own H (F)) {P : AV → Heap → Prop} (hP : ∀ H', Own H' (F) → P (.bool r) H') : ACall C 108 [.agg [.fz (a0.Quanta.map (AV.int .i64)), .fz (a0.Queues.map (fzl (AV.int .i64))), .fz (a0.Credit.map (AV.int .i64)), .fz (a0.Sent.map (AV.int .i64)), .int .i64 a0.At]] H P := by
  refine acall_of gC (res := [.tmp 2]) (n := 89) rfl rfl rfl rfl fun K0 hK0 => ?_
  simp only [W, Nat.reduceSub, Nat.reduceAdd, List.replicate]
  unfold spec_GoodTurns at h
  refine w_seq fun K1 hK1 => ?_
  refine w_reg gC ?_
  try simp only [W, Nat.reduceAdd]
  refine w_box hS rfl rfl rfl rfl fun ip2 wp2 H hS => ?_
  try simp only [W]
  refine seq_n hK1 ?_
  refine w_seq fun K4 hK4 => ?_
  refine w_reg gC ?_
  try simp only [W, EE, Nat.reduceAdd, Nat.reduceBEq, hS.var 0 rfl]
  refine seq_n hK4 ?_
  refine w_seq fun K5 hK5 => ?_
  refine w_seq fun K6 hK6 => ?_
  obtain ⟨y8, h, g9⟩ := Option.bind_eq_some_iff.1 h
  refine w_join gC (fun s H => ∃ x7 : Bool, y8 = (x7) ∧ s = (u :: .ptr ip2 wp2 0 0 :: u :: u :: u :: u :: u :: u :: u :: u :: u :: u :: u :: u :: u :: u :: u :: u :: u :: u :: u :: u :: u :: u :: u :: u :: u :: u :: u :: u :: u :: u :: u :: u :: u :: u :: u :: u :: u :: u :: u :: u :: u :: u :: u :: u :: u :: u :: u :: u :: u :: u :: u :: u :: u :: u :: u :: u :: .bool x7 :: u :: u :: u :: u :: u :: u :: u :: u :: u :: u :: u :: u :: u :: u :: u :: u :: u :: u :: u :: u :: u :: u :: u :: u :: u :: u :: u :: u :: u :: u :: []) ∧ Own H (⟨.ptr ip2 wp2 0 0, 5, [.agg [.fz (a0.Quanta.map (AV.int .i64)), .fz (a0.Queues.map (fzl (AV.int .i64))), .fz (a0.Credit.map (AV.int .i64)), .fz (a0.Sent.map (AV.int .i64)), .int .i64 a0.At]]⟩ :: F)) (fun K10 hK10 => ?_) (fun s H hq => ?_)
  · refine w_seq fun K11 hK11 => ?_
    refine w_reg gC ?_
    try simp only [W, Nat.reduceAdd]
    refine w_call h fun b12 hb12 h => ?_
    refine spec_l1In_w hb12 hS fun H hS => ?_
    try simp only [W]
    refine w_grdT h (fun hc h => ?_) (fun hc h => ?_)
    · try simp only [W, hc]
      refine seq_n hK11 ?_
      refine w_kill ?_
      exact cut_n hK10 ⟨_, (Option.some.inj h).symm, rfl, hS⟩
    · try simp only [W, EE, Nat.reduceAdd, Nat.reduceBEq, hS.var 0 rfl, hc]
      refine w_call h fun b13 hb13 h => ?_
      refine spec_l1All_w hb13 hS fun H hS => ?_
      try simp only [W, reduceIte, Bool.false_eq_true]
      refine w_grdT h (fun hc h => ?_) (fun hc h => ?_)
      · try simp only [W, hc]
        refine seq_n hK11 ?_
        refine w_kill ?_
        exact cut_n hK10 ⟨_, (Option.some.inj h).symm, rfl, hS⟩
      · try simp only [W, EE, reduceIte, Nat.reduceAdd, Nat.reduceBEq, Bool.false_eq_true, hS.var 0 rfl, hc]
        refine w_grdT h (fun hc h => ?_) (fun hc h => ?_)
        · try simp only [W, hc]
          refine seq_n hK11 ?_
          refine w_kill ?_
          exact cut_n hK10 ⟨_, (Option.some.inj h).symm, rfl, hS⟩
        · try simp only [W, EE, reduceIte, Nat.reduceAdd, Nat.reduceBEq, Bool.false_eq_true, hS.var 0 rfl, hc]
          refine w_grdT h (fun hc h => ?_) (fun hc h => ?_)
          · try simp only [W, hc]
            refine seq_n hK11 ?_
            refine w_kill ?_
            exact cut_n hK10 ⟨_, (Option.some.inj h).symm, rfl, hS⟩
          · try simp only [W, EE, reduceIte, Nat.reduceAdd, Nat.reduceBEq, Bool.false_eq_true, hS.var 0 rfl, hc]
            refine w_grdT h (fun hc h => ?_) (fun hc h => ?_)
            · try simp only [W, hc]
              refine seq_n hK11 ?_
              refine w_kill ?_
              exact cut_n hK10 ⟨_, (Option.some.inj h).symm, rfl, hS⟩
            · try simp only [W, EE, Nat.reduceAdd, Nat.reduceBEq, hS.var 0 rfl, hc]
              refine w_call h fun b14 hb14 h => ?_
              refine spec_l1All_w hb14 hS fun H hS => ?_
              try simp only [W, reduceIte, Bool.false_eq_true]
              refine w_grdT h (fun hc h => ?_) (fun hc h => ?_)
              · try simp only [W, hc]
                refine seq_n hK11 ?_
                refine w_kill ?_
                exact cut_n hK10 ⟨_, (Option.some.inj h).symm, rfl, hS⟩
              · try simp only [W, EE, Nat.reduceAdd, Nat.reduceBEq, hS.var 0 rfl, hc]
                refine w_call h fun b15 hb15 h => ?_
                refine spec_l1All_w hb15 hS fun H hS => ?_
                try simp only [W, reduceIte, Bool.false_eq_true]
                refine w_grdT h (fun hc h => ?_) (fun hc h => ?_)
                · try simp only [W, hc]
                  refine seq_n hK11 ?_
                  refine w_kill ?_
                  exact cut_n hK10 ⟨_, (Option.some.inj h).symm, rfl, hS⟩
                · try simp only [W, EE, Nat.reduceAdd, Nat.reduceBEq, hS.var 0 rfl, hc]
                  refine w_call h fun b16 hb16 h => ?_
                  refine spec_l1In_w hb16 hS fun H hS => ?_
                  try simp only [W, reduceIte, Bool.false_eq_true]
                  refine seq_n hK11 ?_
                  refine w_kill ?_
                  exact cut_n hK10 ⟨_, (Option.some.inj h).symm, rfl, hS⟩
  · obtain ⟨x7, ey, rfl, hS⟩ := hq; obtain rfl := ey.symm
    replace h := g9
    try dsimp only at h
    refine seq_n hK6 ?_
    refine w_if ?_
    simp only [W]
    refine w_cnd h (fun hc h => ?_) (fun hc h => ?_)
    · refine w_seq fun K17 hK17 => ?_
      refine w_reg gC ?_
      try simp only [W, Nat.reduceAdd]
      refine seq_n hK17 ?_
      refine w_ret ?_
      refine seq_r hK5 ?_
      refine fin_r1 hK0 rfl ?_
      try obtain rfl := Option.some.inj h
      exact hP _ (hS.sel 1 [] (by decide))
    · refine w_skip ?_
      refine seq_n hK5 ?_
      refine w_seq fun K18 hK18 => ?_
      refine w_seq fun K19 hK19 => ?_
      refine w_reg gC ?_
      try simp only [W, EE, Nat.reduceAdd, Nat.reduceBEq, hS.var 0 rfl]
      refine seq_n hK19 ?_
      obtain ⟨y21, hw22, g28⟩ := Option.bind_eq_some_iff.1 h
      refine w_join gC (fun s H => y21 = LR.next () ∧ s = (u :: u :: u :: u :: u :: u :: u :: u :: u :: u :: u :: u :: u :: u :: u :: u :: u :: u :: u :: u :: u :: u :: u :: u :: u :: u :: u :: u :: u :: u :: u :: u :: u :: u :: u :: u :: u :: u :: u :: u :: u :: u :: u :: u :: u :: u :: u :: u :: u :: u :: u :: u :: u :: u :: u :: u :: u :: u :: u :: u :: u :: u :: u :: u :: u :: u :: u :: u :: u :: u :: u :: u :: u :: u :: u :: u :: u :: u :: u :: u :: u :: u :: u :: u :: u :: u :: u :: u :: u :: []) ∧ Own H (F)) (fun K23 hK23 => ?_) (fun s H hq => ?_)
      · refine w_blk fun K24 hK24 => ?_
        refine w_loop gC hw22 (fun x s H => s = (u :: .ptr ip2 wp2 0 0 :: u :: u :: u :: u :: u :: u :: u :: u :: u :: u :: u :: u :: u :: u :: u :: u :: u :: u :: u :: u :: u :: u :: u :: u :: u :: u :: u :: u :: u :: u :: u :: u :: u :: u :: u :: u :: u :: u :: u :: u :: u :: u :: u :: u :: u :: u :: u :: u :: u :: u :: u :: u :: u :: u :: u :: u :: u :: u :: .fz (a0.Queues.map (fzl (AV.int .i64))) :: .int .i64 (a0.Queues.length : Int) :: .int .i64 x :: u :: u :: u :: u :: u :: u :: u :: u :: u :: u :: u :: u :: u :: u :: u :: u :: u :: u :: u :: u :: u :: u :: u :: u :: u :: u :: []) ∧ Own H (⟨.ptr ip2 wp2 0 0, 5, [.agg [.fz (a0.Quanta.map (AV.int .i64)), .fz (a0.Queues.map (fzl (AV.int .i64))), .fz (a0.Credit.map (AV.int .i64)), .fz (a0.Sent.map (AV.int .i64)), .int .i64 a0.At]]⟩ :: F)) ⟨rfl, hS⟩ (fun x20 y27 s H h hd26 hi K25 hK25 => ?_)
        skip
        try dsimp only at hi
        obtain ⟨rfl, hS⟩ := hi
        simp only [spec_GoodTurns_l0] at h
        refine w_seq fun K29 hK29 => ?_
        refine w_reg gC ?_
        try simp only [W, EE, Nat.reduceAdd]
        refine seq_n hK29 ?_
        refine w_seq fun K30 hK30 => ?_
        refine w_if ?_
        simp only [W]
        refine w_cnd h (fun hc h => ?_) (fun hc h => ?_)
        · refine w_skip ?_
          refine seq_n hK30 ?_
          refine w_seq fun K31 hK31 => ?_
          refine w_blk fun K32 hK32 => ?_
          refine w_seq fun K33 hK33 => ?_
          refine w_reg gC ?_
          try simp only [W, EE, Nat.reduceAdd]
          refine w_fz rfl rfl rfl (fun _ => rfl) h fun b34 hb34 h => ?_
          try simp only [W, EE, EN]
          refine seq_n hK33 ?_
          refine w_seq fun K35 hK35 => ?_
          obtain ⟨y37, h, g38⟩ := Option.bind_eq_some_iff.1 h
          refine w_join gC (fun s H => ∃ x36 : Bool, y37 = (x36) ∧ s = (u :: .ptr ip2 wp2 0 0 :: u :: u :: u :: u :: u :: u :: u :: u :: u :: u :: u :: u :: u :: u :: u :: u :: u :: u :: u :: u :: u :: u :: u :: u :: u :: u :: u :: u :: u :: u :: u :: u :: u :: u :: u :: u :: u :: u :: u :: u :: u :: u :: u :: u :: u :: u :: u :: u :: u :: u :: u :: u :: u :: u :: u :: u :: u :: u :: .fz (a0.Queues.map (fzl (AV.int .i64))) :: .int .i64 (a0.Queues.length : Int) :: .int .i64 x20 :: u :: u :: u :: u :: u :: u :: u :: u :: u :: u :: u :: u :: u :: u :: u :: u :: u :: u :: u :: u :: u :: u :: u :: u :: .bool x36 :: u :: []) ∧ Own H (⟨.ptr ip2 wp2 0 0, 5, [.agg [.fz (a0.Quanta.map (AV.int .i64)), .fz (a0.Queues.map (fzl (AV.int .i64))), .fz (a0.Credit.map (AV.int .i64)), .fz (a0.Sent.map (AV.int .i64)), .int .i64 a0.At]]⟩ :: F)) (fun K39 hK39 => ?_) (fun s H hq => ?_)
          · refine w_seq fun K40 hK40 => ?_
            refine w_reg gC ?_
            try simp only [W, EE, Nat.reduceAdd]
            refine w_grdT h (fun hc h => ?_) (fun hc h => ?_)
            · try simp only [W, hc]
              refine seq_n hK40 ?_
              refine w_kill ?_
              exact cut_n hK39 ⟨_, (Option.some.inj h).symm, rfl, hS⟩
            · try simp only [W, hc]
              refine w_call h fun b41 hb41 h => ?_
              refine spec_l1All_w hb41 hS fun H hS => ?_
              try simp only [W, reduceIte, Bool.false_eq_true]
              refine w_grdT h (fun hc h => ?_) (fun hc h => ?_)
              · try simp only [W, hc]
                refine seq_n hK40 ?_
                refine w_kill ?_
                exact cut_n hK39 ⟨_, (Option.some.inj h).symm, rfl, hS⟩
              · try simp only [W, EE, hc]
                refine w_grdT h (fun hc h => ?_) (fun hc h => ?_)
                · try simp only [W, EE, Nat.reduceAdd, Nat.reduceBEq, hS.var 0 rfl, hc]
                  refine w_fz rfl rfl rfl (fun _ => rfl) h fun b42 hb42 h => ?_
                  try simp only [W, EE, reduceIte, Bool.false_eq_true]
                  refine seq_n hK40 ?_
                  refine w_kill ?_
                  exact cut_n hK39 ⟨_, (Option.some.inj h).symm, rfl, hS⟩
                · try simp only [W, reduceIte, Bool.false_eq_true, hc]
                  refine seq_n hK40 ?_
                  refine w_kill ?_
                  exact cut_n hK39 ⟨_, (Option.some.inj h).symm, rfl, hS⟩
          · obtain ⟨x36, ey, rfl, hS⟩ := hq; obtain rfl := ey.symm
            replace h := g38
            try dsimp only at h
            refine seq_n hK35 ?_
            refine w_if ?_
            simp only [W]
            refine w_cnd h (fun hc h => ?_) (fun hc h => ?_)
            · refine w_seq fun K43 hK43 => ?_
              refine w_reg gC ?_
              try simp only [W, Nat.reduceAdd]
              refine seq_n hK43 ?_
              refine w_ret ?_
              refine blk_r hK32 ?_
              refine seq_r hK31 ?_
              try obtain rfl := Option.some.inj h
              obtain rfl := hd26 _ rfl
              have h : (some (LR.done false) : Option (LR Unit (Bool))) = some (LR.done false) := rfl
              refine lp_r hK25 ?_
              refine blk_r hK24 ?_
              try obtain rfl := Option.some.inj h
              obtain rfl := Option.some.inj g28
              have h : (some false : Option (Bool)) = some false := rfl
              refine cut_r hK23 ?_
              refine seq_r hK18 ?_
              refine fin_r1 hK0 rfl ?_
              try obtain rfl := Option.some.inj h
              exact hP _ (hS.sel 1 [] (by decide))
            · refine w_skip ?_
              refine blk_n0 hK32 ?_
              refine seq_n hK31 ?_
              refine w_reg gC ?_
              try simp only [W, EE, Nat.reduceAdd]
              exact lp_n hK25 h ⟨rfl, hS⟩
        · refine w_exit ?_
          refine seq_x hK30 ?_
          try obtain rfl := Option.some.inj h
          obtain rfl := hd26 _ rfl
          have h : (some (LR.next ()) : Option (LR Unit (Bool))) = some (LR.next ()) := rfl
          refine lp_x hK25 ?_
          refine blk_e hK24 ?_
          exact cut_n hK23 ⟨(Option.some.inj h).symm, rfl, (hS.sel 1 [] (by decide))⟩
      · obtain ⟨rfl, rfl, hS⟩ := hq
        replace h := g28
        try dsimp only at h
        refine seq_n hK18 ?_
        refine w_seq fun K50 hK50 => ?_
        refine w_reg gC ?_
        try simp only [W, Nat.reduceAdd]
        refine seq_n hK50 ?_
        refine w_ret ?_
        refine fin_r1 hK0 rfl ?_
        try obtain rfl := Option.some.inj h
        exact hP _ hS
theorem spec_l8Own_w {a0 : Turns} {r : (Turns)} (h : spec_l8Own a0 = some r) {F : List It} {H : Heap} (hS : Own H (F)) {P : AV → Heap → Prop} (hP : ∀ v61 : AV, isSl v61 → ∀ v63 : AV, isSl v63 → ∀ d65 : List AV, isSls d65 (r.Queues).length → ∀ v66 : AV, isSl v66 → ∀ v68 : AV, isSl v68 → ∀ H', Own H' (⟨v61, 1, r.Quanta.map (AV.int .i64)⟩ :: ⟨v63, 1, ouw nm_SInt d65 r.Queues⟩ :: ⟨v66, 1, r.Credit.map (AV.int .i64)⟩ :: ⟨v68, 1, r.Sent.map (AV.int .i64)⟩ :: ((inn np_SInt (AV.int .i64) 1 d65 r.Queues) ++ F)) → P (.agg [v61, v63, v66, v68, .int .i64 r.At]) H') : ACall C 110 [.agg [.fz (a0.Quanta.map (AV.int .i64)), .fz (a0.Queues.map (fzl (AV.int .i64))), .fz (a0.Credit.map (AV.int .i64)), .fz (a0.Sent.map (AV.int .i64)), .int .i64 a0.At]] H P := by
  refine acall_of gC (res := [.cell 2 27]) (n := 38) rfl rfl rfl rfl fun K0 hK0 => ?_
  simp only [W, Nat.reduceSub, Nat.reduceAdd, List.replicate]
  unfold spec_l8Own at h
  refine w_seq fun K1 hK1 => ?_
  refine w_reg gC ?_
  try simp only [W, Nat.reduceAdd]
  refine w_box hS rfl rfl rfl rfl fun ip2 wp2 H hS => ?_
  try simp only [W]
  refine w_alloc hS rfl rfl fun ip4 wp4 H hS => ?_
  try simp only [W]
  refine seq_n hK1 ?_
  refine w_seq fun K6 hK6 => ?_
  refine w_drawL gC [(16, [])] (by kernel_rfl) rfl (by kernel_rfl) ?_
  try simp only [W, reduceIte, Nat.reduceAdd, tabAt, qAt, Nat.reduceEqDiff]
  refine w_lit0 rfl rfl ?_
  try simp only [W, EE, Nat.reduceAdd, Nat.reduceBEq, hS.var 1 rfl]
  refine w_appQ rfl ?_
  simp only [W, EE]
  have hS := hS.e0_ 1
  refine w_appV (l := ([] : List Int)) (c := (AV.int .i64)) 0 hS rfl isSl_e0 rfl rfl rfl rfl (fun _ => rfl) rfl h fun v9 H x8 qv9 hm h hS => ?_
  try simp only [W]
  refine w_lit0 rfl rfl ?_
  try simp only [W, EE, Nat.reduceAdd, Nat.reduceBEq, hS.var 2 rfl]
  refine w_appQ rfl ?_
  simp only [W, EE]
  have hS := hS.e0_ 1
  refine w_appV (l := ([] : List Int)) (c := (AV.int .i64)) 0 hS rfl isSl_e0 rfl rfl rfl rfl (fun _ => rfl) rfl h fun v13 H x12 qv13 hm h hS => ?_
  try simp only [W]
  refine w_lit0 rfl rfl ?_
  try simp only [W, EE, Nat.reduceAdd, Nat.reduceBEq, hS.var 3 rfl]
  refine w_appQ rfl ?_
  simp only [W, EE]
  have hS := hS.e0_ 1
  refine w_appV (l := ([] : List Int)) (c := (AV.int .i64)) 0 hS rfl isSl_e0 rfl rfl rfl rfl (fun _ => rfl) rfl h fun v17 H x16 qv17 hm h hS => ?_
  try simp only [W, EE, Nat.reduceAdd, Nat.reduceBEq, hS.var 4 rfl]
  refine w_bld rfl rfl rfl rfl (by simp only [fillA, qv9.stora, qv9.cells, qv13.stora, qv13.cells, qv17.stora, qv17.cells]; simp [E, splice, AV.cells, storA, stor1] <;> rfl) ?_
  try simp only [W]
  refine w_alloc hS rfl rfl fun ip19 wp19 H hS => ?_
  try simp only [W]
  refine w_stv (a := .agg [v9, .nil, v13, v17, .int .i64 a0.At]) (y' := .agg [v9, .nil, v13, v17, .int .i64 a0.At]) 0 hS rfl rfl rfl rfl rfl (by simp only [storA, List.all_cons, List.all_nil, qv9.stor, qv13.stor, qv17.stor]; rfl) rfl rfl fun H hS => ?_
  try simp only [W]
  refine seq_n hK6 ?_
  refine w_seq fun K21 hK21 => ?_
  refine w_seq fun K22 hK22 => ?_
  refine w_reg gC ?_
  try simp only [W, EE, Nat.reduceAdd, Nat.reduceBEq, hS.var 5 rfl]
  refine seq_n hK22 ?_
  obtain ⟨y31, hw32, g38⟩ := Option.bind_eq_some_iff.1 h
  refine w_join gC (fun s H => ∃ x28 : List (List Int), y31 = (x28) ∧ ∃ v29 : AV, isSl v29 ∧ ∃ d30 : List AV, isSls d30 (x28).length ∧ s = [u, u, .ptr ip4 wp4 0 0, .ptr ip19 wp19 0 0, u, u, u, u, u, u, u, u, u, u, u, u, u, u, u, u, u, u, u, u, u, u, u, u, u, u, u, u, u, u, u, u, u, u] ∧ Own H (⟨v9, 1, x8.map (AV.int .i64)⟩ :: ⟨v29, 1, ouw nm_SInt d30 x28⟩ :: ⟨v13, 1, x12.map (AV.int .i64)⟩ :: ⟨v17, 1, x16.map (AV.int .i64)⟩ :: ⟨.ptr ip4 wp4 0 0, 5, [.agg [.nil, .nil, .nil, .nil, .int .i64 0]]⟩ :: ⟨.ptr ip19 wp19 0 0, 5, [.agg [v9, v29, v13, v17, .int .i64 a0.At]]⟩ :: ((inn np_SInt (AV.int .i64) 1 d30 x28) ++ F))) (fun K33 hK33 => ?_) (fun s H hq => ?_)
  · refine w_blk fun K34 hK34 => ?_
    have hS := hS.nil_ 1
    obtain ⟨d59, qd59, hS⟩ := noneN (p := np_SInt) (c := (AV.int .i64)) (z := 1) (m := nm_SInt) hS
    have hS : Own _ (⟨AV.nil, 1, ouw nm_SInt d59 ([] : List (List Int))⟩ :: ⟨.ptr ip19 wp19 0 0, 5, [.agg [v9, .nil, v13, v17, .int .i64 a0.At]]⟩ :: ⟨v17, 1, x16.map (AV.int .i64)⟩ :: ⟨v13, 1, x12.map (AV.int .i64)⟩ :: ⟨v9, 1, x8.map (AV.int .i64)⟩ :: ⟨.ptr ip4 wp4 0 0, 5, [.agg [.nil, .nil, .nil, .nil, .int .i64 0]]⟩ :: ⟨.ptr ip2 wp2 0 0, 5, [.agg [.fz (a0.Quanta.map (AV.int .i64)), .fz (a0.Queues.map (fzl (AV.int .i64))), .fz (a0.Credit.map (AV.int .i64)), .fz (a0.Sent.map (AV.int .i64)), .int .i64 a0.At]]⟩ :: ((inn np_SInt (AV.int .i64) 1 d59 ([] : List (List Int))) ++ (F))) := Own.catI_ (bl := [[⟨AV.nil, 1, ouw nm_SInt d59 ([] : List (List Int))⟩], (inn np_SInt (AV.int .i64) 1 d59 ([] : List (List Int))), [⟨.ptr ip19 wp19 0 0, 5, [.agg [v9, .nil, v13, v17, .int .i64 a0.At]]⟩], [⟨v17, 1, x16.map (AV.int .i64)⟩], [⟨v13, 1, x12.map (AV.int .i64)⟩], [⟨v9, 1, x8.map (AV.int .i64)⟩], [⟨.ptr ip4 wp4 0 0, 5, [.agg [.nil, .nil, .nil, .nil, .int .i64 0]]⟩], [⟨.ptr ip2 wp2 0 0, 5, [.agg [.fz (a0.Quanta.map (AV.int .i64)), .fz (a0.Queues.map (fzl (AV.int .i64))), .fz (a0.Credit.map (AV.int .i64)), .fz (a0.Sent.map (AV.int .i64)), .int .i64 a0.At]]⟩]]) (F := F) hS 8 rfl [0, 2, 3, 4, 5, 6, 7, 1] (by decide)
    have hS : Own _ (⟨v9, 1, x8.map (AV.int .i64)⟩ :: ⟨AV.nil, 1, ouw nm_SInt d59 ([] : List (List Int))⟩ :: ⟨v13, 1, x12.map (AV.int .i64)⟩ :: ⟨v17, 1, x16.map (AV.int .i64)⟩ :: ⟨.ptr ip4 wp4 0 0, 5, [.agg [.nil, .nil, .nil, .nil, .int .i64 0]]⟩ :: ⟨.ptr ip19 wp19 0 0, 5, [.agg [v9, .nil, v13, v17, .int .i64 a0.At]]⟩ :: ((inn np_SInt (AV.int .i64) 1 d59 ([] : List (List Int))) ++ (F))) := Own.catI_ (bl := [[⟨AV.nil, 1, ouw nm_SInt d59 ([] : List (List Int))⟩], [⟨.ptr ip19 wp19 0 0, 5, [.agg [v9, .nil, v13, v17, .int .i64 a0.At]]⟩], [⟨v17, 1, x16.map (AV.int .i64)⟩], [⟨v13, 1, x12.map (AV.int .i64)⟩], [⟨v9, 1, x8.map (AV.int .i64)⟩], [⟨.ptr ip4 wp4 0 0, 5, [.agg [.nil, .nil, .nil, .nil, .int .i64 0]]⟩], [⟨.ptr ip2 wp2 0 0, 5, [.agg [.fz (a0.Quanta.map (AV.int .i64)), .fz (a0.Queues.map (fzl (AV.int .i64))), .fz (a0.Credit.map (AV.int .i64)), .fz (a0.Sent.map (AV.int .i64)), .int .i64 a0.At]]⟩], (inn np_SInt (AV.int .i64) 1 d59 ([] : List (List Int)))]) (F := F) hS 8 rfl [4, 0, 3, 2, 5, 1, 7] (by decide)
    refine w_loop gC hw32 (fun x s H => match x with | (x23, x24) => ∃ v25 : AV, isSl v25 ∧ ∃ d27 : List AV, isSls d27 (x24).length ∧ s = [u, u, .ptr ip4 wp4 0 0, .ptr ip19 wp19 0 0, u, u, u, u, u, u, u, u, u, u, u, u, u, u, u, u, u, u, .fz (a0.Queues.map (fzl (AV.int .i64))), .int .i64 (a0.Queues.length : Int), .int .i64 x23, u, u, u, u, u, u, u, u, u, u, u, u, u] ∧ Own H (⟨v9, 1, x8.map (AV.int .i64)⟩ :: ⟨v25, 1, ouw nm_SInt d27 x24⟩ :: ⟨v13, 1, x12.map (AV.int .i64)⟩ :: ⟨v17, 1, x16.map (AV.int .i64)⟩ :: ⟨.ptr ip4 wp4 0 0, 5, [.agg [.nil, .nil, .nil, .nil, .int .i64 0]]⟩ :: ⟨.ptr ip19 wp19 0 0, 5, [.agg [v9, v25, v13, v17, .int .i64 a0.At]]⟩ :: ((inn np_SInt (AV.int .i64) 1 d27 x24) ++ F))) ⟨_, isSl_nil, _, qd59, rfl, hS⟩ (fun x y37 s H h hd36 hi K35 hK35 => ?_)
    obtain ⟨x23, x24⟩ := x
    try dsimp only at hi
    obtain ⟨v25, qv25, d27, qd27, rfl, hS⟩ := hi
    simp only [spec_l8Own_l0] at h
    refine w_seq fun K39 hK39 => ?_
    refine w_reg gC ?_
    try simp only [W, EE, Nat.reduceAdd]
    refine seq_n hK39 ?_
    refine w_seq fun K40 hK40 => ?_
    refine w_if ?_
    simp only [W]
    refine w_cnd h (fun hc h => ?_) (fun hc h => ?_)
    · refine w_skip ?_
      refine seq_n hK40 ?_
      refine w_seq fun K41 hK41 => ?_
      refine w_blk fun K42 hK42 => ?_
      refine w_seq fun K43 hK43 => ?_
      refine w_reg gC ?_
      try simp only [W, EE, Nat.reduceAdd]
      refine w_fz rfl rfl rfl (fun _ => rfl) h fun b44 hb44 h => ?_
      try simp only [W, EE, EN]
      refine seq_n hK43 ?_
      refine w_drawL gC [(8, []), (6, [])] (by kernel_rfl) rfl (by kernel_rfl) ?_
      try simp only [W, EE, reduceIte, Nat.reduceAdd, Nat.reduceBEq, hS.var 5 rfl, tabAt, qAt, Nat.reduceEqDiff]
      refine w_lit0 rfl rfl ?_
      try simp only [W]
      refine w_appQ rfl ?_
      simp only [W, EE]
      have hS := hS.e0_ 1
      refine w_appV (l := ([] : List Int)) (c := (AV.int .i64)) 0 hS rfl isSl_e0 rfl rfl rfl rfl (fun _ => rfl) rfl h fun v47 H x46 qv47 hm h hS => ?_
      try simp only [W]
      refine w_lit (el := [v47]) hS rfl rfl rfl rfl (fill1 (isSl.clen qv47) qv47.stora) rfl (sz1 (isSl.clen qv47)) fun v49 H qv49 hS => ?_
      have hS : Own _ (⟨v49, 1, [v47]⟩ :: ⟨v47, 1, x46.map (AV.int .i64)⟩ :: ⟨v9, 1, x8.map (AV.int .i64)⟩ :: ⟨v25, 1, ouw nm_SInt d27 x24⟩ :: ⟨v13, 1, x12.map (AV.int .i64)⟩ :: ⟨v17, 1, x16.map (AV.int .i64)⟩ :: ⟨.ptr ip4 wp4 0 0, 5, [.agg [.nil, .nil, .nil, .nil, .int .i64 0]]⟩ :: ⟨.ptr ip19 wp19 0 0, 5, [.agg [v9, v25, v13, v17, .int .i64 a0.At]]⟩ :: ((inn np_SInt (AV.int .i64) 1 d27 x24) ++ (F))) := hS
      obtain ⟨d50, qd50, hS⟩ := oneN (m := nm_SInt) (p := np_SInt) (c := (AV.int .i64)) (b := x46) hS qv47
      have hS : Own _ (⟨v49, 1, ouw nm_SInt d50 ([x46] : List (List Int))⟩ :: ⟨v9, 1, x8.map (AV.int .i64)⟩ :: ⟨v25, 1, ouw nm_SInt d27 x24⟩ :: ⟨v13, 1, x12.map (AV.int .i64)⟩ :: ⟨v17, 1, x16.map (AV.int .i64)⟩ :: ⟨.ptr ip4 wp4 0 0, 5, [.agg [.nil, .nil, .nil, .nil, .int .i64 0]]⟩ :: ⟨.ptr ip19 wp19 0 0, 5, [.agg [v9, v25, v13, v17, .int .i64 a0.At]]⟩ :: ((inn np_SInt (AV.int .i64) 1 d50 ([x46] : List (List Int))) ++ (((inn np_SInt (AV.int .i64) 1 d27 x24) ++ (F))))) := Own.catI_ (bl := [[⟨v49, 1, ouw nm_SInt d50 ([x46] : List (List Int))⟩], (inn np_SInt (AV.int .i64) 1 d50 ([x46] : List (List Int))), [⟨v9, 1, x8.map (AV.int .i64)⟩], [⟨v25, 1, ouw nm_SInt d27 x24⟩], [⟨v13, 1, x12.map (AV.int .i64)⟩], [⟨v17, 1, x16.map (AV.int .i64)⟩], [⟨.ptr ip4 wp4 0 0, 5, [.agg [.nil, .nil, .nil, .nil, .int .i64 0]]⟩], [⟨.ptr ip19 wp19 0 0, 5, [.agg [v9, v25, v13, v17, .int .i64 a0.At]]⟩], (inn np_SInt (AV.int .i64) 1 d27 x24)]) (F := F) hS 9 rfl [0, 2, 3, 4, 5, 6, 7, 1, 8] (by decide)
      try simp only [W, EE]
      have hS : Own _ (⟨v25, 1, ouw nm_SInt d27 x24⟩ :: ⟨v49, 1, ouw nm_SInt d50 ([x46] : List (List Int))⟩ :: ((inn np_SInt (AV.int .i64) 1 d27 x24) ++ (((inn np_SInt (AV.int .i64) 1 d50 ([x46] : List (List Int))) ++ (⟨v9, 1, x8.map (AV.int .i64)⟩ :: ⟨v13, 1, x12.map (AV.int .i64)⟩ :: ⟨v17, 1, x16.map (AV.int .i64)⟩ :: ⟨.ptr ip4 wp4 0 0, 5, [.agg [.nil, .nil, .nil, .nil, .int .i64 0]]⟩ :: ⟨.ptr ip19 wp19 0 0, 5, [.agg [v9, v25, v13, v17, .int .i64 a0.At]]⟩ :: F))))) := Own.catI_ (bl := [[⟨v49, 1, ouw nm_SInt d50 ([x46] : List (List Int))⟩], [⟨v9, 1, x8.map (AV.int .i64)⟩], [⟨v25, 1, ouw nm_SInt d27 x24⟩], [⟨v13, 1, x12.map (AV.int .i64)⟩], [⟨v17, 1, x16.map (AV.int .i64)⟩], [⟨.ptr ip4 wp4 0 0, 5, [.agg [.nil, .nil, .nil, .nil, .int .i64 0]]⟩], [⟨.ptr ip19 wp19 0 0, 5, [.agg [v9, v25, v13, v17, .int .i64 a0.At]]⟩], (inn np_SInt (AV.int .i64) 1 d50 ([x46] : List (List Int))), (inn np_SInt (AV.int .i64) 1 d27 x24)]) (F := F) hS 9 rfl [2, 0, 8, 7, 1, 3, 4, 5, 6] (by decide)
      refine w_appN (l := x24) (m := nm_SInt) (p := np_SInt) (c := (AV.int .i64)) hS qv25 qv49 qd27 qd50 rfl rfl rfl nc_SInt rfl h fun v52 H n54 d53 qv52 qd53 hm h hS => ?_
      have hS : Own _ (⟨v9, 1, x8.map (AV.int .i64)⟩ :: ⟨v52, 1, ouw nm_SInt d53 n54⟩ :: ⟨v13, 1, x12.map (AV.int .i64)⟩ :: ⟨v17, 1, x16.map (AV.int .i64)⟩ :: ⟨.ptr ip4 wp4 0 0, 5, [.agg [.nil, .nil, .nil, .nil, .int .i64 0]]⟩ :: ⟨.ptr ip19 wp19 0 0, 5, [.agg [v9, v25, v13, v17, .int .i64 a0.At]]⟩ :: ((inn np_SInt (AV.int .i64) 1 d53 n54) ++ (F))) := Own.catI_ (bl := [[⟨v52, 1, ouw nm_SInt d53 n54⟩], (inn np_SInt (AV.int .i64) 1 d53 n54), [⟨v9, 1, x8.map (AV.int .i64)⟩], [⟨v13, 1, x12.map (AV.int .i64)⟩], [⟨v17, 1, x16.map (AV.int .i64)⟩], [⟨.ptr ip4 wp4 0 0, 5, [.agg [.nil, .nil, .nil, .nil, .int .i64 0]]⟩], [⟨.ptr ip19 wp19 0 0, 5, [.agg [v9, v25, v13, v17, .int .i64 a0.At]]⟩]]) (F := F) hS 7 rfl [2, 0, 3, 4, 5, 6, 1] (by decide)
      try simp only [W, EE, Nat.reduceAdd, Nat.reduceBEq, hS.var 5 rfl]
      refine w_stv (a := v52) (y' := .agg [v9, v52, v13, v17, .int .i64 a0.At]) 5 hS rfl rfl rfl rfl (by rw [qv52.cells]; rfl) qv52.stora (qv52.wr _ _ (by simp)) rfl fun H hS => ?_
      try simp only [W]
      refine blk_n0 hK42 ?_
      refine seq_n hK41 ?_
      refine w_reg gC ?_
      try simp only [W, EE, Nat.reduceAdd]
      exact lp_n hK35 h ⟨_, qv52, _, qd53, rfl, hS⟩
    · refine w_exit ?_
      refine seq_x hK40 ?_
      try obtain rfl := Option.some.inj h
      obtain rfl := hd36 _ rfl
      have h : (some (x24) : Option ((List (List Int)))) = some (x24) := rfl
      refine lp_x hK35 ?_
      refine blk_e hK34 ?_
      exact cut_n hK33 ⟨_, (Option.some.inj h).symm, _, qv25, _, qd27, rfl, hS⟩
  · obtain ⟨x28, ey, v29, qv29, d30, qd30, rfl, hS⟩ := hq; obtain rfl := ey.symm
    replace h := g38
    try dsimp only at h
    refine seq_n hK21 ?_
    refine w_seq fun K60 hK60 => ?_
    refine w_reg gC ?_
    try simp only [W, EE, reduceIte, Nat.reduceAdd, Nat.reduceLeDiff, hS.var 5 rfl]
    refine w_stv (a := .agg [v9, v29, v13, v17, .int .i64 a0.At]) (y' := .agg [v9, v29, v13, v17, .int .i64 a0.At]) 4 hS rfl rfl rfl rfl rfl (by simp only [storA, List.all_cons, List.all_nil, qv9.stor, qv29.stor, qv13.stor, qv17.stor]; rfl) rfl rfl fun H hS => ?_
    try simp only [W]
    refine seq_n hK60 ?_
    refine w_ret ?_
    refine fin_r hK0 (res_c rfl rfl (hS.var 4 rfl) rfl rfl) ?_
    try obtain rfl := Option.some.inj h
    have hS : Own _ (⟨v9, 1, x8.map (AV.int .i64)⟩ :: ⟨v29, 1, ouw nm_SInt d30 x28⟩ :: ⟨v13, 1, x12.map (AV.int .i64)⟩ :: ⟨v17, 1, x16.map (AV.int .i64)⟩ :: ((inn np_SInt (AV.int .i64) 1 d30 x28) ++ (F))) := Own.catI_ (bl := [[⟨v9, 1, x8.map (AV.int .i64)⟩], [⟨v29, 1, ouw nm_SInt d30 x28⟩], [⟨v13, 1, x12.map (AV.int .i64)⟩], [⟨v17, 1, x16.map (AV.int .i64)⟩], [⟨.ptr ip4 wp4 0 0, 5, [.agg [v9, v29, v13, v17, .int .i64 a0.At]]⟩], [⟨.ptr ip19 wp19 0 0, 5, [.agg [v9, v29, v13, v17, .int .i64 a0.At]]⟩], (inn np_SInt (AV.int .i64) 1 d30 x28)]) (F := F) hS 7 rfl [0, 1, 2, 3, 6] (by decide)
    exact hP _ qv9 _ qv29 _ qd30 _ qv13 _ qv17 _ hS
theorem spec_PutPacket_w {a0 : Turns} {a1 : Int} {a2 : Int} {r : (Turns × Bool)} (h : spec_PutPacket a0 a1 a2 = some r) {F : List It} {H : Heap} (hS : Own H (F)) {P : AV → Heap → Prop} (hP : ∀ v48 : AV, isSl v48 → ∀ v50 : AV, isSl v50 → ∀ d52 : List AV, isSls d52 (r.1.Queues).length → ∀ v53 : AV, isSl v53 → ∀ v55 : AV, isSl v55 → ∀ H', Own H' (⟨v48, 1, r.1.Quanta.map (AV.int .i64)⟩ :: ⟨v50, 1, ouw nm_SInt d52 r.1.Queues⟩ :: ⟨v53, 1, r.1.Credit.map (AV.int .i64)⟩ :: ⟨v55, 1, r.1.Sent.map (AV.int .i64)⟩ :: ((inn np_SInt (AV.int .i64) 1 d52 r.1.Queues) ++ F)) → P (.tup [.agg [v48, v50, v53, v55, .int .i64 r.1.At], .bool r.2]) H') : ACall C 16 [.agg [.fz (a0.Quanta.map (AV.int .i64)), .fz (a0.Queues.map (fzl (AV.int .i64))), .fz (a0.Credit.map (AV.int .i64)), .fz (a0.Sent.map (AV.int .i64)), .int .i64 a0.At], .int .i64 a1, .int .i64 a2] H P := by
  refine acall_of gC (res := [.cell 6 27, .tmp 7]) (n := 53) rfl rfl rfl rfl fun K0 hK0 => ?_
  simp only [W, Nat.reduceSub, Nat.reduceAdd, List.replicate]
  unfold spec_PutPacket at h
  refine w_seq fun K1 hK1 => ?_
  refine w_reg gC ?_
  try simp only [W, Nat.reduceAdd]
  refine w_box hS rfl rfl rfl rfl fun ip2 wp2 H hS => ?_
  try simp only [W]
  refine w_alloc hS rfl rfl fun ip4 wp4 H hS => ?_
  try simp only [W]
  refine seq_n hK1 ?_
  refine w_seq fun K6 hK6 => ?_
  refine w_seq fun K7 hK7 => ?_
  obtain ⟨y9, h, g10⟩ := Option.bind_eq_some_iff.1 h
  refine w_join gC (fun s H => ∃ x8 : Bool, y9 = (x8) ∧ s = [u, .int .i64 a1, .int .i64 a2, .ptr ip2 wp2 0 0, u, u, .ptr ip4 wp4 0 0, u, u, u, u, u, u, u, u, u, u, u, u, u, u, u, u, u, u, u, u, u, u, u, u, u, u, u, u, u, .bool x8, u, u, u, u, u, u, u, u, u, u, u, u, u, u, u, u] ∧ Own H (⟨.ptr ip2 wp2 0 0, 5, [.agg [.fz (a0.Quanta.map (AV.int .i64)), .fz (a0.Queues.map (fzl (AV.int .i64))), .fz (a0.Credit.map (AV.int .i64)), .fz (a0.Sent.map (AV.int .i64)), .int .i64 a0.At]]⟩ :: ⟨.ptr ip4 wp4 0 0, 5, [.agg [.nil, .nil, .nil, .nil, .int .i64 0]]⟩ :: F)) (fun K11 hK11 => ?_) (fun s H hq => ?_)
  · refine w_seq fun K12 hK12 => ?_
    refine w_reg gC ?_
    try simp only [W, EE, reduceIte, Nat.reduceAdd, Nat.reduceLeDiff, hS.var 1 rfl]
    refine w_call h fun b13 hb13 h => ?_
    refine spec_GoodTurns_w hb13 hS fun H hS => ?_
    try simp only [W]
    refine w_grdT h (fun hc h => ?_) (fun hc h => ?_)
    · try simp only [W, hc]
      refine seq_n hK12 ?_
      refine w_kill ?_
      exact cut_n hK11 ⟨_, (Option.some.inj h).symm, rfl, (hS.sel 2 [1, 0] (by decide))⟩
    · try simp only [W, EE, reduceIte, Bool.false_eq_true, hc]
      refine w_grdT h (fun hc h => ?_) (fun hc h => ?_)
      · try simp only [W, hc]
        refine seq_n hK12 ?_
        refine w_kill ?_
        exact cut_n hK11 ⟨_, (Option.some.inj h).symm, rfl, (hS.sel 2 [1, 0] (by decide))⟩
      · try simp only [W, EE, reduceIte, Nat.reduceAdd, Nat.reduceBEq, Bool.false_eq_true, hS.var 1 rfl, hc]
        refine w_grdT h (fun hc h => ?_) (fun hc h => ?_)
        · try simp only [W, hc]
          refine seq_n hK12 ?_
          refine w_kill ?_
          exact cut_n hK11 ⟨_, (Option.some.inj h).symm, rfl, (hS.sel 2 [1, 0] (by decide))⟩
        · try simp only [W, hc]
          refine w_call h fun b14 hb14 h => ?_
          refine spec_l1In_w hb14 hS fun H hS => ?_
          try simp only [W, reduceIte, Bool.false_eq_true]
          refine w_grdT h (fun hc h => ?_) (fun hc h => ?_)
          · try simp only [W, hc]
            refine seq_n hK12 ?_
            refine w_kill ?_
            exact cut_n hK11 ⟨_, (Option.some.inj h).symm, rfl, (hS.sel 2 [1, 0] (by decide))⟩
          · try simp only [W, EE, Nat.reduceAdd, Nat.reduceBEq, hS.var 1 rfl, hc]
            refine w_fz rfl rfl rfl (fun _ => rfl) h fun b15 hb15 h => ?_
            try simp only [W, EE, EN, reduceIte, Bool.false_eq_true]
            refine seq_n hK12 ?_
            refine w_kill ?_
            exact cut_n hK11 ⟨_, (Option.some.inj h).symm, rfl, (hS.sel 2 [1, 0] (by decide))⟩
  · obtain ⟨x8, ey, rfl, hS⟩ := hq; obtain rfl := ey.symm
    replace h := g10
    try dsimp only at h
    refine seq_n hK7 ?_
    refine w_if ?_
    simp only [W]
    refine w_cnd h (fun hc h => ?_) (fun hc h => ?_)
    · refine w_seq fun K16 hK16 => ?_
      refine w_reg gC ?_
      try simp only [W, EE, Nat.reduceAdd]
      refine w_bld rfl rfl rfl rfl rfl ?_
      try simp only [W]
      refine w_stv (a := .agg [.nil, .nil, .nil, .nil, .int .i64 0]) (y' := .agg [.nil, .nil, .nil, .nil, .int .i64 0]) 1 hS rfl rfl rfl rfl rfl rfl rfl rfl fun H hS => ?_
      try simp only [W]
      refine seq_n hK16 ?_
      refine w_ret ?_
      refine seq_r hK6 ?_
      have hS := hS.nil_ 1
      have hS := hS.nil_ 1
      obtain ⟨d19, qd19, hS⟩ := noneN (p := np_SInt) (c := (AV.int .i64)) (z := 1) (m := nm_SInt) hS
      have hS : Own _ (⟨AV.nil, 1, ouw nm_SInt d19 ([] : List (List Int))⟩ :: ⟨AV.nil, 1, ([] : List Int).map (AV.int .i64)⟩ :: ⟨.ptr ip2 wp2 0 0, 5, [.agg [.fz (a0.Quanta.map (AV.int .i64)), .fz (a0.Queues.map (fzl (AV.int .i64))), .fz (a0.Credit.map (AV.int .i64)), .fz (a0.Sent.map (AV.int .i64)), .int .i64 a0.At]]⟩ :: ⟨.ptr ip4 wp4 0 0, 5, [.agg [.nil, .nil, .nil, .nil, .int .i64 0]]⟩ :: ((inn np_SInt (AV.int .i64) 1 d19 ([] : List (List Int))) ++ (F))) := Own.catI_ (bl := [[⟨AV.nil, 1, ouw nm_SInt d19 ([] : List (List Int))⟩], (inn np_SInt (AV.int .i64) 1 d19 ([] : List (List Int))), [⟨AV.nil, 1, ([] : List Int).map (AV.int .i64)⟩], [⟨.ptr ip2 wp2 0 0, 5, [.agg [.fz (a0.Quanta.map (AV.int .i64)), .fz (a0.Queues.map (fzl (AV.int .i64))), .fz (a0.Credit.map (AV.int .i64)), .fz (a0.Sent.map (AV.int .i64)), .int .i64 a0.At]]⟩], [⟨.ptr ip4 wp4 0 0, 5, [.agg [.nil, .nil, .nil, .nil, .int .i64 0]]⟩]]) (F := F) hS 5 rfl [0, 2, 3, 4, 1] (by decide)
      have hS := hS.nil_ 1
      have hS := hS.nil_ 1
      refine fin_r hK0 (res_c rfl rfl (hS.var 5 rfl) rfl (res_tc rfl rfl)) ?_
      try obtain rfl := Option.some.inj h
      have hS : Own _ (⟨AV.nil, 1, ([] : List Int).map (AV.int .i64)⟩ :: ⟨AV.nil, 1, ouw nm_SInt d19 ([] : List (List Int))⟩ :: ⟨AV.nil, 1, ([] : List Int).map (AV.int .i64)⟩ :: ⟨AV.nil, 1, ([] : List Int).map (AV.int .i64)⟩ :: ((inn np_SInt (AV.int .i64) 1 d19 ([] : List (List Int))) ++ (F))) := Own.catI_ (bl := [[⟨AV.nil, 1, ([] : List Int).map (AV.int .i64)⟩], [⟨AV.nil, 1, ([] : List Int).map (AV.int .i64)⟩], [⟨AV.nil, 1, ouw nm_SInt d19 ([] : List (List Int))⟩], [⟨AV.nil, 1, ([] : List Int).map (AV.int .i64)⟩], [⟨.ptr ip2 wp2 0 0, 5, [.agg [.fz (a0.Quanta.map (AV.int .i64)), .fz (a0.Queues.map (fzl (AV.int .i64))), .fz (a0.Credit.map (AV.int .i64)), .fz (a0.Sent.map (AV.int .i64)), .int .i64 a0.At]]⟩], [⟨.ptr ip4 wp4 0 0, 5, [.agg [.nil, .nil, .nil, .nil, .int .i64 0]]⟩], (inn np_SInt (AV.int .i64) 1 d19 ([] : List (List Int)))]) (F := F) hS 7 rfl [3, 2, 1, 0, 6] (by decide)
      exact hP _ isSl_nil _ isSl_nil _ qd19 _ isSl_nil _ isSl_nil _ hS
    · refine w_skip ?_
      refine seq_n hK6 ?_
      refine w_seq fun K22 hK22 => ?_
      refine w_reg gC ?_
      try simp only [W, EE, reduceIte, Nat.reduceAdd, Nat.reduceLeDiff, hS.var 0 rfl]
      refine w_call h fun b23 hb23 h => ?_
      refine spec_l8Own_w hb23 hS fun v24 qv24 v26 qv26 d28 qd28 v29 qv29 v31 qv31 H hS => ?_
      have hS : Own _ (⟨v24, 1, b23.Quanta.map (AV.int .i64)⟩ :: ⟨v26, 1, ouw nm_SInt d28 b23.Queues⟩ :: ⟨v29, 1, b23.Credit.map (AV.int .i64)⟩ :: ⟨v31, 1, b23.Sent.map (AV.int .i64)⟩ :: ⟨.ptr ip2 wp2 0 0, 5, [.agg [.fz (a0.Quanta.map (AV.int .i64)), .fz (a0.Queues.map (fzl (AV.int .i64))), .fz (a0.Credit.map (AV.int .i64)), .fz (a0.Sent.map (AV.int .i64)), .int .i64 a0.At]]⟩ :: ⟨.ptr ip4 wp4 0 0, 5, [.agg [.nil, .nil, .nil, .nil, .int .i64 0]]⟩ :: ((inn np_SInt (AV.int .i64) 1 d28 b23.Queues) ++ (F))) := Own.catI_ (bl := [[⟨v24, 1, b23.Quanta.map (AV.int .i64)⟩], [⟨v26, 1, ouw nm_SInt d28 b23.Queues⟩], [⟨v29, 1, b23.Credit.map (AV.int .i64)⟩], [⟨v31, 1, b23.Sent.map (AV.int .i64)⟩], (inn np_SInt (AV.int .i64) 1 d28 b23.Queues), [⟨.ptr ip2 wp2 0 0, 5, [.agg [.fz (a0.Quanta.map (AV.int .i64)), .fz (a0.Queues.map (fzl (AV.int .i64))), .fz (a0.Credit.map (AV.int .i64)), .fz (a0.Sent.map (AV.int .i64)), .int .i64 a0.At]]⟩], [⟨.ptr ip4 wp4 0 0, 5, [.agg [.nil, .nil, .nil, .nil, .int .i64 0]]⟩]]) (F := F) hS 7 rfl [0, 1, 2, 3, 5, 6, 4] (by decide)
      try simp only [W]
      refine w_alloc hS rfl rfl fun ip33 wp33 H hS => ?_
      try simp only [W]
      refine w_stv (a := .agg [v24, v26, v29, v31, .int .i64 b23.At]) (y' := .agg [v24, v26, v29, v31, .int .i64 b23.At]) 0 hS rfl rfl rfl rfl rfl (by simp only [storA, List.all_cons, List.all_nil, qv24.stor, qv26.stor, qv29.stor, qv31.stor]; rfl) rfl rfl fun H hS => ?_
      try simp only [W]
      refine seq_n hK22 ?_
      refine w_seq fun K35 hK35 => ?_
      refine w_drawL gC [(10, [0, 1, 2]), (12, [])] (by kernel_rfl) rfl (by kernel_rfl) ?_
      try simp only [W, EE, reduceIte, Nat.reduceAdd, Nat.reduceBEq, hS.var 0 rfl, tabAt, qAt, Nat.reduceEqDiff]
      obtain ⟨b37, hb37, h⟩ := Option.bind_eq_some_iff.1 h
      have hS : Own _ (⟨v26, 1, ouw nm_SInt d28 b23.Queues⟩ :: ((inn np_SInt (AV.int .i64) 1 d28 b23.Queues) ++ (⟨.ptr ip33 wp33 0 0, 5, [.agg [v24, v26, v29, v31, .int .i64 b23.At]]⟩ :: ⟨v24, 1, b23.Quanta.map (AV.int .i64)⟩ :: ⟨v29, 1, b23.Credit.map (AV.int .i64)⟩ :: ⟨v31, 1, b23.Sent.map (AV.int .i64)⟩ :: ⟨.ptr ip2 wp2 0 0, 5, [.agg [.fz (a0.Quanta.map (AV.int .i64)), .fz (a0.Queues.map (fzl (AV.int .i64))), .fz (a0.Credit.map (AV.int .i64)), .fz (a0.Sent.map (AV.int .i64)), .int .i64 a0.At]]⟩ :: ⟨.ptr ip4 wp4 0 0, 5, [.agg [.nil, .nil, .nil, .nil, .int .i64 0]]⟩ :: F))) := Own.catI_ (bl := [[⟨.ptr ip33 wp33 0 0, 5, [.agg [v24, v26, v29, v31, .int .i64 b23.At]]⟩], [⟨v24, 1, b23.Quanta.map (AV.int .i64)⟩], [⟨v26, 1, ouw nm_SInt d28 b23.Queues⟩], [⟨v29, 1, b23.Credit.map (AV.int .i64)⟩], [⟨v31, 1, b23.Sent.map (AV.int .i64)⟩], [⟨.ptr ip2 wp2 0 0, 5, [.agg [.fz (a0.Quanta.map (AV.int .i64)), .fz (a0.Queues.map (fzl (AV.int .i64))), .fz (a0.Credit.map (AV.int .i64)), .fz (a0.Sent.map (AV.int .i64)), .int .i64 a0.At]]⟩], [⟨.ptr ip4 wp4 0 0, 5, [.agg [.nil, .nil, .nil, .nil, .int .i64 0]]⟩], (inn np_SInt (AV.int .i64) 1 d28 b23.Queues)]) (F := F) hS 8 rfl [2, 7, 0, 1, 3, 4, 5, 6] (by decide)
      obtain ⟨v38, qv38, hS⟩ := openN (p := np_SInt) (c := (AV.int .i64)) (m := nm_SInt) (b := b37) hS qd28 hb37
      have hS : Own _ (⟨v38, 1, b37.map (AV.int .i64)⟩ :: ⟨.ptr ip33 wp33 0 0, 5, [.agg [v24, v26, v29, v31, .int .i64 b23.At]]⟩ :: ⟨v24, 1, b23.Quanta.map (AV.int .i64)⟩ :: ⟨v26, 1, (ouw nm_SInt d28 b23.Queues).set a1.toNat (v38)⟩ :: ⟨v29, 1, b23.Credit.map (AV.int .i64)⟩ :: ⟨v31, 1, b23.Sent.map (AV.int .i64)⟩ :: ⟨.ptr ip2 wp2 0 0, 5, [.agg [.fz (a0.Quanta.map (AV.int .i64)), .fz (a0.Queues.map (fzl (AV.int .i64))), .fz (a0.Credit.map (AV.int .i64)), .fz (a0.Sent.map (AV.int .i64)), .int .i64 a0.At]]⟩ :: ⟨.ptr ip4 wp4 0 0, 5, [.agg [.nil, .nil, .nil, .nil, .int .i64 0]]⟩ :: ((inx np_SInt (AV.int .i64) 1 d28 b23.Queues a1.toNat) ++ (F))) := Own.catI_ (bl := [[⟨v38, 1, b37.map (AV.int .i64)⟩], [⟨v26, 1, (ouw nm_SInt d28 b23.Queues).set a1.toNat (v38)⟩], (inx np_SInt (AV.int .i64) 1 d28 b23.Queues a1.toNat), [⟨.ptr ip33 wp33 0 0, 5, [.agg [v24, v26, v29, v31, .int .i64 b23.At]]⟩], [⟨v24, 1, b23.Quanta.map (AV.int .i64)⟩], [⟨v29, 1, b23.Credit.map (AV.int .i64)⟩], [⟨v31, 1, b23.Sent.map (AV.int .i64)⟩], [⟨.ptr ip2 wp2 0 0, 5, [.agg [.fz (a0.Quanta.map (AV.int .i64)), .fz (a0.Queues.map (fzl (AV.int .i64))), .fz (a0.Credit.map (AV.int .i64)), .fz (a0.Sent.map (AV.int .i64)), .int .i64 a0.At]]⟩], [⟨.ptr ip4 wp4 0 0, 5, [.agg [.nil, .nil, .nil, .nil, .int .i64 0]]⟩]]) (F := F) hS 9 rfl [0, 3, 4, 1, 5, 6, 7, 8, 2] (by decide)
      refine w_owE (x := v38) 3 hS rfl rfl rfl rfl rfl (idx_some hb37).1 (holeG qd28 hb37) qv26 (fun in36 wn36 on36 en36 hkn36 => ?_)
      obtain ⟨kn36, hbn36, hen36⟩ := hkn36
      try simp only [W, EE, hbn36, hen36, qv38.rd]
      refine w_lit (el := ([a2] : List Int).map (AV.int .i64)) hS rfl rfl rfl rfl rfl rfl rfl fun v40 H qv40 hS => ?_
      try simp only [W, EE]
      refine w_appV (l := b37) (c := (AV.int .i64)) 1 hS rfl qv38 rfl rfl rfl (hS.elems 0 rfl qv40) (fun _ => rfl) rfl h fun v43 H x42 qv43 hm h hS => ?_
      refine goK_late ?_
      refine lateG_s (by first | rfl | (simp [evalOp, W, EE, hS.var 2 rfl]; done) | exact ev_ow 4 hS rfl rfl rfl rfl rfl en36 hb37 rfl rfl rfl rfl | exact ev_le 4 hS rfl rfl en36 hb37 rfl rfl rfl) ?_
      refine lateG_s (by first | rfl | (simp [evalOp, W, EE, rdAt, mkT, subL, AV.cells, hS.var 2 rfl]; done) | exact ev_ow 4 hS rfl rfl rfl rfl rfl en36 hb37 rfl rfl rfl rfl | exact ev_le 4 hS rfl rfl en36 hb37 rfl rfl rfl) ?_
      refine lateG_s (by first | rfl | (simp [evalOp, W, EE, EN, rdAt, mkT, subL, AV.cells, hS.var 2 rfl, hS.var 7 rfl, hS.var 8 rfl]; done) | exact ev_ow 4 hS rfl rfl rfl rfl rfl en36 hb37 rfl rfl rfl rfl | exact ev_le 4 hS rfl rfl en36 hb37 rfl rfl rfl) ?_
      refine lateG_n ?_
      try simp only [W, EE]
      refine w_owE (x := v38) 4 hS rfl rfl rfl rfl rfl (idx_some hb37).1 (holeG qd28 hb37) qv26 (fun in45 wn45 on45 en45 hkn45 => ?_)
      obtain ⟨kn45, hbn45, hen45⟩ := hkn45
      try simp only [W]
      refine w_stE (a := v43) (y' := v43) (i := a1.toNat) 4 hS rfl en45 (holeG qd28 hb37) rfl rfl rfl (by rw [qv43.cells]; rfl) qv43.stora (qv43.wr2 qv38) (by first | rfl | (rw [qv43.cells]; rfl)) (List.set_set ..) fun H hS => ?_
      try simp only [W]
      refine seq_n hK35 ?_
      refine w_seq fun K46 hK46 => ?_
      refine w_reg gC ?_
      try simp only [W, EE, reduceIte, Nat.reduceAdd, Nat.reduceLeDiff, hS.var 2 rfl]
      refine w_stv (a := .agg [v24, v26, v29, v31, .int .i64 b23.At]) (y' := .agg [v24, v26, v29, v31, .int .i64 b23.At]) 8 hS rfl rfl rfl rfl rfl (by simp only [storA, List.all_cons, List.all_nil, qv24.stor, qv26.stor, qv29.stor, qv31.stor]; rfl) rfl rfl fun H hS => ?_
      try simp only [W]
      refine seq_n hK46 ?_
      refine w_ret ?_
      have hS : Own _ (⟨v43, 1, x42.map (AV.int .i64)⟩ :: ⟨v26, 1, (ouw nm_SInt d28 b23.Queues).set a1.toNat (v43)⟩ :: ((inx np_SInt (AV.int .i64) 1 d28 b23.Queues a1.toNat) ++ (⟨v40, 1, ([a2] : List Int).map (AV.int .i64)⟩ :: ⟨.ptr ip33 wp33 0 0, 5, [.agg [v24, v26, v29, v31, .int .i64 b23.At]]⟩ :: ⟨v24, 1, b23.Quanta.map (AV.int .i64)⟩ :: ⟨v29, 1, b23.Credit.map (AV.int .i64)⟩ :: ⟨v31, 1, b23.Sent.map (AV.int .i64)⟩ :: ⟨.ptr ip2 wp2 0 0, 5, [.agg [.fz (a0.Quanta.map (AV.int .i64)), .fz (a0.Queues.map (fzl (AV.int .i64))), .fz (a0.Credit.map (AV.int .i64)), .fz (a0.Sent.map (AV.int .i64)), .int .i64 a0.At]]⟩ :: ⟨.ptr ip4 wp4 0 0, 5, [.agg [v24, v26, v29, v31, .int .i64 b23.At]]⟩ :: F))) := Own.catI_ (bl := [[⟨v40, 1, ([a2] : List Int).map (AV.int .i64)⟩], [⟨v43, 1, x42.map (AV.int .i64)⟩], [⟨.ptr ip33 wp33 0 0, 5, [.agg [v24, v26, v29, v31, .int .i64 b23.At]]⟩], [⟨v24, 1, b23.Quanta.map (AV.int .i64)⟩], [⟨v26, 1, (ouw nm_SInt d28 b23.Queues).set a1.toNat (v43)⟩], [⟨v29, 1, b23.Credit.map (AV.int .i64)⟩], [⟨v31, 1, b23.Sent.map (AV.int .i64)⟩], [⟨.ptr ip2 wp2 0 0, 5, [.agg [.fz (a0.Quanta.map (AV.int .i64)), .fz (a0.Queues.map (fzl (AV.int .i64))), .fz (a0.Credit.map (AV.int .i64)), .fz (a0.Sent.map (AV.int .i64)), .int .i64 a0.At]]⟩], [⟨.ptr ip4 wp4 0 0, 5, [.agg [v24, v26, v29, v31, .int .i64 b23.At]]⟩], (inx np_SInt (AV.int .i64) 1 d28 b23.Queues a1.toNat)]) (F := F) hS 10 rfl [1, 4, 9, 0, 2, 3, 5, 6, 7, 8] (by decide)
      obtain ⟨d47, qd47, hS⟩ := closeN (p := np_SInt) (c := (AV.int .i64)) (m := nm_SInt) (b := b37) (y := x42) hS qd28 qv43 hb37
      have hS : Own _ (⟨v40, 1, ([a2] : List Int).map (AV.int .i64)⟩ :: ⟨.ptr ip33 wp33 0 0, 5, [.agg [v24, v26, v29, v31, .int .i64 b23.At]]⟩ :: ⟨v24, 1, b23.Quanta.map (AV.int .i64)⟩ :: ⟨v26, 1, ouw nm_SInt d47 (b23.Queues.set a1.toNat x42)⟩ :: ⟨v29, 1, b23.Credit.map (AV.int .i64)⟩ :: ⟨v31, 1, b23.Sent.map (AV.int .i64)⟩ :: ⟨.ptr ip2 wp2 0 0, 5, [.agg [.fz (a0.Quanta.map (AV.int .i64)), .fz (a0.Queues.map (fzl (AV.int .i64))), .fz (a0.Credit.map (AV.int .i64)), .fz (a0.Sent.map (AV.int .i64)), .int .i64 a0.At]]⟩ :: ⟨.ptr ip4 wp4 0 0, 5, [.agg [v24, v26, v29, v31, .int .i64 b23.At]]⟩ :: ((inn np_SInt (AV.int .i64) 1 d47 (b23.Queues.set a1.toNat x42)) ++ (F))) := Own.catI_ (bl := [[⟨v26, 1, ouw nm_SInt d47 (b23.Queues.set a1.toNat x42)⟩], (inn np_SInt (AV.int .i64) 1 d47 (b23.Queues.set a1.toNat x42)), [⟨v40, 1, ([a2] : List Int).map (AV.int .i64)⟩], [⟨.ptr ip33 wp33 0 0, 5, [.agg [v24, v26, v29, v31, .int .i64 b23.At]]⟩], [⟨v24, 1, b23.Quanta.map (AV.int .i64)⟩], [⟨v29, 1, b23.Credit.map (AV.int .i64)⟩], [⟨v31, 1, b23.Sent.map (AV.int .i64)⟩], [⟨.ptr ip2 wp2 0 0, 5, [.agg [.fz (a0.Quanta.map (AV.int .i64)), .fz (a0.Queues.map (fzl (AV.int .i64))), .fz (a0.Credit.map (AV.int .i64)), .fz (a0.Sent.map (AV.int .i64)), .int .i64 a0.At]]⟩], [⟨.ptr ip4 wp4 0 0, 5, [.agg [v24, v26, v29, v31, .int .i64 b23.At]]⟩]]) (F := F) hS 9 rfl [2, 3, 4, 0, 5, 6, 7, 8, 1] (by decide)
      refine fin_r hK0 (res_c rfl rfl (hS.var 7 rfl) rfl (res_tc rfl rfl)) ?_
      try obtain rfl := Option.some.inj h
      have hS : Own _ (⟨v24, 1, b23.Quanta.map (AV.int .i64)⟩ :: ⟨v26, 1, ouw nm_SInt d47 (b23.Queues.set a1.toNat x42)⟩ :: ⟨v29, 1, b23.Credit.map (AV.int .i64)⟩ :: ⟨v31, 1, b23.Sent.map (AV.int .i64)⟩ :: ((inn np_SInt (AV.int .i64) 1 d47 (b23.Queues.set a1.toNat x42)) ++ (F))) := Own.catI_ (bl := [[⟨v40, 1, ([a2] : List Int).map (AV.int .i64)⟩], [⟨.ptr ip33 wp33 0 0, 5, [.agg [v24, v26, v29, v31, .int .i64 b23.At]]⟩], [⟨v24, 1, b23.Quanta.map (AV.int .i64)⟩], [⟨v26, 1, ouw nm_SInt d47 (b23.Queues.set a1.toNat x42)⟩], [⟨v29, 1, b23.Credit.map (AV.int .i64)⟩], [⟨v31, 1, b23.Sent.map (AV.int .i64)⟩], [⟨.ptr ip2 wp2 0 0, 5, [.agg [.fz (a0.Quanta.map (AV.int .i64)), .fz (a0.Queues.map (fzl (AV.int .i64))), .fz (a0.Credit.map (AV.int .i64)), .fz (a0.Sent.map (AV.int .i64)), .int .i64 a0.At]]⟩], [⟨.ptr ip4 wp4 0 0, 5, [.agg [v24, v26, v29, v31, .int .i64 b23.At]]⟩], (inn np_SInt (AV.int .i64) 1 d47 (b23.Queues.set a1.toNat x42))]) (F := F) hS 9 rfl [2, 3, 4, 5, 8] (by decide)
      exact hP _ qv24 _ qv26 _ qd47 _ qv29 _ qv31 _ hS
theorem impl_in_w {a0 : Int} {a1 : Int} {a2 : Int} {r : (Bool)} (h : impl_in a0 a1 a2 = some r) {F : List It} {H : Heap} (hS : Own H (F)) {P : AV → Heap → Prop} (hP : ∀ H', Own H' (F) → P (.bool r) H') : ACall C 114 [.int .i64 a0, .int .i64 a1, .int .i64 a2] H P := by
  refine acall_of gC (res := [.tmp 6]) (n := 15) rfl rfl rfl rfl fun K0 hK0 => ?_
  simp only [W, Nat.reduceSub, Nat.reduceAdd, List.replicate]
  unfold impl_in at h
  refine w_seq fun K1 hK1 => ?_
  refine w_reg gC ?_
  try simp only [W, Nat.reduceAdd]
  refine seq_n hK1 ?_
  refine w_seq fun K2 hK2 => ?_
  refine w_reg gC ?_
  try simp only [W, EE, Nat.reduceAdd]
  refine w_grdT h (fun hc h => ?_) (fun hc h => ?_)
  · try simp only [W, EE, reduceIte, hc]
    refine seq_n hK2 ?_
    refine w_ret ?_
    refine fin_r1 hK0 rfl ?_
    try obtain rfl := Option.some.inj h
    exact hP _ hS
  · try simp only [W, hc]
    refine seq_n hK2 ?_
    refine w_ret ?_
    refine fin_r1 hK0 rfl ?_
    try obtain rfl := Option.some.inj h
    exact hP _ hS
theorem slices_IndexFunc_int_w {a0 : List Int} {g1 : Int → Option Bool} {f1 : FuncId} {c1 : List AV} {r : (Int)} (h : slices_IndexFunc_int a0 g1 = some r) {F : List It} {H : Heap} (hg1 : ∀ {x0 : Int} {r : Bool}, g1 x0 = some r → ∀ (L : List It) (n : Nat), L.drop n = F → ∀ (H : Heap), Own H L → ∀ (P : AV → Heap → Prop), (∀ H', Own H' L → P (.bool r) H') → ACall C f1 ([.int .i64 x0] ++ c1) H P) (hS : Own H (F)) {P : AV → Heap → Prop} (hP : ∀ H', Own H' (F) → P (.int .i64 r) H') : ACall C 246 [.fz (a0.map (AV.int .i64)), .fn f1 c1] H P := by
  refine acall_of gC (res := [.tmp 4]) (n := 19) rfl rfl rfl rfl fun K0 hK0 => ?_
  simp only [W, Nat.reduceSub, Nat.reduceAdd, List.replicate]
  unfold slices_IndexFunc_int at h
  refine w_seq fun K1 hK1 => ?_
  refine w_reg gC ?_
  try simp only [W, Nat.reduceAdd]
  refine seq_n hK1 ?_
  refine w_seq fun K2 hK2 => ?_
  refine w_seq fun K3 hK3 => ?_
  refine w_reg gC ?_
  try simp only [W, EE, Nat.reduceAdd]
  refine seq_n hK3 ?_
  obtain ⟨y5, hw6, g12⟩ := Option.bind_eq_some_iff.1 h
  refine w_join gC (fun s H => y5 = LR.next () ∧ s = [u, u, u, u, u, u, u, u, u, u, u, u, u, u, u, u, u, u, u] ∧ Own H (F)) (fun K7 hK7 => ?_) (fun s H hq => ?_)
  · refine w_blk fun K8 hK8 => ?_
    refine w_loop gC hw6 (fun x s H => s = [.fz (a0.map (AV.int .i64)), .fn f1 c1, u, u, u, u, u, .int .i64 (a0.length : Int), .int .i64 x, u, u, u, u, u, u, u, u, u, u] ∧ Own H (F)) ⟨rfl, hS⟩ (fun x4 y11 s H h hd10 hi K9 hK9 => ?_)
    skip
    try dsimp only at hi
    obtain ⟨rfl, hS⟩ := hi
    simp only [slices_IndexFunc_int_l0] at h
    refine w_seq fun K13 hK13 => ?_
    refine w_reg gC ?_
    try simp only [W, EE, Nat.reduceAdd]
    refine seq_n hK13 ?_
    refine w_seq fun K14 hK14 => ?_
    refine w_if ?_
    simp only [W]
    refine w_cnd h (fun hc h => ?_) (fun hc h => ?_)
    · refine w_skip ?_
      refine seq_n hK14 ?_
      refine w_seq fun K15 hK15 => ?_
      refine w_blk fun K16 hK16 => ?_
      refine w_seq fun K17 hK17 => ?_
      refine w_reg gC ?_
      try simp only [W, Nat.reduceAdd]
      refine seq_n hK17 ?_
      refine w_seq fun K18 hK18 => ?_
      refine w_reg gC ?_
      try simp only [W, EE, Nat.reduceAdd]
      refine w_fz rfl rfl rfl (fun _ => rfl) h fun b19 hb19 h => ?_
      try simp only [W, EE]
      refine w_call h fun b20 hb20 h => ?_
      refine hg1 hb20 _ 0 rfl _ hS _ fun H hS => ?_
      try simp only [W]
      refine seq_n hK18 ?_
      refine w_if ?_
      simp only [W]
      refine w_cnd h (fun hc h => ?_) (fun hc h => ?_)
      · refine w_seq fun K21 hK21 => ?_
        refine w_reg gC ?_
        try simp only [W, Nat.reduceAdd]
        refine seq_n hK21 ?_
        refine w_ret ?_
        refine blk_r hK16 ?_
        refine seq_r hK15 ?_
        try obtain rfl := Option.some.inj h
        obtain rfl := hd10 _ rfl
        have h : (some (LR.done x4) : Option (LR Unit (Int))) = some (LR.done x4) := rfl
        refine lp_r hK9 ?_
        refine blk_r hK8 ?_
        try obtain rfl := Option.some.inj h
        obtain rfl := Option.some.inj g12
        have h : (some x4 : Option (Int)) = some x4 := rfl
        refine cut_r hK7 ?_
        refine seq_r hK2 ?_
        refine fin_r1 hK0 rfl ?_
        try obtain rfl := Option.some.inj h
        exact hP _ hS
      · refine w_skip ?_
        refine blk_n0 hK16 ?_
        refine seq_n hK15 ?_
        refine w_reg gC ?_
        try simp only [W, EE, Nat.reduceAdd]
        exact lp_n hK9 h ⟨rfl, hS⟩
    · refine w_exit ?_
      refine seq_x hK14 ?_
      try obtain rfl := Option.some.inj h
      obtain rfl := hd10 _ rfl
      have h : (some (LR.next ()) : Option (LR Unit (Int))) = some (LR.next ()) := rfl
      refine lp_x hK9 ?_
      refine blk_e hK8 ?_
      exact cut_n hK7 ⟨(Option.some.inj h).symm, rfl, hS⟩
  · obtain ⟨rfl, rfl, hS⟩ := hq
    replace h := g12
    try dsimp only at h
    refine seq_n hK2 ?_
    refine w_seq fun K28 hK28 => ?_
    refine w_reg gC ?_
    try simp only [W, Nat.reduceAdd]
    refine seq_n hK28 ?_
    refine w_ret ?_
    refine fin_r1 hK0 rfl ?_
    try obtain rfl := Option.some.inj h
    exact hP _ hS
theorem slices_ContainsFunc_int_w {a0 : List Int} {g1 : Int → Option Bool} {f1 : FuncId} {c1 : List AV} {r : (Bool)} (h : slices_ContainsFunc_int a0 g1 = some r) {F : List It} {H : Heap} (hg1 : ∀ {x0 : Int} {r : Bool}, g1 x0 = some r → ∀ (L : List It) (n : Nat), L.drop n = F → ∀ (H : Heap), Own H L → ∀ (P : AV → Heap → Prop), (∀ H', Own H' L → P (.bool r) H') → ACall C f1 ([.int .i64 x0] ++ c1) H P) (hS : Own H (F)) {P : AV → Heap → Prop} (hP : ∀ H', Own H' (F) → P (.bool r) H') : ACall C 169 [.fz (a0.map (AV.int .i64)), .fn f1 c1] H P := by
  refine acall_of gC (res := [.tmp 4]) (n := 9) rfl rfl rfl rfl fun K0 hK0 => ?_
  simp only [W, Nat.reduceSub, Nat.reduceAdd, List.replicate]
  unfold slices_ContainsFunc_int at h
  refine w_seq fun K1 hK1 => ?_
  refine w_reg gC ?_
  try simp only [W, Nat.reduceAdd]
  refine seq_n hK1 ?_
  refine w_seq fun K2 hK2 => ?_
  refine w_reg gC ?_
  try simp only [W, Nat.reduceAdd]
  refine w_call h fun b3 hb3 h => ?_
  refine slices_IndexFunc_int_w hb3 hg1 hS fun H hS => ?_
  try simp only [W, EE]
  refine seq_n hK2 ?_
  refine w_ret ?_
  refine fin_r1 hK0 rfl ?_
  try obtain rfl := Option.some.inj h
  exact hP _ hS
theorem impl_areQuanta_1_w {a0 : Int} {r : (Bool)} (h : impl_areQuanta_1 a0 = some r) {F : List It} {H : Heap} (hS : Own H (F)) {P : AV → Heap → Prop} (hP : ∀ H', Own H' (F) → P (.bool r) H') : ACall C 260 [.int .i64 a0] H P := by
  refine acall_of gC (res := [.tmp 2]) (n := 6) rfl rfl rfl rfl fun K0 hK0 => ?_
  simp only [W, Nat.reduceSub, Nat.reduceAdd, List.replicate]
  unfold impl_areQuanta_1 at h
  refine w_seq fun K1 hK1 => ?_
  refine w_reg gC ?_
  try simp only [W, Nat.reduceAdd]
  refine seq_n hK1 ?_
  refine w_seq fun K2 hK2 => ?_
  refine w_reg gC ?_
  try simp only [W, Nat.reduceAdd]
  refine w_call h fun b3 hb3 h => ?_
  refine impl_in_w hb3 hS fun H hS => ?_
  try simp only [W]
  refine seq_n hK2 ?_
  refine w_ret ?_
  refine fin_r1 hK0 rfl ?_
  try obtain rfl := Option.some.inj h
  exact hP _ hS
theorem impl_areQuanta_w {a0 : List Int} {r : (Bool)} (h : impl_areQuanta a0 = some r) {F : List It} {H : Heap} (hS : Own H (F)) {P : AV → Heap → Prop} (hP : ∀ H', Own H' (F) → P (.bool r) H') : ACall C 211 [.fz (a0.map (AV.int .i64))] H P := by
  refine acall_of gC (res := [.tmp 2]) (n := 11) rfl rfl rfl rfl fun K0 hK0 => ?_
  simp only [W, Nat.reduceSub, Nat.reduceAdd, List.replicate]
  unfold impl_areQuanta at h
  refine w_seq fun K1 hK1 => ?_
  refine w_reg gC ?_
  try simp only [W, Nat.reduceAdd]
  refine seq_n hK1 ?_
  refine w_seq fun K2 hK2 => ?_
  refine w_reg gC ?_
  try simp only [W, EE, Nat.reduceAdd]
  refine w_call h fun b3 hb3 h => ?_
  refine impl_in_w hb3 hS fun H hS => ?_
  try simp only [W]
  refine w_grdT h (fun hc h => ?_) (fun hc h => ?_)
  · try simp only [W, hc]
    refine w_call h fun b4 hb4 h => ?_
    refine slices_ContainsFunc_int_w hb4 (fun h _ n hL _ hS _ hP => impl_areQuanta_1_w h hS hP) hS fun H hS => ?_
    try simp only [W, reduceIte]
    refine seq_n hK2 ?_
    refine w_ret ?_
    refine fin_r1 hK0 rfl ?_
    try obtain rfl := Option.some.inj h
    exact hP _ hS
  · try simp only [W, hc]
    refine seq_n hK2 ?_
    refine w_ret ?_
    refine fin_r1 hK0 rfl ?_
    try obtain rfl := Option.some.inj h
    exact hP _ hS
theorem impl_isPacket_w {a0 : Int} {r : (Bool)} (h : impl_isPacket a0 = some r) {F : List It} {H : Heap} (hS : Own H (F)) {P : AV → Heap → Prop} (hP : ∀ H', Own H' (F) → P (.bool r) H') : ACall C 115 [.int .i64 a0] H P := by
  refine acall_of gC (res := [.tmp 2]) (n := 5) rfl rfl rfl rfl fun K0 hK0 => ?_
  simp only [W, Nat.reduceSub, Nat.reduceAdd, List.replicate]
  unfold impl_isPacket at h
  refine w_seq fun K1 hK1 => ?_
  refine w_reg gC ?_
  try simp only [W, Nat.reduceAdd]
  refine seq_n hK1 ?_
  refine w_seq fun K2 hK2 => ?_
  refine w_reg gC ?_
  try simp only [W, Nat.reduceAdd]
  refine w_call h fun b3 hb3 h => ?_
  refine impl_in_w hb3 hS fun H hS => ?_
  try simp only [W]
  refine seq_n hK2 ?_
  refine w_ret ?_
  refine fin_r1 hK0 rfl ?_
  try obtain rfl := Option.some.inj h
  exact hP _ hS
theorem impl_GoodTurns_1_w {a0 : Int} {r : (Bool)} (h : impl_GoodTurns_1 a0 = some r) {F : List It} {H : Heap} (hS : Own H (F)) {P : AV → Heap → Prop} (hP : ∀ H', Own H' (F) → P (.bool r) H') : ACall C 212 [.int .i64 a0] H P := by
  refine acall_of gC (res := [.tmp 2]) (n := 6) rfl rfl rfl rfl fun K0 hK0 => ?_
  simp only [W, Nat.reduceSub, Nat.reduceAdd, List.replicate]
  unfold impl_GoodTurns_1 at h
  refine w_seq fun K1 hK1 => ?_
  refine w_reg gC ?_
  try simp only [W, Nat.reduceAdd]
  refine seq_n hK1 ?_
  refine w_seq fun K2 hK2 => ?_
  refine w_reg gC ?_
  try simp only [W, Nat.reduceAdd]
  refine w_call h fun b3 hb3 h => ?_
  refine impl_isPacket_w hb3 hS fun H hS => ?_
  try simp only [W]
  refine seq_n hK2 ?_
  refine w_ret ?_
  refine fin_r1 hK0 rfl ?_
  try obtain rfl := Option.some.inj h
  exact hP _ hS
theorem impl_GoodTurns_w {a0 : Turns} {r : (Bool)} (h : impl_GoodTurns a0 = some r) {F : List It} {H : Heap} (hS : Own H (F)) {P : AV → Heap → Prop} (hP : ∀ H', Own H' (F) → P (.bool r) H') : ACall C 113 [.agg [.fz (a0.Quanta.map (AV.int .i64)), .fz (a0.Queues.map (fzl (AV.int .i64))), .fz (a0.Credit.map (AV.int .i64)), .fz (a0.Sent.map (AV.int .i64)), .int .i64 a0.At]] H P := by
  refine acall_of gC (res := [.tmp 2]) (n := 87) rfl rfl rfl rfl fun K0 hK0 => ?_
  simp only [W, Nat.reduceSub, Nat.reduceAdd, List.replicate]
  unfold impl_GoodTurns at h
  refine w_seq fun K1 hK1 => ?_
  refine w_reg gC ?_
  try simp only [W, Nat.reduceAdd]
  refine w_box hS rfl rfl rfl rfl fun ip2 wp2 H hS => ?_
  try simp only [W]
  refine seq_n hK1 ?_
  refine w_seq fun K4 hK4 => ?_
  refine w_reg gC ?_
  try simp only [W, EE, Nat.reduceAdd, Nat.reduceBEq, hS.var 0 rfl]
  refine seq_n hK4 ?_
  refine w_seq fun K5 hK5 => ?_
  refine w_seq fun K6 hK6 => ?_
  obtain ⟨y8, h, g9⟩ := Option.bind_eq_some_iff.1 h
  refine w_join gC (fun s H => ∃ x7 : Bool, y8 = (x7) ∧ s = (u :: .ptr ip2 wp2 0 0 :: u :: u :: u :: u :: u :: u :: u :: u :: u :: u :: u :: u :: u :: u :: u :: u :: u :: u :: u :: u :: u :: u :: u :: u :: u :: u :: u :: u :: u :: u :: u :: u :: u :: u :: u :: u :: u :: u :: u :: .bool x7 :: u :: u :: u :: u :: u :: u :: u :: u :: u :: u :: u :: u :: u :: u :: u :: u :: u :: u :: u :: u :: u :: u :: u :: u :: u :: u :: u :: u :: u :: u :: u :: u :: u :: u :: u :: u :: u :: u :: u :: u :: u :: u :: u :: u :: u :: []) ∧ Own H (⟨.ptr ip2 wp2 0 0, 5, [.agg [.fz (a0.Quanta.map (AV.int .i64)), .fz (a0.Queues.map (fzl (AV.int .i64))), .fz (a0.Credit.map (AV.int .i64)), .fz (a0.Sent.map (AV.int .i64)), .int .i64 a0.At]]⟩ :: F)) (fun K10 hK10 => ?_) (fun s H hq => ?_)
  · refine w_seq fun K11 hK11 => ?_
    refine w_reg gC ?_
    try simp only [W, EE, Nat.reduceAdd, Nat.reduceBEq, hS.var 0 rfl]
    refine w_call h fun b12 hb12 h => ?_
    refine impl_areQuanta_w hb12 hS fun H hS => ?_
    try simp only [W]
    refine w_grdT h (fun hc h => ?_) (fun hc h => ?_)
    · try simp only [W, hc]
      refine seq_n hK11 ?_
      refine w_kill ?_
      exact cut_n hK10 ⟨_, (Option.some.inj h).symm, rfl, hS⟩
    · try simp only [W, EE, reduceIte, Nat.reduceAdd, Nat.reduceBEq, Bool.false_eq_true, hS.var 0 rfl, hc]
      refine w_grdT h (fun hc h => ?_) (fun hc h => ?_)
      · try simp only [W, hc]
        refine seq_n hK11 ?_
        refine w_kill ?_
        exact cut_n hK10 ⟨_, (Option.some.inj h).symm, rfl, hS⟩
      · try simp only [W, EE, reduceIte, Nat.reduceAdd, Nat.reduceBEq, Bool.false_eq_true, hS.var 0 rfl, hc]
        refine w_grdT h (fun hc h => ?_) (fun hc h => ?_)
        · try simp only [W, hc]
          refine seq_n hK11 ?_
          refine w_kill ?_
          exact cut_n hK10 ⟨_, (Option.some.inj h).symm, rfl, hS⟩
        · try simp only [W, EE, reduceIte, Nat.reduceAdd, Nat.reduceBEq, Bool.false_eq_true, hS.var 0 rfl, hc]
          refine w_grdT h (fun hc h => ?_) (fun hc h => ?_)
          · try simp only [W, hc]
            refine seq_n hK11 ?_
            refine w_kill ?_
            exact cut_n hK10 ⟨_, (Option.some.inj h).symm, rfl, hS⟩
          · try simp only [W, EE, Nat.reduceAdd, Nat.reduceBEq, hS.var 0 rfl, hc]
            refine w_call h fun b13 hb13 h => ?_
            refine impl_in_w hb13 hS fun H hS => ?_
            try simp only [W, reduceIte, Bool.false_eq_true]
            refine seq_n hK11 ?_
            refine w_kill ?_
            exact cut_n hK10 ⟨_, (Option.some.inj h).symm, rfl, hS⟩
  · obtain ⟨x7, ey, rfl, hS⟩ := hq; obtain rfl := ey.symm
    replace h := g9
    try dsimp only at h
    refine seq_n hK6 ?_
    refine w_if ?_
    simp only [W]
    refine w_cnd h (fun hc h => ?_) (fun hc h => ?_)
    · refine w_seq fun K14 hK14 => ?_
      refine w_reg gC ?_
      try simp only [W, Nat.reduceAdd]
      refine seq_n hK14 ?_
      refine w_ret ?_
      refine seq_r hK5 ?_
      refine fin_r1 hK0 rfl ?_
      try obtain rfl := Option.some.inj h
      exact hP _ (hS.sel 1 [] (by decide))
    · refine w_skip ?_
      refine seq_n hK5 ?_
      refine w_seq fun K15 hK15 => ?_
      refine w_seq fun K16 hK16 => ?_
      refine w_reg gC ?_
      try simp only [W, EE, Nat.reduceAdd, Nat.reduceBEq, hS.var 0 rfl]
      refine seq_n hK16 ?_
      obtain ⟨y18, hw19, g25⟩ := Option.bind_eq_some_iff.1 h
      refine w_join gC (fun s H => y18 = LR.next () ∧ s = (u :: u :: u :: u :: u :: u :: u :: u :: u :: u :: u :: u :: u :: u :: u :: u :: u :: u :: u :: u :: u :: u :: u :: u :: u :: u :: u :: u :: u :: u :: u :: u :: u :: u :: u :: u :: u :: u :: u :: u :: u :: u :: u :: u :: u :: u :: u :: u :: u :: u :: u :: u :: u :: u :: u :: u :: u :: u :: u :: u :: u :: u :: u :: u :: u :: u :: u :: u :: u :: u :: u :: u :: u :: u :: u :: u :: u :: u :: u :: u :: u :: u :: u :: u :: u :: u :: u :: []) ∧ Own H (F)) (fun K20 hK20 => ?_) (fun s H hq => ?_)
      · refine w_blk fun K21 hK21 => ?_
        refine w_loop gC hw19 (fun x s H => s = (u :: .ptr ip2 wp2 0 0 :: u :: u :: u :: u :: u :: u :: u :: u :: u :: u :: u :: u :: u :: u :: u :: u :: u :: u :: u :: u :: u :: u :: u :: u :: u :: u :: u :: u :: u :: u :: u :: u :: u :: u :: u :: u :: u :: u :: u :: u :: u :: .fz (a0.Queues.map (fzl (AV.int .i64))) :: .int .i64 (a0.Queues.length : Int) :: .int .i64 x :: u :: u :: u :: u :: u :: u :: u :: u :: u :: u :: u :: u :: u :: u :: u :: u :: u :: u :: u :: u :: u :: u :: u :: u :: u :: u :: u :: u :: u :: u :: u :: u :: u :: u :: u :: u :: u :: u :: u :: u :: u :: []) ∧ Own H (⟨.ptr ip2 wp2 0 0, 5, [.agg [.fz (a0.Quanta.map (AV.int .i64)), .fz (a0.Queues.map (fzl (AV.int .i64))), .fz (a0.Credit.map (AV.int .i64)), .fz (a0.Sent.map (AV.int .i64)), .int .i64 a0.At]]⟩ :: F)) ⟨rfl, hS⟩ (fun x17 y24 s H h hd23 hi K22 hK22 => ?_)
        skip
        try dsimp only at hi
        obtain ⟨rfl, hS⟩ := hi
        simp only [impl_GoodTurns_l0] at h
        refine w_seq fun K26 hK26 => ?_
        refine w_reg gC ?_
        try simp only [W, EE, Nat.reduceAdd]
        refine seq_n hK26 ?_
        refine w_seq fun K27 hK27 => ?_
        refine w_if ?_
        simp only [W]
        refine w_cnd h (fun hc h => ?_) (fun hc h => ?_)
        · refine w_skip ?_
          refine seq_n hK27 ?_
          refine w_seq fun K28 hK28 => ?_
          refine w_blk fun K29 hK29 => ?_
          refine w_seq fun K30 hK30 => ?_
          refine w_reg gC ?_
          try simp only [W, EE, Nat.reduceAdd]
          refine w_fz rfl rfl rfl (fun _ => rfl) h fun b31 hb31 h => ?_
          try simp only [W, EE, EN]
          refine seq_n hK30 ?_
          refine w_seq fun K32 hK32 => ?_
          refine w_seq fun K33 hK33 => ?_
          obtain ⟨y35, h, g36⟩ := Option.bind_eq_some_iff.1 h
          refine w_join gC (fun s H => ∃ x34 : Bool, y35 = (x34) ∧ s = (u :: .ptr ip2 wp2 0 0 :: u :: u :: .int .i64 x17 :: .fz (b31.map (AV.int .i64)) :: u :: u :: u :: u :: u :: u :: u :: u :: u :: u :: u :: u :: u :: u :: u :: u :: u :: u :: u :: u :: u :: u :: u :: u :: u :: u :: u :: u :: u :: u :: u :: u :: u :: u :: u :: u :: u :: .fz (a0.Queues.map (fzl (AV.int .i64))) :: .int .i64 (a0.Queues.length : Int) :: .int .i64 x17 :: u :: u :: u :: u :: u :: u :: u :: u :: u :: u :: .bool x34 :: u :: u :: u :: u :: u :: u :: u :: u :: u :: u :: u :: u :: u :: u :: u :: u :: u :: u :: u :: u :: u :: u :: u :: u :: u :: u :: u :: u :: u :: u :: []) ∧ Own H (⟨.ptr ip2 wp2 0 0, 5, [.agg [.fz (a0.Quanta.map (AV.int .i64)), .fz (a0.Queues.map (fzl (AV.int .i64))), .fz (a0.Credit.map (AV.int .i64)), .fz (a0.Sent.map (AV.int .i64)), .int .i64 a0.At]]⟩ :: F)) (fun K37 hK37 => ?_) (fun s H hq => ?_)
          · refine w_seq fun K38 hK38 => ?_
            refine w_reg gC ?_
            try simp only [W, EE, Nat.reduceAdd]
            refine w_grdT h (fun hc h => ?_) (fun hc h => ?_)
            · try simp only [W, hc]
              refine seq_n hK38 ?_
              refine w_kill ?_
              exact cut_n hK37 ⟨_, (Option.some.inj h).symm, rfl, hS⟩
            · try simp only [W, hc]
              refine w_call h fun b39 hb39 h => ?_
              refine slices_ContainsFunc_int_w hb39 (fun h _ n hL _ hS _ hP => impl_GoodTurns_1_w h hS hP) hS fun H hS => ?_
              try simp only [W, reduceIte, Bool.false_eq_true]
              refine seq_n hK38 ?_
              refine w_kill ?_
              exact cut_n hK37 ⟨_, (Option.some.inj h).symm, rfl, hS⟩
          · obtain ⟨x34, ey, rfl, hS⟩ := hq; obtain rfl := ey.symm
            replace h := g36
            try dsimp only at h
            refine seq_n hK33 ?_
            refine w_if ?_
            simp only [W]
            refine w_cnd h (fun hc h => ?_) (fun hc h => ?_)
            · refine w_seq fun K40 hK40 => ?_
              refine w_reg gC ?_
              try simp only [W, Nat.reduceAdd]
              refine seq_n hK40 ?_
              refine w_ret ?_
              refine seq_r hK32 ?_
              refine blk_r hK29 ?_
              refine seq_r hK28 ?_
              try obtain rfl := Option.some.inj h
              obtain rfl := hd23 _ rfl
              have h : (some (LR.done false) : Option (LR Unit (Bool))) = some (LR.done false) := rfl
              refine lp_r hK22 ?_
              refine blk_r hK21 ?_
              try obtain rfl := Option.some.inj h
              obtain rfl := Option.some.inj g25
              have h : (some false : Option (Bool)) = some false := rfl
              refine cut_r hK20 ?_
              refine seq_r hK15 ?_
              refine fin_r1 hK0 rfl ?_
              try obtain rfl := Option.some.inj h
              exact hP _ (hS.sel 1 [] (by decide))
            · refine w_skip ?_
              refine seq_n hK32 ?_
              refine w_seq fun K45 hK45 => ?_
              obtain ⟨y47, h, g48⟩ := Option.bind_eq_some_iff.1 h
              refine w_join gC (fun s H => ∃ x46 : Bool, y47 = (x46) ∧ s = (u :: .ptr ip2 wp2 0 0 :: u :: u :: u :: u :: u :: u :: u :: u :: u :: u :: u :: u :: u :: u :: u :: u :: u :: u :: u :: u :: u :: u :: u :: u :: u :: u :: u :: u :: u :: u :: u :: u :: u :: u :: u :: u :: u :: u :: u :: u :: u :: .fz (a0.Queues.map (fzl (AV.int .i64))) :: .int .i64 (a0.Queues.length : Int) :: .int .i64 x17 :: u :: u :: u :: u :: u :: u :: u :: u :: u :: u :: u :: u :: u :: u :: u :: u :: u :: u :: u :: u :: u :: u :: u :: u :: u :: u :: u :: u :: u :: u :: u :: u :: u :: u :: u :: u :: u :: u :: u :: .bool x46 :: u :: []) ∧ Own H (⟨.ptr ip2 wp2 0 0, 5, [.agg [.fz (a0.Quanta.map (AV.int .i64)), .fz (a0.Queues.map (fzl (AV.int .i64))), .fz (a0.Credit.map (AV.int .i64)), .fz (a0.Sent.map (AV.int .i64)), .int .i64 a0.At]]⟩ :: F)) (fun K49 hK49 => ?_) (fun s H hq => ?_)
              · refine w_seq fun K50 hK50 => ?_
                refine w_reg gC ?_
                try simp only [W, EE, Nat.reduceAdd, Nat.reduceBEq, hS.var 0 rfl]
                refine w_fz rfl rfl rfl (fun _ => rfl) h fun b51 hb51 h => ?_
                try simp only [W, EE]
                refine w_call h fun b52 hb52 h => ?_
                refine impl_in_w hb52 hS fun H hS => ?_
                try simp only [W]
                refine w_grdT h (fun hc h => ?_) (fun hc h => ?_)
                · try simp only [W, hc]
                  refine seq_n hK50 ?_
                  refine w_kill ?_
                  exact cut_n hK49 ⟨_, (Option.some.inj h).symm, rfl, hS⟩
                · try simp only [W, EE, hc]
                  refine w_grdT h (fun hc h => ?_) (fun hc h => ?_)
                  · try simp only [W, EE, Nat.reduceAdd, Nat.reduceBEq, hS.var 0 rfl, hc]
                    refine w_fz rfl rfl rfl (fun _ => rfl) h fun b53 hb53 h => ?_
                    try simp only [W, EE, reduceIte, Bool.false_eq_true]
                    refine w_grdT h (fun hc h => ?_) (fun hc h => ?_)
                    · try simp only [W, hc]
                      refine seq_n hK50 ?_
                      refine w_kill ?_
                      exact cut_n hK49 ⟨_, (Option.some.inj h).symm, rfl, hS⟩
                    · try simp only [W, EE, Nat.reduceAdd, Nat.reduceBEq, hS.var 0 rfl, hc]
                      refine w_fz rfl rfl rfl (fun _ => rfl) h fun b54 hb54 h => ?_
                      try simp only [W, EE]
                      refine w_call h fun b55 hb55 h => ?_
                      refine impl_in_w hb55 hS fun H hS => ?_
                      try simp only [W, reduceIte, Bool.false_eq_true]
                      refine seq_n hK50 ?_
                      refine w_kill ?_
                      exact cut_n hK49 ⟨_, (Option.some.inj h).symm, rfl, hS⟩
                  · try simp only [W, EE, reduceIte, Nat.reduceAdd, Nat.reduceBEq, Bool.false_eq_true, hS.var 0 rfl, hc]
                    refine w_fz rfl rfl rfl (fun _ => rfl) h fun b56 hb56 h => ?_
                    try simp only [W, EE]
                    refine w_call h fun b57 hb57 h => ?_
                    refine impl_in_w hb57 hS fun H hS => ?_
                    try simp only [W, reduceIte, Bool.false_eq_true]
                    refine seq_n hK50 ?_
                    refine w_kill ?_
                    exact cut_n hK49 ⟨_, (Option.some.inj h).symm, rfl, hS⟩
              · obtain ⟨x46, ey, rfl, hS⟩ := hq; obtain rfl := ey.symm
                replace h := g48
                try dsimp only at h
                refine seq_n hK45 ?_
                refine w_if ?_
                simp only [W]
                refine w_cnd h (fun hc h => ?_) (fun hc h => ?_)
                · refine w_seq fun K58 hK58 => ?_
                  refine w_reg gC ?_
                  try simp only [W, Nat.reduceAdd]
                  refine seq_n hK58 ?_
                  refine w_ret ?_
                  refine blk_r hK29 ?_
                  refine seq_r hK28 ?_
                  try obtain rfl := Option.some.inj h
                  obtain rfl := hd23 _ rfl
                  have h : (some (LR.done false) : Option (LR Unit (Bool))) = some (LR.done false) := rfl
                  refine lp_r hK22 ?_
                  refine blk_r hK21 ?_
                  try obtain rfl := Option.some.inj h
                  obtain rfl := Option.some.inj g25
                  have h : (some false : Option (Bool)) = some false := rfl
                  refine cut_r hK20 ?_
                  refine seq_r hK15 ?_
                  refine fin_r1 hK0 rfl ?_
                  try obtain rfl := Option.some.inj h
                  exact hP _ (hS.sel 1 [] (by decide))
                · refine w_skip ?_
                  refine blk_n0 hK29 ?_
                  refine seq_n hK28 ?_
                  refine w_reg gC ?_
                  try simp only [W, EE, Nat.reduceAdd]
                  exact lp_n hK22 h ⟨rfl, hS⟩
        · refine w_exit ?_
          refine seq_x hK27 ?_
          try obtain rfl := Option.some.inj h
          obtain rfl := hd23 _ rfl
          have h : (some (LR.next ()) : Option (LR Unit (Bool))) = some (LR.next ()) := rfl
          refine lp_x hK22 ?_
          refine blk_e hK21 ?_
          exact cut_n hK20 ⟨(Option.some.inj h).symm, rfl, (hS.sel 1 [] (by decide))⟩
      · obtain ⟨rfl, rfl, hS⟩ := hq
        replace h := g25
        try dsimp only at h
        refine seq_n hK15 ?_
        refine w_seq fun K65 hK65 => ?_
        refine w_reg gC ?_
        try simp only [W, Nat.reduceAdd]
        refine seq_n hK65 ?_
        refine w_ret ?_
        refine fin_r1 hK0 rfl ?_
        try obtain rfl := Option.some.inj h
        exact hP _ hS
theorem slices_Clone_int_w {a0 : List Int} {r : List Int} (h : slices_Clone_int a0 = some r) {F : List It} {H : Heap} (hS : Own H F) {P : AV → Heap → Prop} (hP : ∀ v0 : AV, isSl v0 → ∀ H', Own H' (⟨v0, 1, r.map (AV.int .i64)⟩ :: F) → P v0 H') : ACall C 213 [.fz (a0.map (AV.int .i64))] H P :=
  clone_w (ids := cids) rfl (sz := 1) (b := 8) (by simp [cids]) (fun _ => rfl) (by decide) h hS hP
theorem impl_Turns_copied_w {a0 : Turns} {r : (Turns)} (h : impl_Turns_copied a0 = some r) {F : List It} {H : Heap} (hS : Own H (F)) {P : AV → Heap → Prop} (hP : ∀ v61 : AV, isSl v61 → ∀ v63 : AV, isSl v63 → ∀ d65 : List AV, isSls d65 (r.Queues).length → ∀ v66 : AV, isSl v66 → ∀ v68 : AV, isSl v68 → ∀ H', Own H' (⟨v61, 1, r.Quanta.map (AV.int .i64)⟩ :: ⟨v63, 1, ouw nm_SInt d65 r.Queues⟩ :: ⟨v66, 1, r.Credit.map (AV.int .i64)⟩ :: ⟨v68, 1, r.Sent.map (AV.int .i64)⟩ :: ((inn np_SInt (AV.int .i64) 1 d65 r.Queues) ++ F)) → P (.agg [v61, v63, v66, v68, .int .i64 r.At]) H') : ACall C 116 [.agg [.fz (a0.Quanta.map (AV.int .i64)), .fz (a0.Queues.map (fzl (AV.int .i64))), .fz (a0.Credit.map (AV.int .i64)), .fz (a0.Sent.map (AV.int .i64)), .int .i64 a0.At]] H P := by
  refine acall_of gC (res := [.cell 2 27]) (n := 34) rfl rfl rfl rfl fun K0 hK0 => ?_
  simp only [W, Nat.reduceSub, Nat.reduceAdd, List.replicate]
  unfold impl_Turns_copied at h
  refine w_seq fun K1 hK1 => ?_
  refine w_reg gC ?_
  try simp only [W, Nat.reduceAdd]
  refine w_box hS rfl rfl rfl rfl fun ip2 wp2 H hS => ?_
  try simp only [W]
  refine w_alloc hS rfl rfl fun ip4 wp4 H hS => ?_
  try simp only [W]
  refine seq_n hK1 ?_
  refine w_seq fun K6 hK6 => ?_
  refine w_drawL gC [(13, [])] (by kernel_rfl) rfl (by kernel_rfl) ?_
  try simp only [W, EE, reduceIte, Nat.reduceAdd, Nat.reduceBEq, hS.var 1 rfl, tabAt, qAt, Nat.reduceEqDiff, List.contains_cons, Nat.reduceBEq, Bool.or_true, Bool.or_self]
  refine w_callO (rsh := [[.sl [.sc]]]) (ys := [.fz (a0.Quanta.map (AV.int .i64))]) h rfl (by rfl) fun b7 hb7 h => ⟨.own 1 (b7.map (AV.int .i64)), slices_Clone_int_w hb7 (Own.nil _) fun v8 qv8 H hS => TV_ok rfl (TV_o 0 hS rfl qv8 (fun _ _ => by simp [takeE, takeT, plainA]) fun H hS => TV_n rfl), (noFz_o _ (fun _ => rfl) _), ?_⟩
  refine thaw_1 ?_
  refine TH_o hS (fun _ _ => rfl) (fun _ => rfl) fun v10 H qv10 hS => ?_
  refine TH_n ?_
  try simp only [List.headD_cons]
  try simp only [W, EE, Nat.reduceAdd, Nat.reduceBEq, hS.var 2 rfl, Nat.reduceBEq]
  refine w_callO (rsh := [[.sl [.sc]]]) (ys := [.fz (a0.Credit.map (AV.int .i64))]) h rfl (by rfl) fun b11 hb11 h => ⟨.own 1 (b11.map (AV.int .i64)), slices_Clone_int_w hb11 (Own.nil _) fun v12 qv12 H hS => TV_ok rfl (TV_o 0 hS rfl qv12 (fun _ _ => by simp [takeE, takeT, plainA]) fun H hS => TV_n rfl), (noFz_o _ (fun _ => rfl) _), ?_⟩
  refine thaw_1 ?_
  refine TH_o hS (fun _ _ => rfl) (fun _ => rfl) fun v14 H qv14 hS => ?_
  refine TH_n ?_
  try simp only [List.headD_cons]
  try simp only [W, EE, Nat.reduceAdd, Nat.reduceBEq, hS.var 3 rfl, Nat.reduceBEq]
  refine w_callO (rsh := [[.sl [.sc]]]) (ys := [.fz (a0.Sent.map (AV.int .i64))]) h rfl (by rfl) fun b15 hb15 h => ⟨.own 1 (b15.map (AV.int .i64)), slices_Clone_int_w hb15 (Own.nil _) fun v16 qv16 H hS => TV_ok rfl (TV_o 0 hS rfl qv16 (fun _ _ => by simp [takeE, takeT, plainA]) fun H hS => TV_n rfl), (noFz_o _ (fun _ => rfl) _), ?_⟩
  refine thaw_1 ?_
  refine TH_o hS (fun _ _ => rfl) (fun _ => rfl) fun v18 H qv18 hS => ?_
  refine TH_n ?_
  try simp only [List.headD_cons]
  try simp only [W, EE, Nat.reduceAdd, Nat.reduceBEq, hS.var 4 rfl, Nat.reduceBEq]
  refine w_bld rfl rfl rfl rfl (by simp only [fillA, qv10.stora, qv10.cells, qv14.stora, qv14.cells, qv18.stora, qv18.cells]; simp [E, splice, AV.cells, storA, stor1] <;> rfl) ?_
  try simp only [W]
  refine w_alloc hS rfl rfl fun ip19 wp19 H hS => ?_
  try simp only [W]
  refine w_stv (a := .agg [v10, .nil, v14, v18, .int .i64 a0.At]) (y' := .agg [v10, .nil, v14, v18, .int .i64 a0.At]) 0 hS rfl rfl rfl rfl rfl (by simp only [storA, List.all_cons, List.all_nil, qv10.stor, qv14.stor, qv18.stor]; rfl) rfl rfl fun H hS => ?_
  try simp only [W]
  refine seq_n hK6 ?_
  refine w_seq fun K21 hK21 => ?_
  refine w_seq fun K22 hK22 => ?_
  refine w_reg gC ?_
  try simp only [W, EE, Nat.reduceAdd, Nat.reduceBEq, hS.var 5 rfl]
  refine seq_n hK22 ?_
  obtain ⟨y31, hw32, g38⟩ := Option.bind_eq_some_iff.1 h
  refine w_join gC (fun s H => ∃ x28 : List (List Int), y31 = (x28) ∧ ∃ v29 : AV, isSl v29 ∧ ∃ d30 : List AV, isSls d30 (x28).length ∧ s = [u, u, .ptr ip4 wp4 0 0, .ptr ip19 wp19 0 0, u, u, u, u, u, u, u, u, u, u, u, u, u, u, u, u, u, u, u, u, u, u, u, u, u, u, u, u, u, u] ∧ Own H (⟨v10, 1, b7.map (AV.int .i64)⟩ :: ⟨v29, 1, ouw nm_SInt d30 x28⟩ :: ⟨v14, 1, b11.map (AV.int .i64)⟩ :: ⟨v18, 1, b15.map (AV.int .i64)⟩ :: ⟨.ptr ip4 wp4 0 0, 5, [.agg [.nil, .nil, .nil, .nil, .int .i64 0]]⟩ :: ⟨.ptr ip19 wp19 0 0, 5, [.agg [v10, v29, v14, v18, .int .i64 a0.At]]⟩ :: ((inn np_SInt (AV.int .i64) 1 d30 x28) ++ F))) (fun K33 hK33 => ?_) (fun s H hq => ?_)
  · refine w_blk fun K34 hK34 => ?_
    have hS := hS.nil_ 1
    obtain ⟨d59, qd59, hS⟩ := noneN (p := np_SInt) (c := (AV.int .i64)) (z := 1) (m := nm_SInt) hS
    have hS : Own _ (⟨AV.nil, 1, ouw nm_SInt d59 ([] : List (List Int))⟩ :: ⟨.ptr ip19 wp19 0 0, 5, [.agg [v10, .nil, v14, v18, .int .i64 a0.At]]⟩ :: ⟨v18, 1, b15.map (AV.int .i64)⟩ :: ⟨v14, 1, b11.map (AV.int .i64)⟩ :: ⟨v10, 1, b7.map (AV.int .i64)⟩ :: ⟨.ptr ip4 wp4 0 0, 5, [.agg [.nil, .nil, .nil, .nil, .int .i64 0]]⟩ :: ⟨.ptr ip2 wp2 0 0, 5, [.agg [.fz (a0.Quanta.map (AV.int .i64)), .fz (a0.Queues.map (fzl (AV.int .i64))), .fz (a0.Credit.map (AV.int .i64)), .fz (a0.Sent.map (AV.int .i64)), .int .i64 a0.At]]⟩ :: ((inn np_SInt (AV.int .i64) 1 d59 ([] : List (List Int))) ++ (F))) := Own.catI_ (bl := [[⟨AV.nil, 1, ouw nm_SInt d59 ([] : List (List Int))⟩], (inn np_SInt (AV.int .i64) 1 d59 ([] : List (List Int))), [⟨.ptr ip19 wp19 0 0, 5, [.agg [v10, .nil, v14, v18, .int .i64 a0.At]]⟩], [⟨v18, 1, b15.map (AV.int .i64)⟩], [⟨v14, 1, b11.map (AV.int .i64)⟩], [⟨v10, 1, b7.map (AV.int .i64)⟩], [⟨.ptr ip4 wp4 0 0, 5, [.agg [.nil, .nil, .nil, .nil, .int .i64 0]]⟩], [⟨.ptr ip2 wp2 0 0, 5, [.agg [.fz (a0.Quanta.map (AV.int .i64)), .fz (a0.Queues.map (fzl (AV.int .i64))), .fz (a0.Credit.map (AV.int .i64)), .fz (a0.Sent.map (AV.int .i64)), .int .i64 a0.At]]⟩]]) (F := F) hS 8 rfl [0, 2, 3, 4, 5, 6, 7, 1] (by decide)
    have hS : Own _ (⟨v10, 1, b7.map (AV.int .i64)⟩ :: ⟨AV.nil, 1, ouw nm_SInt d59 ([] : List (List Int))⟩ :: ⟨v14, 1, b11.map (AV.int .i64)⟩ :: ⟨v18, 1, b15.map (AV.int .i64)⟩ :: ⟨.ptr ip4 wp4 0 0, 5, [.agg [.nil, .nil, .nil, .nil, .int .i64 0]]⟩ :: ⟨.ptr ip19 wp19 0 0, 5, [.agg [v10, .nil, v14, v18, .int .i64 a0.At]]⟩ :: ((inn np_SInt (AV.int .i64) 1 d59 ([] : List (List Int))) ++ (F))) := Own.catI_ (bl := [[⟨AV.nil, 1, ouw nm_SInt d59 ([] : List (List Int))⟩], [⟨.ptr ip19 wp19 0 0, 5, [.agg [v10, .nil, v14, v18, .int .i64 a0.At]]⟩], [⟨v18, 1, b15.map (AV.int .i64)⟩], [⟨v14, 1, b11.map (AV.int .i64)⟩], [⟨v10, 1, b7.map (AV.int .i64)⟩], [⟨.ptr ip4 wp4 0 0, 5, [.agg [.nil, .nil, .nil, .nil, .int .i64 0]]⟩], [⟨.ptr ip2 wp2 0 0, 5, [.agg [.fz (a0.Quanta.map (AV.int .i64)), .fz (a0.Queues.map (fzl (AV.int .i64))), .fz (a0.Credit.map (AV.int .i64)), .fz (a0.Sent.map (AV.int .i64)), .int .i64 a0.At]]⟩], (inn np_SInt (AV.int .i64) 1 d59 ([] : List (List Int)))]) (F := F) hS 8 rfl [4, 0, 3, 2, 5, 1, 7] (by decide)
    refine w_loop gC hw32 (fun x s H => match x with | (x23, x24) => ∃ v25 : AV, isSl v25 ∧ ∃ d27 : List AV, isSls d27 (x24).length ∧ s = [u, u, .ptr ip4 wp4 0 0, .ptr ip19 wp19 0 0, u, u, u, u, u, u, u, u, u, u, u, u, u, u, u, .fz (a0.Queues.map (fzl (AV.int .i64))), .int .i64 (a0.Queues.length : Int), .int .i64 x23, u, u, u, u, u, u, u, u, u, u, u, u] ∧ Own H (⟨v10, 1, b7.map (AV.int .i64)⟩ :: ⟨v25, 1, ouw nm_SInt d27 x24⟩ :: ⟨v14, 1, b11.map (AV.int .i64)⟩ :: ⟨v18, 1, b15.map (AV.int .i64)⟩ :: ⟨.ptr ip4 wp4 0 0, 5, [.agg [.nil, .nil, .nil, .nil, .int .i64 0]]⟩ :: ⟨.ptr ip19 wp19 0 0, 5, [.agg [v10, v25, v14, v18, .int .i64 a0.At]]⟩ :: ((inn np_SInt (AV.int .i64) 1 d27 x24) ++ F))) ⟨_, isSl_nil, _, qd59, rfl, hS⟩ (fun x y37 s H h hd36 hi K35 hK35 => ?_)
    obtain ⟨x23, x24⟩ := x
    try dsimp only at hi
    obtain ⟨v25, qv25, d27, qd27, rfl, hS⟩ := hi
    simp only [impl_Turns_copied_l0] at h
    refine w_seq fun K39 hK39 => ?_
    refine w_reg gC ?_
    try simp only [W, EE, Nat.reduceAdd]
    refine seq_n hK39 ?_
    refine w_seq fun K40 hK40 => ?_
    refine w_if ?_
    simp only [W]
    refine w_cnd h (fun hc h => ?_) (fun hc h => ?_)
    · refine w_skip ?_
      refine seq_n hK40 ?_
      refine w_seq fun K41 hK41 => ?_
      refine w_blk fun K42 hK42 => ?_
      refine w_seq fun K43 hK43 => ?_
      refine w_reg gC ?_
      try simp only [W, EE, Nat.reduceAdd]
      refine w_fz rfl rfl rfl (fun _ => rfl) h fun b44 hb44 h => ?_
      try simp only [W, EE, EN]
      refine seq_n hK43 ?_
      refine w_drawL gC [(7, []), (5, [])] (by kernel_rfl) rfl (by kernel_rfl) ?_
      try simp only [W, EE, reduceIte, Nat.reduceAdd, Nat.reduceBEq, hS.var 5 rfl, tabAt, qAt, Nat.reduceEqDiff, List.contains_cons, Nat.reduceBEq, Bool.or_self]
      refine w_callO (rsh := [[.sl [.sc]]]) (ys := [.fz (b44.map (AV.int .i64))]) h rfl (by rfl) fun b45 hb45 h => ⟨.own 1 (b45.map (AV.int .i64)), slices_Clone_int_w hb45 (Own.nil _) fun v46 qv46 H hS => TV_ok rfl (TV_o 0 hS rfl qv46 (fun _ _ => by simp [takeE, takeT, plainA]) fun H hS => TV_n rfl), (noFz_o _ (fun _ => rfl) _), ?_⟩
      refine thaw_1 ?_
      refine TH_o hS (fun _ _ => rfl) (fun _ => rfl) fun v48 H qv48 hS => ?_
      refine TH_n ?_
      try simp only [List.headD_cons]
      try simp only [W]
      refine w_lit (el := [v48]) hS rfl rfl rfl rfl (fill1 (isSl.clen qv48) qv48.stora) rfl (sz1 (isSl.clen qv48)) fun v49 H qv49 hS => ?_
      have hS : Own _ (⟨v49, 1, [v48]⟩ :: ⟨v48, 1, b45.map (AV.int .i64)⟩ :: ⟨v10, 1, b7.map (AV.int .i64)⟩ :: ⟨v25, 1, ouw nm_SInt d27 x24⟩ :: ⟨v14, 1, b11.map (AV.int .i64)⟩ :: ⟨v18, 1, b15.map (AV.int .i64)⟩ :: ⟨.ptr ip4 wp4 0 0, 5, [.agg [.nil, .nil, .nil, .nil, .int .i64 0]]⟩ :: ⟨.ptr ip19 wp19 0 0, 5, [.agg [v10, v25, v14, v18, .int .i64 a0.At]]⟩ :: ((inn np_SInt (AV.int .i64) 1 d27 x24) ++ (F))) := hS
      obtain ⟨d50, qd50, hS⟩ := oneN (m := nm_SInt) (p := np_SInt) (c := (AV.int .i64)) (b := b45) hS qv48
      have hS : Own _ (⟨v49, 1, ouw nm_SInt d50 ([b45] : List (List Int))⟩ :: ⟨v10, 1, b7.map (AV.int .i64)⟩ :: ⟨v25, 1, ouw nm_SInt d27 x24⟩ :: ⟨v14, 1, b11.map (AV.int .i64)⟩ :: ⟨v18, 1, b15.map (AV.int .i64)⟩ :: ⟨.ptr ip4 wp4 0 0, 5, [.agg [.nil, .nil, .nil, .nil, .int .i64 0]]⟩ :: ⟨.ptr ip19 wp19 0 0, 5, [.agg [v10, v25, v14, v18, .int .i64 a0.At]]⟩ :: ((inn np_SInt (AV.int .i64) 1 d50 ([b45] : List (List Int))) ++ (((inn np_SInt (AV.int .i64) 1 d27 x24) ++ (F))))) := Own.catI_ (bl := [[⟨v49, 1, ouw nm_SInt d50 ([b45] : List (List Int))⟩], (inn np_SInt (AV.int .i64) 1 d50 ([b45] : List (List Int))), [⟨v10, 1, b7.map (AV.int .i64)⟩], [⟨v25, 1, ouw nm_SInt d27 x24⟩], [⟨v14, 1, b11.map (AV.int .i64)⟩], [⟨v18, 1, b15.map (AV.int .i64)⟩], [⟨.ptr ip4 wp4 0 0, 5, [.agg [.nil, .nil, .nil, .nil, .int .i64 0]]⟩], [⟨.ptr ip19 wp19 0 0, 5, [.agg [v10, v25, v14, v18, .int .i64 a0.At]]⟩], (inn np_SInt (AV.int .i64) 1 d27 x24)]) (F := F) hS 9 rfl [0, 2, 3, 4, 5, 6, 7, 1, 8] (by decide)
      try simp only [W, EE]
      have hS : Own _ (⟨v25, 1, ouw nm_SInt d27 x24⟩ :: ⟨v49, 1, ouw nm_SInt d50 ([b45] : List (List Int))⟩ :: ((inn np_SInt (AV.int .i64) 1 d27 x24) ++ (((inn np_SInt (AV.int .i64) 1 d50 ([b45] : List (List Int))) ++ (⟨v10, 1, b7.map (AV.int .i64)⟩ :: ⟨v14, 1, b11.map (AV.int .i64)⟩ :: ⟨v18, 1, b15.map (AV.int .i64)⟩ :: ⟨.ptr ip4 wp4 0 0, 5, [.agg [.nil, .nil, .nil, .nil, .int .i64 0]]⟩ :: ⟨.ptr ip19 wp19 0 0, 5, [.agg [v10, v25, v14, v18, .int .i64 a0.At]]⟩ :: F))))) := Own.catI_ (bl := [[⟨v49, 1, ouw nm_SInt d50 ([b45] : List (List Int))⟩], [⟨v10, 1, b7.map (AV.int .i64)⟩], [⟨v25, 1, ouw nm_SInt d27 x24⟩], [⟨v14, 1, b11.map (AV.int .i64)⟩], [⟨v18, 1, b15.map (AV.int .i64)⟩], [⟨.ptr ip4 wp4 0 0, 5, [.agg [.nil, .nil, .nil, .nil, .int .i64 0]]⟩], [⟨.ptr ip19 wp19 0 0, 5, [.agg [v10, v25, v14, v18, .int .i64 a0.At]]⟩], (inn np_SInt (AV.int .i64) 1 d50 ([b45] : List (List Int))), (inn np_SInt (AV.int .i64) 1 d27 x24)]) (F := F) hS 9 rfl [2, 0, 8, 7, 1, 3, 4, 5, 6] (by decide)
      refine w_appN (l := x24) (m := nm_SInt) (p := np_SInt) (c := (AV.int .i64)) hS qv25 qv49 qd27 qd50 rfl rfl rfl nc_SInt rfl h fun v52 H n54 d53 qv52 qd53 hm h hS => ?_
      have hS : Own _ (⟨v10, 1, b7.map (AV.int .i64)⟩ :: ⟨v52, 1, ouw nm_SInt d53 n54⟩ :: ⟨v14, 1, b11.map (AV.int .i64)⟩ :: ⟨v18, 1, b15.map (AV.int .i64)⟩ :: ⟨.ptr ip4 wp4 0 0, 5, [.agg [.nil, .nil, .nil, .nil, .int .i64 0]]⟩ :: ⟨.ptr ip19 wp19 0 0, 5, [.agg [v10, v25, v14, v18, .int .i64 a0.At]]⟩ :: ((inn np_SInt (AV.int .i64) 1 d53 n54) ++ (F))) := Own.catI_ (bl := [[⟨v52, 1, ouw nm_SInt d53 n54⟩], (inn np_SInt (AV.int .i64) 1 d53 n54), [⟨v10, 1, b7.map (AV.int .i64)⟩], [⟨v14, 1, b11.map (AV.int .i64)⟩], [⟨v18, 1, b15.map (AV.int .i64)⟩], [⟨.ptr ip4 wp4 0 0, 5, [.agg [.nil, .nil, .nil, .nil, .int .i64 0]]⟩], [⟨.ptr ip19 wp19 0 0, 5, [.agg [v10, v25, v14, v18, .int .i64 a0.At]]⟩]]) (F := F) hS 7 rfl [2, 0, 3, 4, 5, 6, 1] (by decide)
      try simp only [W, EE, Nat.reduceAdd, Nat.reduceBEq, hS.var 5 rfl, Nat.reduceBEq]
      refine w_stv (a := v52) (y' := .agg [v10, v52, v14, v18, .int .i64 a0.At]) 5 hS rfl rfl rfl rfl (by rw [qv52.cells]; rfl) qv52.stora (qv52.wr _ _ (by simp)) rfl fun H hS => ?_
      try simp only [W]
      refine blk_n0 hK42 ?_
      refine seq_n hK41 ?_
      refine w_reg gC ?_
      try simp only [W, EE, Nat.reduceAdd]
      exact lp_n hK35 h ⟨_, qv52, _, qd53, rfl, hS⟩
    · refine w_exit ?_
      refine seq_x hK40 ?_
      try obtain rfl := Option.some.inj h
      obtain rfl := hd36 _ rfl
      have h : (some (x24) : Option ((List (List Int)))) = some (x24) := rfl
      refine lp_x hK35 ?_
      refine blk_e hK34 ?_
      exact cut_n hK33 ⟨_, (Option.some.inj h).symm, _, qv25, _, qd27, rfl, hS⟩
  · obtain ⟨x28, ey, v29, qv29, d30, qd30, rfl, hS⟩ := hq; obtain rfl := ey.symm
    replace h := g38
    try dsimp only at h
    refine seq_n hK21 ?_
    refine w_seq fun K60 hK60 => ?_
    refine w_reg gC ?_
    try simp only [W, EE, reduceIte, Nat.reduceAdd, Nat.reduceLeDiff, hS.var 5 rfl]
    refine w_stv (a := .agg [v10, v29, v14, v18, .int .i64 a0.At]) (y' := .agg [v10, v29, v14, v18, .int .i64 a0.At]) 4 hS rfl rfl rfl rfl rfl (by simp only [storA, List.all_cons, List.all_nil, qv10.stor, qv29.stor, qv14.stor, qv18.stor]; rfl) rfl rfl fun H hS => ?_
    try simp only [W]
    refine seq_n hK60 ?_
    refine w_ret ?_
    refine fin_r hK0 (res_c rfl rfl (hS.var 4 rfl) rfl rfl) ?_
    try obtain rfl := Option.some.inj h
    have hS : Own _ (⟨v10, 1, b7.map (AV.int .i64)⟩ :: ⟨v29, 1, ouw nm_SInt d30 x28⟩ :: ⟨v14, 1, b11.map (AV.int .i64)⟩ :: ⟨v18, 1, b15.map (AV.int .i64)⟩ :: ((inn np_SInt (AV.int .i64) 1 d30 x28) ++ (F))) := Own.catI_ (bl := [[⟨v10, 1, b7.map (AV.int .i64)⟩], [⟨v29, 1, ouw nm_SInt d30 x28⟩], [⟨v14, 1, b11.map (AV.int .i64)⟩], [⟨v18, 1, b15.map (AV.int .i64)⟩], [⟨.ptr ip4 wp4 0 0, 5, [.agg [v10, v29, v14, v18, .int .i64 a0.At]]⟩], [⟨.ptr ip19 wp19 0 0, 5, [.agg [v10, v29, v14, v18, .int .i64 a0.At]]⟩], (inn np_SInt (AV.int .i64) 1 d30 x28)]) (F := F) hS 7 rfl [0, 1, 2, 3, 6] (by decide)
    exact hP _ qv10 _ qv29 _ qd30 _ qv14 _ qv18 _ hS
theorem impl_PutPacket_w {a0 : Turns} {a1 : Int} {a2 : Int} {r : (Turns × Bool)} (h : impl_PutPacket a0 a1 a2 = some r) {F : List It} {H : Heap} (hS : Own H (F)) {P : AV → Heap → Prop} (hP : ∀ v49 : AV, isSl v49 → ∀ v51 : AV, isSl v51 → ∀ d53 : List AV, isSls d53 (r.1.Queues).length → ∀ v54 : AV, isSl v54 → ∀ v56 : AV, isSl v56 → ∀ H', Own H' (⟨v49, 1, r.1.Quanta.map (AV.int .i64)⟩ :: ⟨v51, 1, ouw nm_SInt d53 r.1.Queues⟩ :: ⟨v54, 1, r.1.Credit.map (AV.int .i64)⟩ :: ⟨v56, 1, r.1.Sent.map (AV.int .i64)⟩ :: ((inn np_SInt (AV.int .i64) 1 d53 r.1.Queues) ++ F)) → P (.tup [.agg [v49, v51, v54, v56, .int .i64 r.1.At], .bool r.2]) H') : ACall C 18 [.agg [.fz (a0.Quanta.map (AV.int .i64)), .fz (a0.Queues.map (fzl (AV.int .i64))), .fz (a0.Credit.map (AV.int .i64)), .fz (a0.Sent.map (AV.int .i64)), .int .i64 a0.At], .int .i64 a1, .int .i64 a2] H P := by
  refine acall_of gC (res := [.cell 6 27, .tmp 7]) (n := 51) rfl rfl rfl rfl fun K0 hK0 => ?_
  simp only [W, Nat.reduceSub, Nat.reduceAdd, List.replicate]
  unfold impl_PutPacket at h
  refine w_seq fun K1 hK1 => ?_
  refine w_reg gC ?_
  try simp only [W, Nat.reduceAdd]
  refine w_box hS rfl rfl rfl rfl fun ip2 wp2 H hS => ?_
  try simp only [W]
  refine w_alloc hS rfl rfl fun ip4 wp4 H hS => ?_
  try simp only [W]
  refine seq_n hK1 ?_
  refine w_seq fun K6 hK6 => ?_
  refine w_seq fun K7 hK7 => ?_
  obtain ⟨y9, h, g10⟩ := Option.bind_eq_some_iff.1 h
  refine w_join gC (fun s H => ∃ x8 : Bool, y9 = (x8) ∧ s = [u, .int .i64 a1, .int .i64 a2, .ptr ip2 wp2 0 0, u, u, .ptr ip4 wp4 0 0, u, u, u, u, u, u, u, u, u, u, u, u, u, u, u, u, u, u, u, u, u, u, u, u, u, u, u, .bool x8, u, u, u, u, u, u, u, u, u, u, u, u, u, u, u, u] ∧ Own H (⟨.ptr ip2 wp2 0 0, 5, [.agg [.fz (a0.Quanta.map (AV.int .i64)), .fz (a0.Queues.map (fzl (AV.int .i64))), .fz (a0.Credit.map (AV.int .i64)), .fz (a0.Sent.map (AV.int .i64)), .int .i64 a0.At]]⟩ :: ⟨.ptr ip4 wp4 0 0, 5, [.agg [.nil, .nil, .nil, .nil, .int .i64 0]]⟩ :: F)) (fun K11 hK11 => ?_) (fun s H hq => ?_)
  · refine w_seq fun K12 hK12 => ?_
    refine w_reg gC ?_
    try simp only [W, EE, reduceIte, Nat.reduceAdd, Nat.reduceLeDiff, hS.var 1 rfl]
    refine w_call h fun b13 hb13 h => ?_
    refine impl_GoodTurns_w hb13 hS fun H hS => ?_
    try simp only [W]
    refine w_grdT h (fun hc h => ?_) (fun hc h => ?_)
    · try simp only [W, hc]
      refine seq_n hK12 ?_
      refine w_kill ?_
      exact cut_n hK11 ⟨_, (Option.some.inj h).symm, rfl, (hS.sel 2 [1, 0] (by decide))⟩
    · try simp only [W, EE, Nat.reduceAdd, Nat.reduceBEq, hS.var 1 rfl, hc]
      refine w_call h fun b14 hb14 h => ?_
      refine impl_in_w hb14 hS fun H hS => ?_
      try simp only [W, reduceIte, Bool.false_eq_true]
      refine w_grdT h (fun hc h => ?_) (fun hc h => ?_)
      · try simp only [W, hc]
        refine seq_n hK12 ?_
        refine w_kill ?_
        exact cut_n hK11 ⟨_, (Option.some.inj h).symm, rfl, (hS.sel 2 [1, 0] (by decide))⟩
      · try simp only [W, hc]
        refine w_call h fun b15 hb15 h => ?_
        refine impl_isPacket_w hb15 hS fun H hS => ?_
        try simp only [W, reduceIte, Bool.false_eq_true]
        refine w_grdT h (fun hc h => ?_) (fun hc h => ?_)
        · try simp only [W, hc]
          refine seq_n hK12 ?_
          refine w_kill ?_
          exact cut_n hK11 ⟨_, (Option.some.inj h).symm, rfl, (hS.sel 2 [1, 0] (by decide))⟩
        · try simp only [W, EE, Nat.reduceAdd, Nat.reduceBEq, hS.var 1 rfl, hc]
          refine w_fz rfl rfl rfl (fun _ => rfl) h fun b16 hb16 h => ?_
          try simp only [W, EE, EN, reduceIte, Bool.false_eq_true]
          refine seq_n hK12 ?_
          refine w_kill ?_
          exact cut_n hK11 ⟨_, (Option.some.inj h).symm, rfl, (hS.sel 2 [1, 0] (by decide))⟩
  · obtain ⟨x8, ey, rfl, hS⟩ := hq; obtain rfl := ey.symm
    replace h := g10
    try dsimp only at h
    refine seq_n hK7 ?_
    refine w_if ?_
    simp only [W]
    refine w_cnd h (fun hc h => ?_) (fun hc h => ?_)
    · refine w_seq fun K17 hK17 => ?_
      refine w_reg gC ?_
      try simp only [W, EE, Nat.reduceAdd]
      refine w_bld rfl rfl rfl rfl rfl ?_
      try simp only [W]
      refine w_stv (a := .agg [.nil, .nil, .nil, .nil, .int .i64 0]) (y' := .agg [.nil, .nil, .nil, .nil, .int .i64 0]) 1 hS rfl rfl rfl rfl rfl rfl rfl rfl fun H hS => ?_
      try simp only [W]
      refine seq_n hK17 ?_
      refine w_ret ?_
      refine seq_r hK6 ?_
      have hS := hS.nil_ 1
      have hS := hS.nil_ 1
      obtain ⟨d20, qd20, hS⟩ := noneN (p := np_SInt) (c := (AV.int .i64)) (z := 1) (m := nm_SInt) hS
      have hS : Own _ (⟨AV.nil, 1, ouw nm_SInt d20 ([] : List (List Int))⟩ :: ⟨AV.nil, 1, ([] : List Int).map (AV.int .i64)⟩ :: ⟨.ptr ip2 wp2 0 0, 5, [.agg [.fz (a0.Quanta.map (AV.int .i64)), .fz (a0.Queues.map (fzl (AV.int .i64))), .fz (a0.Credit.map (AV.int .i64)), .fz (a0.Sent.map (AV.int .i64)), .int .i64 a0.At]]⟩ :: ⟨.ptr ip4 wp4 0 0, 5, [.agg [.nil, .nil, .nil, .nil, .int .i64 0]]⟩ :: ((inn np_SInt (AV.int .i64) 1 d20 ([] : List (List Int))) ++ (F))) := Own.catI_ (bl := [[⟨AV.nil, 1, ouw nm_SInt d20 ([] : List (List Int))⟩], (inn np_SInt (AV.int .i64) 1 d20 ([] : List (List Int))), [⟨AV.nil, 1, ([] : List Int).map (AV.int .i64)⟩], [⟨.ptr ip2 wp2 0 0, 5, [.agg [.fz (a0.Quanta.map (AV.int .i64)), .fz (a0.Queues.map (fzl (AV.int .i64))), .fz (a0.Credit.map (AV.int .i64)), .fz (a0.Sent.map (AV.int .i64)), .int .i64 a0.At]]⟩], [⟨.ptr ip4 wp4 0 0, 5, [.agg [.nil, .nil, .nil, .nil, .int .i64 0]]⟩]]) (F := F) hS 5 rfl [0, 2, 3, 4, 1] (by decide)
      have hS := hS.nil_ 1
      have hS := hS.nil_ 1
      refine fin_r hK0 (res_c rfl rfl (hS.var 5 rfl) rfl (res_tc rfl rfl)) ?_
      try obtain rfl := Option.some.inj h
      have hS : Own _ (⟨AV.nil, 1, ([] : List Int).map (AV.int .i64)⟩ :: ⟨AV.nil, 1, ouw nm_SInt d20 ([] : List (List Int))⟩ :: ⟨AV.nil, 1, ([] : List Int).map (AV.int .i64)⟩ :: ⟨AV.nil, 1, ([] : List Int).map (AV.int .i64)⟩ :: ((inn np_SInt (AV.int .i64) 1 d20 ([] : List (List Int))) ++ (F))) := Own.catI_ (bl := [[⟨AV.nil, 1, ([] : List Int).map (AV.int .i64)⟩], [⟨AV.nil, 1, ([] : List Int).map (AV.int .i64)⟩], [⟨AV.nil, 1, ouw nm_SInt d20 ([] : List (List Int))⟩], [⟨AV.nil, 1, ([] : List Int).map (AV.int .i64)⟩], [⟨.ptr ip2 wp2 0 0, 5, [.agg [.fz (a0.Quanta.map (AV.int .i64)), .fz (a0.Queues.map (fzl (AV.int .i64))), .fz (a0.Credit.map (AV.int .i64)), .fz (a0.Sent.map (AV.int .i64)), .int .i64 a0.At]]⟩], [⟨.ptr ip4 wp4 0 0, 5, [.agg [.nil, .nil, .nil, .nil, .int .i64 0]]⟩], (inn np_SInt (AV.int .i64) 1 d20 ([] : List (List Int)))]) (F := F) hS 7 rfl [3, 2, 1, 0, 6] (by decide)
      exact hP _ isSl_nil _ isSl_nil _ qd20 _ isSl_nil _ isSl_nil _ hS
    · refine w_skip ?_
      refine seq_n hK6 ?_
      refine w_seq fun K23 hK23 => ?_
      refine w_reg gC ?_
      try simp only [W, EE, reduceIte, Nat.reduceAdd, Nat.reduceLeDiff, hS.var 0 rfl]
      refine w_call h fun b24 hb24 h => ?_
      refine impl_Turns_copied_w hb24 hS fun v25 qv25 v27 qv27 d29 qd29 v30 qv30 v32 qv32 H hS => ?_
      have hS : Own _ (⟨v25, 1, b24.Quanta.map (AV.int .i64)⟩ :: ⟨v27, 1, ouw nm_SInt d29 b24.Queues⟩ :: ⟨v30, 1, b24.Credit.map (AV.int .i64)⟩ :: ⟨v32, 1, b24.Sent.map (AV.int .i64)⟩ :: ⟨.ptr ip2 wp2 0 0, 5, [.agg [.fz (a0.Quanta.map (AV.int .i64)), .fz (a0.Queues.map (fzl (AV.int .i64))), .fz (a0.Credit.map (AV.int .i64)), .fz (a0.Sent.map (AV.int .i64)), .int .i64 a0.At]]⟩ :: ⟨.ptr ip4 wp4 0 0, 5, [.agg [.nil, .nil, .nil, .nil, .int .i64 0]]⟩ :: ((inn np_SInt (AV.int .i64) 1 d29 b24.Queues) ++ (F))) := Own.catI_ (bl := [[⟨v25, 1, b24.Quanta.map (AV.int .i64)⟩], [⟨v27, 1, ouw nm_SInt d29 b24.Queues⟩], [⟨v30, 1, b24.Credit.map (AV.int .i64)⟩], [⟨v32, 1, b24.Sent.map (AV.int .i64)⟩], (inn np_SInt (AV.int .i64) 1 d29 b24.Queues), [⟨.ptr ip2 wp2 0 0, 5, [.agg [.fz (a0.Quanta.map (AV.int .i64)), .fz (a0.Queues.map (fzl (AV.int .i64))), .fz (a0.Credit.map (AV.int .i64)), .fz (a0.Sent.map (AV.int .i64)), .int .i64 a0.At]]⟩], [⟨.ptr ip4 wp4 0 0, 5, [.agg [.nil, .nil, .nil, .nil, .int .i64 0]]⟩]]) (F := F) hS 7 rfl [0, 1, 2, 3, 5, 6, 4] (by decide)
      try simp only [W]
      refine w_alloc hS rfl rfl fun ip34 wp34 H hS => ?_
      try simp only [W]
      refine w_stv (a := .agg [v25, v27, v30, v32, .int .i64 b24.At]) (y' := .agg [v25, v27, v30, v32, .int .i64 b24.At]) 0 hS rfl rfl rfl rfl rfl (by simp only [storA, List.all_cons, List.all_nil, qv25.stor, qv27.stor, qv30.stor, qv32.stor]; rfl) rfl rfl fun H hS => ?_
      try simp only [W]
      refine seq_n hK23 ?_
      refine w_seq fun K36 hK36 => ?_
      refine w_drawL gC [(10, [0, 1, 2]), (12, [])] (by kernel_rfl) rfl (by kernel_rfl) ?_
      try simp only [W, EE, reduceIte, Nat.reduceAdd, Nat.reduceBEq, hS.var 0 rfl, tabAt, qAt, Nat.reduceEqDiff]
      obtain ⟨b38, hb38, h⟩ := Option.bind_eq_some_iff.1 h
      have hS : Own _ (⟨v27, 1, ouw nm_SInt d29 b24.Queues⟩ :: ((inn np_SInt (AV.int .i64) 1 d29 b24.Queues) ++ (⟨.ptr ip34 wp34 0 0, 5, [.agg [v25, v27, v30, v32, .int .i64 b24.At]]⟩ :: ⟨v25, 1, b24.Quanta.map (AV.int .i64)⟩ :: ⟨v30, 1, b24.Credit.map (AV.int .i64)⟩ :: ⟨v32, 1, b24.Sent.map (AV.int .i64)⟩ :: ⟨.ptr ip2 wp2 0 0, 5, [.agg [.fz (a0.Quanta.map (AV.int .i64)), .fz (a0.Queues.map (fzl (AV.int .i64))), .fz (a0.Credit.map (AV.int .i64)), .fz (a0.Sent.map (AV.int .i64)), .int .i64 a0.At]]⟩ :: ⟨.ptr ip4 wp4 0 0, 5, [.agg [.nil, .nil, .nil, .nil, .int .i64 0]]⟩ :: F))) := Own.catI_ (bl := [[⟨.ptr ip34 wp34 0 0, 5, [.agg [v25, v27, v30, v32, .int .i64 b24.At]]⟩], [⟨v25, 1, b24.Quanta.map (AV.int .i64)⟩], [⟨v27, 1, ouw nm_SInt d29 b24.Queues⟩], [⟨v30, 1, b24.Credit.map (AV.int .i64)⟩], [⟨v32, 1, b24.Sent.map (AV.int .i64)⟩], [⟨.ptr ip2 wp2 0 0, 5, [.agg [.fz (a0.Quanta.map (AV.int .i64)), .fz (a0.Queues.map (fzl (AV.int .i64))), .fz (a0.Credit.map (AV.int .i64)), .fz (a0.Sent.map (AV.int .i64)), .int .i64 a0.At]]⟩], [⟨.ptr ip4 wp4 0 0, 5, [.agg [.nil, .nil, .nil, .nil, .int .i64 0]]⟩], (inn np_SInt (AV.int .i64) 1 d29 b24.Queues)]) (F := F) hS 8 rfl [2, 7, 0, 1, 3, 4, 5, 6] (by decide)
      obtain ⟨v39, qv39, hS⟩ := openN (p := np_SInt) (c := (AV.int .i64)) (m := nm_SInt) (b := b38) hS qd29 hb38
      have hS : Own _ (⟨v39, 1, b38.map (AV.int .i64)⟩ :: ⟨.ptr ip34 wp34 0 0, 5, [.agg [v25, v27, v30, v32, .int .i64 b24.At]]⟩ :: ⟨v25, 1, b24.Quanta.map (AV.int .i64)⟩ :: ⟨v27, 1, (ouw nm_SInt d29 b24.Queues).set a1.toNat (v39)⟩ :: ⟨v30, 1, b24.Credit.map (AV.int .i64)⟩ :: ⟨v32, 1, b24.Sent.map (AV.int .i64)⟩ :: ⟨.ptr ip2 wp2 0 0, 5, [.agg [.fz (a0.Quanta.map (AV.int .i64)), .fz (a0.Queues.map (fzl (AV.int .i64))), .fz (a0.Credit.map (AV.int .i64)), .fz (a0.Sent.map (AV.int .i64)), .int .i64 a0.At]]⟩ :: ⟨.ptr ip4 wp4 0 0, 5, [.agg [.nil, .nil, .nil, .nil, .int .i64 0]]⟩ :: ((inx np_SInt (AV.int .i64) 1 d29 b24.Queues a1.toNat) ++ (F))) := Own.catI_ (bl := [[⟨v39, 1, b38.map (AV.int .i64)⟩], [⟨v27, 1, (ouw nm_SInt d29 b24.Queues).set a1.toNat (v39)⟩], (inx np_SInt (AV.int .i64) 1 d29 b24.Queues a1.toNat), [⟨.ptr ip34 wp34 0 0, 5, [.agg [v25, v27, v30, v32, .int .i64 b24.At]]⟩], [⟨v25, 1, b24.Quanta.map (AV.int .i64)⟩], [⟨v30, 1, b24.Credit.map (AV.int .i64)⟩], [⟨v32, 1, b24.Sent.map (AV.int .i64)⟩], [⟨.ptr ip2 wp2 0 0, 5, [.agg [.fz (a0.Quanta.map (AV.int .i64)), .fz (a0.Queues.map (fzl (AV.int .i64))), .fz (a0.Credit.map (AV.int .i64)), .fz (a0.Sent.map (AV.int .i64)), .int .i64 a0.At]]⟩], [⟨.ptr ip4 wp4 0 0, 5, [.agg [.nil, .nil, .nil, .nil, .int .i64 0]]⟩]]) (F := F) hS 9 rfl [0, 3, 4, 1, 5, 6, 7, 8, 2] (by decide)
      refine w_owE (x := v39) 3 hS rfl rfl rfl rfl rfl (idx_some hb38).1 (holeG qd29 hb38) qv27 (fun in37 wn37 on37 en37 hkn37 => ?_)
      obtain ⟨kn37, hbn37, hen37⟩ := hkn37
      try simp only [W, EE, hbn37, hen37, qv39.rd]
      refine w_lit (el := ([a2] : List Int).map (AV.int .i64)) hS rfl rfl rfl rfl rfl rfl rfl fun v41 H qv41 hS => ?_
      try simp only [W, EE]
      refine w_appV (l := b38) (c := (AV.int .i64)) 1 hS rfl qv39 rfl rfl rfl (hS.elems 0 rfl qv41) (fun _ => rfl) rfl h fun v44 H x43 qv44 hm h hS => ?_
      refine goK_late ?_
      refine lateG_s (by first | rfl | (simp [evalOp, W, EE, hS.var 2 rfl]; done) | exact ev_ow 4 hS rfl rfl rfl rfl rfl en37 hb38 rfl rfl rfl rfl | exact ev_le 4 hS rfl rfl en37 hb38 rfl rfl rfl) ?_
      refine lateG_s (by first | rfl | (simp [evalOp, W, EE, rdAt, mkT, subL, AV.cells, hS.var 2 rfl]; done) | exact ev_ow 4 hS rfl rfl rfl rfl rfl en37 hb38 rfl rfl rfl rfl | exact ev_le 4 hS rfl rfl en37 hb38 rfl rfl rfl) ?_
      refine lateG_s (by first | rfl | (simp [evalOp, W, EE, EN, rdAt, mkT, subL, AV.cells, hS.var 2 rfl, hS.var 7 rfl, hS.var 8 rfl]; done) | exact ev_ow 4 hS rfl rfl rfl rfl rfl en37 hb38 rfl rfl rfl rfl | exact ev_le 4 hS rfl rfl en37 hb38 rfl rfl rfl) ?_
      refine lateG_n ?_
      try simp only [W, EE]
      refine w_owE (x := v39) 4 hS rfl rfl rfl rfl rfl (idx_some hb38).1 (holeG qd29 hb38) qv27 (fun in46 wn46 on46 en46 hkn46 => ?_)
      obtain ⟨kn46, hbn46, hen46⟩ := hkn46
      try simp only [W]
      refine w_stE (a := v44) (y' := v44) (i := a1.toNat) 4 hS rfl en46 (holeG qd29 hb38) rfl rfl rfl (by rw [qv44.cells]; rfl) qv44.stora (qv44.wr2 qv39) (by first | rfl | (rw [qv44.cells]; rfl)) (List.set_set ..) fun H hS => ?_
      try simp only [W]
      refine seq_n hK36 ?_
      refine w_seq fun K47 hK47 => ?_
      refine w_reg gC ?_
      try simp only [W, EE, reduceIte, Nat.reduceAdd, Nat.reduceLeDiff, hS.var 2 rfl]
      refine w_stv (a := .agg [v25, v27, v30, v32, .int .i64 b24.At]) (y' := .agg [v25, v27, v30, v32, .int .i64 b24.At]) 8 hS rfl rfl rfl rfl rfl (by simp only [storA, List.all_cons, List.all_nil, qv25.stor, qv27.stor, qv30.stor, qv32.stor]; rfl) rfl rfl fun H hS => ?_
      try simp only [W]
      refine seq_n hK47 ?_
      refine w_ret ?_
      have hS : Own _ (⟨v44, 1, x43.map (AV.int .i64)⟩ :: ⟨v27, 1, (ouw nm_SInt d29 b24.Queues).set a1.toNat (v44)⟩ :: ((inx np_SInt (AV.int .i64) 1 d29 b24.Queues a1.toNat) ++ (⟨v41, 1, ([a2] : List Int).map (AV.int .i64)⟩ :: ⟨.ptr ip34 wp34 0 0, 5, [.agg [v25, v27, v30, v32, .int .i64 b24.At]]⟩ :: ⟨v25, 1, b24.Quanta.map (AV.int .i64)⟩ :: ⟨v30, 1, b24.Credit.map (AV.int .i64)⟩ :: ⟨v32, 1, b24.Sent.map (AV.int .i64)⟩ :: ⟨.ptr ip2 wp2 0 0, 5, [.agg [.fz (a0.Quanta.map (AV.int .i64)), .fz (a0.Queues.map (fzl (AV.int .i64))), .fz (a0.Credit.map (AV.int .i64)), .fz (a0.Sent.map (AV.int .i64)), .int .i64 a0.At]]⟩ :: ⟨.ptr ip4 wp4 0 0, 5, [.agg [v25, v27, v30, v32, .int .i64 b24.At]]⟩ :: F))) := Own.catI_ (bl := [[⟨v41, 1, ([a2] : List Int).map (AV.int .i64)⟩], [⟨v44, 1, x43.map (AV.int .i64)⟩], [⟨.ptr ip34 wp34 0 0, 5, [.agg [v25, v27, v30, v32, .int .i64 b24.At]]⟩], [⟨v25, 1, b24.Quanta.map (AV.int .i64)⟩], [⟨v27, 1, (ouw nm_SInt d29 b24.Queues).set a1.toNat (v44)⟩], [⟨v30, 1, b24.Credit.map (AV.int .i64)⟩], [⟨v32, 1, b24.Sent.map (AV.int .i64)⟩], [⟨.ptr ip2 wp2 0 0, 5, [.agg [.fz (a0.Quanta.map (AV.int .i64)), .fz (a0.Queues.map (fzl (AV.int .i64))), .fz (a0.Credit.map (AV.int .i64)), .fz (a0.Sent.map (AV.int .i64)), .int .i64 a0.At]]⟩], [⟨.ptr ip4 wp4 0 0, 5, [.agg [v25, v27, v30, v32, .int .i64 b24.At]]⟩], (inx np_SInt (AV.int .i64) 1 d29 b24.Queues a1.toNat)]) (F := F) hS 10 rfl [1, 4, 9, 0, 2, 3, 5, 6, 7, 8] (by decide)
      obtain ⟨d48, qd48, hS⟩ := closeN (p := np_SInt) (c := (AV.int .i64)) (m := nm_SInt) (b := b38) (y := x43) hS qd29 qv44 hb38
      have hS : Own _ (⟨v41, 1, ([a2] : List Int).map (AV.int .i64)⟩ :: ⟨.ptr ip34 wp34 0 0, 5, [.agg [v25, v27, v30, v32, .int .i64 b24.At]]⟩ :: ⟨v25, 1, b24.Quanta.map (AV.int .i64)⟩ :: ⟨v27, 1, ouw nm_SInt d48 (b24.Queues.set a1.toNat x43)⟩ :: ⟨v30, 1, b24.Credit.map (AV.int .i64)⟩ :: ⟨v32, 1, b24.Sent.map (AV.int .i64)⟩ :: ⟨.ptr ip2 wp2 0 0, 5, [.agg [.fz (a0.Quanta.map (AV.int .i64)), .fz (a0.Queues.map (fzl (AV.int .i64))), .fz (a0.Credit.map (AV.int .i64)), .fz (a0.Sent.map (AV.int .i64)), .int .i64 a0.At]]⟩ :: ⟨.ptr ip4 wp4 0 0, 5, [.agg [v25, v27, v30, v32, .int .i64 b24.At]]⟩ :: ((inn np_SInt (AV.int .i64) 1 d48 (b24.Queues.set a1.toNat x43)) ++ (F))) := Own.catI_ (bl := [[⟨v27, 1, ouw nm_SInt d48 (b24.Queues.set a1.toNat x43)⟩], (inn np_SInt (AV.int .i64) 1 d48 (b24.Queues.set a1.toNat x43)), [⟨v41, 1, ([a2] : List Int).map (AV.int .i64)⟩], [⟨.ptr ip34 wp34 0 0, 5, [.agg [v25, v27, v30, v32, .int .i64 b24.At]]⟩], [⟨v25, 1, b24.Quanta.map (AV.int .i64)⟩], [⟨v30, 1, b24.Credit.map (AV.int .i64)⟩], [⟨v32, 1, b24.Sent.map (AV.int .i64)⟩], [⟨.ptr ip2 wp2 0 0, 5, [.agg [.fz (a0.Quanta.map (AV.int .i64)), .fz (a0.Queues.map (fzl (AV.int .i64))), .fz (a0.Credit.map (AV.int .i64)), .fz (a0.Sent.map (AV.int .i64)), .int .i64 a0.At]]⟩], [⟨.ptr ip4 wp4 0 0, 5, [.agg [v25, v27, v30, v32, .int .i64 b24.At]]⟩]]) (F := F) hS 9 rfl [2, 3, 4, 0, 5, 6, 7, 8, 1] (by decide)
      refine fin_r hK0 (res_c rfl rfl (hS.var 7 rfl) rfl (res_tc rfl rfl)) ?_
      try obtain rfl := Option.some.inj h
      have hS : Own _ (⟨v25, 1, b24.Quanta.map (AV.int .i64)⟩ :: ⟨v27, 1, ouw nm_SInt d48 (b24.Queues.set a1.toNat x43)⟩ :: ⟨v30, 1, b24.Credit.map (AV.int .i64)⟩ :: ⟨v32, 1, b24.Sent.map (AV.int .i64)⟩ :: ((inn np_SInt (AV.int .i64) 1 d48 (b24.Queues.set a1.toNat x43)) ++ (F))) := Own.catI_ (bl := [[⟨v41, 1, ([a2] : List Int).map (AV.int .i64)⟩], [⟨.ptr ip34 wp34 0 0, 5, [.agg [v25, v27, v30, v32, .int .i64 b24.At]]⟩], [⟨v25, 1, b24.Quanta.map (AV.int .i64)⟩], [⟨v27, 1, ouw nm_SInt d48 (b24.Queues.set a1.toNat x43)⟩], [⟨v30, 1, b24.Credit.map (AV.int .i64)⟩], [⟨v32, 1, b24.Sent.map (AV.int .i64)⟩], [⟨.ptr ip2 wp2 0 0, 5, [.agg [.fz (a0.Quanta.map (AV.int .i64)), .fz (a0.Queues.map (fzl (AV.int .i64))), .fz (a0.Credit.map (AV.int .i64)), .fz (a0.Sent.map (AV.int .i64)), .int .i64 a0.At]]⟩], [⟨.ptr ip4 wp4 0 0, 5, [.agg [v25, v27, v30, v32, .int .i64 b24.At]]⟩], (inn np_SInt (AV.int .i64) 1 d48 (b24.Queues.set a1.toNat x43))]) (F := F) hS 9 rfl [2, 3, 4, 5, 8] (by decide)
      exact hP _ qv25 _ qv27 _ qd48 _ qv30 _ qv32 _ hS
theorem laws_eqIntS_w {a0 : List Int} {a1 : List Int} {r : (Bool)} (h : laws_eqIntS a0 a1 = some r) {F : List It} {H : Heap} (hS : Own H (F)) {P : AV → Heap → Prop} (hP : ∀ H', Own H' (F) → P (.bool r) H') : ACall C 24 [.fz (a0.map (AV.int .i64)), .fz (a1.map (AV.int .i64))] H P := by
  refine acall_of gC (res := [.tmp 4]) (n := 26) rfl rfl rfl rfl fun K0 hK0 => ?_
  simp only [W, Nat.reduceSub, Nat.reduceAdd, List.replicate]
  unfold laws_eqIntS at h
  refine w_seq fun K1 hK1 => ?_
  refine w_reg gC ?_
  try simp only [W, Nat.reduceAdd]
  refine seq_n hK1 ?_
  refine w_seq fun K2 hK2 => ?_
  refine w_seq fun K3 hK3 => ?_
  refine w_reg gC ?_
  try simp only [W, EE, Nat.reduceAdd]
  refine seq_n hK3 ?_
  refine w_if ?_
  simp only [W]
  refine w_cnd h (fun hc h => ?_) (fun hc h => ?_)
  · refine w_seq fun K4 hK4 => ?_
    refine w_reg gC ?_
    try simp only [W, Nat.reduceAdd]
    refine seq_n hK4 ?_
    refine w_ret ?_
    refine seq_r hK2 ?_
    refine fin_r1 hK0 rfl ?_
    try obtain rfl := Option.some.inj h
    exact hP _ hS
  · refine w_skip ?_
    refine seq_n hK2 ?_
    refine w_seq fun K5 hK5 => ?_
    refine w_seq fun K6 hK6 => ?_
    refine w_reg gC ?_
    try simp only [W, Nat.reduceAdd]
    refine seq_n hK6 ?_
    obtain ⟨y8, hw9, g15⟩ := Option.bind_eq_some_iff.1 h
    refine w_join gC (fun s H => y8 = LR.next () ∧ s = [u, u, u, u, u, u, u, u, u, u, u, u, u, u, u, u, u, u, u, u, u, u, u, u, u, u] ∧ Own H (F)) (fun K10 hK10 => ?_) (fun s H hq => ?_)
    · refine w_blk fun K11 hK11 => ?_
      refine w_loop gC hw9 (fun x s H => s = [.fz (a0.map (AV.int .i64)), .fz (a1.map (AV.int .i64)), u, u, u, .int .i64 x, u, u, u, u, u, u, u, u, u, u, u, u, u, u, u, u, u, u, u, u] ∧ Own H (F)) ⟨rfl, hS⟩ (fun x7 y14 s H h hd13 hi K12 hK12 => ?_)
      skip
      try dsimp only at hi
      obtain ⟨rfl, hS⟩ := hi
      simp only [laws_eqIntS_l0] at h
      refine w_seq fun K16 hK16 => ?_
      refine w_seq fun K17 hK17 => ?_
      refine w_reg gC ?_
      try simp only [W, EE, Nat.reduceAdd]
      refine seq_n hK17 ?_
      refine w_if ?_
      simp only [W]
      refine w_cnd h (fun hc h => ?_) (fun hc h => ?_)
      · refine w_skip ?_
        refine seq_n hK16 ?_
        refine w_seq fun K18 hK18 => ?_
        refine w_blk fun K19 hK19 => ?_
        refine w_seq fun K20 hK20 => ?_
        refine w_draw0 gC (by kernel_rfl) ?_
        try simp only [W, EE, Nat.reduceAdd]
        refine w_fz rfl rfl rfl (fun _ => rfl) h fun b21 hb21 h => ?_
        try simp only [W, EE]
        refine w_fz rfl rfl rfl (fun _ => rfl) h fun b22 hb22 h => ?_
        try simp only [W, EE]
        refine seq_n hK20 ?_
        refine w_if ?_
        simp only [W]
        refine w_cnd h (fun hc h => ?_) (fun hc h => ?_)
        · refine w_seq fun K23 hK23 => ?_
          refine w_reg gC ?_
          try simp only [W, Nat.reduceAdd]
          refine seq_n hK23 ?_
          refine w_ret ?_
          refine blk_r hK19 ?_
          refine seq_r hK18 ?_
          try obtain rfl := Option.some.inj h
          obtain rfl := hd13 _ rfl
          have h : (some (LR.done false) : Option (LR Unit (Bool))) = some (LR.done false) := rfl
          refine lp_r hK12 ?_
          refine blk_r hK11 ?_
          try obtain rfl := Option.some.inj h
          obtain rfl := Option.some.inj g15
          have h : (some false : Option (Bool)) = some false := rfl
          refine cut_r hK10 ?_
          refine seq_r hK5 ?_
          refine fin_r1 hK0 rfl ?_
          try obtain rfl := Option.some.inj h
          exact hP _ hS
        · refine w_skip ?_
          refine blk_n0 hK19 ?_
          refine seq_n hK18 ?_
          refine w_reg gC ?_
          try simp only [W, EE, Nat.reduceAdd]
          exact lp_n hK12 h ⟨rfl, hS⟩
      · refine w_exit ?_
        refine seq_x hK16 ?_
        try obtain rfl := Option.some.inj h
        obtain rfl := hd13 _ rfl
        have h : (some (LR.next ()) : Option (LR Unit (Bool))) = some (LR.next ()) := rfl
        refine lp_x hK12 ?_
        refine blk_e hK11 ?_
        exact cut_n hK10 ⟨(Option.some.inj h).symm, rfl, hS⟩
    · obtain ⟨rfl, rfl, hS⟩ := hq
      replace h := g15
      try dsimp only at h
      refine seq_n hK5 ?_
      refine w_seq fun K30 hK30 => ?_
      refine w_reg gC ?_
      try simp only [W, Nat.reduceAdd]
      refine seq_n hK30 ?_
      refine w_ret ?_
      refine fin_r1 hK0 rfl ?_
      try obtain rfl := Option.some.inj h
      exact hP _ hS
theorem laws_eqIntSS_w {a0 : List (List Int)} {a1 : List (List Int)} {r : (Bool)} (h : laws_eqIntSS a0 a1 = some r) {F : List It} {H : Heap} (hS : Own H (F)) {P : AV → Heap → Prop} (hP : ∀ H', Own H' (F) → P (.bool r) H') : ACall C 117 [.fz (a0.map (fzl (AV.int .i64))), .fz (a1.map (fzl (AV.int .i64)))] H P := by
  refine acall_of gC (res := [.tmp 4]) (n := 27) rfl rfl rfl rfl fun K0 hK0 => ?_
  simp only [W, Nat.reduceSub, Nat.reduceAdd, List.replicate]
  unfold laws_eqIntSS at h
  refine w_seq fun K1 hK1 => ?_
  refine w_reg gC ?_
  try simp only [W, Nat.reduceAdd]
  refine seq_n hK1 ?_
  refine w_seq fun K2 hK2 => ?_
  refine w_seq fun K3 hK3 => ?_
  refine w_reg gC ?_
  try simp only [W, EE, Nat.reduceAdd]
  refine seq_n hK3 ?_
  refine w_if ?_
  simp only [W]
  refine w_cnd h (fun hc h => ?_) (fun hc h => ?_)
  · refine w_seq fun K4 hK4 => ?_
    refine w_reg gC ?_
    try simp only [W, Nat.reduceAdd]
    refine seq_n hK4 ?_
    refine w_ret ?_
    refine seq_r hK2 ?_
    refine fin_r1 hK0 rfl ?_
    try obtain rfl := Option.some.inj h
    exact hP _ hS
  · refine w_skip ?_
    refine seq_n hK2 ?_
    refine w_seq fun K5 hK5 => ?_
    refine w_seq fun K6 hK6 => ?_
    refine w_reg gC ?_
    try simp only [W, Nat.reduceAdd]
    refine seq_n hK6 ?_
    obtain ⟨y8, hw9, g15⟩ := Option.bind_eq_some_iff.1 h
    refine w_join gC (fun s H => y8 = LR.next () ∧ s = [u, u, u, u, u, u, u, u, u, u, u, u, u, u, u, u, u, u, u, u, u, u, u, u, u, u, u] ∧ Own H (F)) (fun K10 hK10 => ?_) (fun s H hq => ?_)
    · refine w_blk fun K11 hK11 => ?_
      refine w_loop gC hw9 (fun x s H => s = [.fz (a0.map (fzl (AV.int .i64))), .fz (a1.map (fzl (AV.int .i64))), u, u, u, .int .i64 x, u, u, u, u, u, u, u, u, u, u, u, u, u, u, u, u, u, u, u, u, u] ∧ Own H (F)) ⟨rfl, hS⟩ (fun x7 y14 s H h hd13 hi K12 hK12 => ?_)
      skip
      try dsimp only at hi
      obtain ⟨rfl, hS⟩ := hi
      simp only [laws_eqIntSS_l0] at h
      refine w_seq fun K16 hK16 => ?_
      refine w_seq fun K17 hK17 => ?_
      refine w_reg gC ?_
      try simp only [W, EE, Nat.reduceAdd]
      refine seq_n hK17 ?_
      refine w_if ?_
      simp only [W]
      refine w_cnd h (fun hc h => ?_) (fun hc h => ?_)
      · refine w_skip ?_
        refine seq_n hK16 ?_
        refine w_seq fun K18 hK18 => ?_
        refine w_blk fun K19 hK19 => ?_
        refine w_seq fun K20 hK20 => ?_
        refine w_draw0 gC (by kernel_rfl) ?_
        try simp only [W, EE, Nat.reduceAdd]
        refine w_fz rfl rfl rfl (fun _ => rfl) h fun b21 hb21 h => ?_
        try simp only [W, EE, EN]
        refine w_fz rfl rfl rfl (fun _ => rfl) h fun b22 hb22 h => ?_
        try simp only [W, EE, EN]
        refine w_callS (rsh := [[.sc]]) (ys := [.fz (b21.map (AV.int .i64)), .fz (b22.map (AV.int .i64))]) h rfl (by rfl) fun b23 hb23 h => ⟨.bool b23, laws_eqIntS_w hb23 (Own.nil _) fun H hS => TV_ok rfl (TV_p rfl (TV_n rfl)), ⟨rfl, rfl, fun _ => rfl⟩, ?_⟩
        try simp only [W]
        refine seq_n hK20 ?_
        refine w_if ?_
        simp only [W]
        refine w_cnd h (fun hc h => ?_) (fun hc h => ?_)
        · refine w_seq fun K24 hK24 => ?_
          refine w_reg gC ?_
          try simp only [W, Nat.reduceAdd]
          refine seq_n hK24 ?_
          refine w_ret ?_
          refine blk_r hK19 ?_
          refine seq_r hK18 ?_
          try obtain rfl := Option.some.inj h
          obtain rfl := hd13 _ rfl
          have h : (some (LR.done false) : Option (LR Unit (Bool))) = some (LR.done false) := rfl
          refine lp_r hK12 ?_
          refine blk_r hK11 ?_
          try obtain rfl := Option.some.inj h
          obtain rfl := Option.some.inj g15
          have h : (some false : Option (Bool)) = some false := rfl
          refine cut_r hK10 ?_
          refine seq_r hK5 ?_
          refine fin_r1 hK0 rfl ?_
          try obtain rfl := Option.some.inj h
          exact hP _ hS
        · refine w_skip ?_
          refine blk_n0 hK19 ?_
          refine seq_n hK18 ?_
          refine w_reg gC ?_
          try simp only [W, EE, Nat.reduceAdd]
          exact lp_n hK12 h ⟨rfl, hS⟩
      · refine w_exit ?_
        refine seq_x hK16 ?_
        try obtain rfl := Option.some.inj h
        obtain rfl := hd13 _ rfl
        have h : (some (LR.next ()) : Option (LR Unit (Bool))) = some (LR.next ()) := rfl
        refine lp_x hK12 ?_
        refine blk_e hK11 ?_
        exact cut_n hK10 ⟨(Option.some.inj h).symm, rfl, hS⟩
    · obtain ⟨rfl, rfl, hS⟩ := hq
      replace h := g15
      try dsimp only at h
      refine seq_n hK5 ?_
      refine w_seq fun K31 hK31 => ?_
      refine w_reg gC ?_
      try simp only [W, Nat.reduceAdd]
      refine seq_n hK31 ?_
      refine w_ret ?_
      refine fin_r1 hK0 rfl ?_
      try obtain rfl := Option.some.inj h
      exact hP _ hS
theorem laws_eqTurns_w {a0 : Turns} {a1 : Turns} {r : (Bool)} (h : laws_eqTurns a0 a1 = some r) {F : List It} {H : Heap} (hS : Own H (F)) {P : AV → Heap → Prop} (hP : ∀ H', Own H' (F) → P (.bool r) H') : ACall C 19 [.agg [.fz (a0.Quanta.map (AV.int .i64)), .fz (a0.Queues.map (fzl (AV.int .i64))), .fz (a0.Credit.map (AV.int .i64)), .fz (a0.Sent.map (AV.int .i64)), .int .i64 a0.At], .agg [.fz (a1.Quanta.map (AV.int .i64)), .fz (a1.Queues.map (fzl (AV.int .i64))), .fz (a1.Credit.map (AV.int .i64)), .fz (a1.Sent.map (AV.int .i64)), .int .i64 a1.At]] H P := by
  refine acall_of gC (res := [.tmp 4]) (n := 34) rfl rfl rfl rfl fun K0 hK0 => ?_
  simp only [W, Nat.reduceSub, Nat.reduceAdd, List.replicate]
  unfold laws_eqTurns at h
  refine w_seq fun K1 hK1 => ?_
  refine w_reg gC ?_
  try simp only [W, Nat.reduceAdd]
  refine w_box hS rfl rfl rfl rfl fun ip2 wp2 H hS => ?_
  try simp only [W]
  refine w_box hS rfl rfl rfl rfl fun ip4 wp4 H hS => ?_
  try simp only [W]
  refine seq_n hK1 ?_
  refine w_seq fun K6 hK6 => ?_
  refine w_seq fun K7 hK7 => ?_
  refine w_reg gC ?_
  try simp only [W, EE, Nat.reduceAdd, Nat.reduceBEq, hS.var 1 rfl, hS.var 0 rfl]
  refine w_call h fun b8 hb8 h => ?_
  refine laws_eqIntS_w hb8 hS fun H hS => ?_
  try simp only [W]
  refine seq_n hK7 ?_
  refine w_if ?_
  simp only [W]
  refine w_cnd h (fun hc h => ?_) (fun hc h => ?_)
  · refine w_seq fun K9 hK9 => ?_
    refine w_reg gC ?_
    try simp only [W, Nat.reduceAdd]
    refine seq_n hK9 ?_
    refine w_ret ?_
    refine seq_r hK6 ?_
    refine fin_r1 hK0 rfl ?_
    try obtain rfl := Option.some.inj h
    exact hP _ (hS.sel 2 [] (by decide))
  · refine w_skip ?_
    refine seq_n hK6 ?_
    refine w_seq fun K10 hK10 => ?_
    refine w_seq fun K11 hK11 => ?_
    refine w_reg gC ?_
    try simp only [W, EE, Nat.reduceAdd, Nat.reduceBEq, hS.var 1 rfl, hS.var 0 rfl]
    refine w_call h fun b12 hb12 h => ?_
    refine laws_eqIntSS_w hb12 hS fun H hS => ?_
    try simp only [W]
    refine seq_n hK11 ?_
    refine w_if ?_
    simp only [W]
    refine w_cnd h (fun hc h => ?_) (fun hc h => ?_)
    · refine w_seq fun K13 hK13 => ?_
      refine w_reg gC ?_
      try simp only [W, Nat.reduceAdd]
      refine seq_n hK13 ?_
      refine w_ret ?_
      refine seq_r hK10 ?_
      refine fin_r1 hK0 rfl ?_
      try obtain rfl := Option.some.inj h
      exact hP _ (hS.sel 2 [] (by decide))
    · refine w_skip ?_
      refine seq_n hK10 ?_
      refine w_seq fun K14 hK14 => ?_
      refine w_seq fun K15 hK15 => ?_
      refine w_reg gC ?_
      try simp only [W, EE, Nat.reduceAdd, Nat.reduceBEq, hS.var 1 rfl, hS.var 0 rfl]
      refine w_call h fun b16 hb16 h => ?_
      refine laws_eqIntS_w hb16 hS fun H hS => ?_
      try simp only [W]
      refine seq_n hK15 ?_
      refine w_if ?_
      simp only [W]
      refine w_cnd h (fun hc h => ?_) (fun hc h => ?_)
      · refine w_seq fun K17 hK17 => ?_
        refine w_reg gC ?_
        try simp only [W, Nat.reduceAdd]
        refine seq_n hK17 ?_
        refine w_ret ?_
        refine seq_r hK14 ?_
        refine fin_r1 hK0 rfl ?_
        try obtain rfl := Option.some.inj h
        exact hP _ (hS.sel 2 [] (by decide))
      · refine w_skip ?_
        refine seq_n hK14 ?_
        refine w_seq fun K18 hK18 => ?_
        refine w_seq fun K19 hK19 => ?_
        refine w_reg gC ?_
        try simp only [W, EE, Nat.reduceAdd, Nat.reduceBEq, hS.var 1 rfl, hS.var 0 rfl]
        refine w_call h fun b20 hb20 h => ?_
        refine laws_eqIntS_w hb20 hS fun H hS => ?_
        try simp only [W]
        refine seq_n hK19 ?_
        refine w_if ?_
        simp only [W]
        refine w_cnd h (fun hc h => ?_) (fun hc h => ?_)
        · refine w_seq fun K21 hK21 => ?_
          refine w_reg gC ?_
          try simp only [W, Nat.reduceAdd]
          refine seq_n hK21 ?_
          refine w_ret ?_
          refine seq_r hK18 ?_
          refine fin_r1 hK0 rfl ?_
          try obtain rfl := Option.some.inj h
          exact hP _ (hS.sel 2 [] (by decide))
        · refine w_skip ?_
          refine seq_n hK18 ?_
          refine w_seq fun K22 hK22 => ?_
          refine w_seq fun K23 hK23 => ?_
          refine w_reg gC ?_
          try simp only [W, EE, Nat.reduceAdd, Nat.reduceBEq, hS.var 1 rfl, hS.var 0 rfl]
          refine seq_n hK23 ?_
          refine w_if ?_
          simp only [W]
          refine w_cnd h (fun hc h => ?_) (fun hc h => ?_)
          · refine w_seq fun K24 hK24 => ?_
            refine w_reg gC ?_
            try simp only [W, Nat.reduceAdd]
            refine seq_n hK24 ?_
            refine w_ret ?_
            refine seq_r hK22 ?_
            refine fin_r1 hK0 rfl ?_
            try obtain rfl := Option.some.inj h
            exact hP _ (hS.sel 2 [] (by decide))
          · refine w_skip ?_
            refine seq_n hK22 ?_
            refine w_seq fun K25 hK25 => ?_
            refine w_reg gC ?_
            try simp only [W, Nat.reduceAdd]
            refine seq_n hK25 ?_
            refine w_ret ?_
            refine fin_r1 hK0 rfl ?_
            try obtain rfl := Option.some.inj h
            exact hP _ (hS.sel 2 [] (by decide))
theorem laws_markIntS_w {a0 : List Int} {a1 : Int} {m0 : AV} {r : (Int × List Int)} (h : laws_markIntS a0 a1 = some r) {F : List It} {H : Heap} (hS : Own H (⟨m0, 1, a0.map (AV.int .i64)⟩ :: F)) (qm0 : isSl m0) {P : AV → Heap → Prop} (hP : ∀ H', Own H' (⟨m0, 1, r.2.map (AV.int .i64)⟩ :: F) → P (.int .i64 r.1) H') : ACall C 25 [m0, .int .i64 a1] H P := by
  refine acall_of gC (res := [.tmp 4]) (n := 19) rfl rfl rfl rfl fun K0 hK0 => ?_
  simp only [W, Nat.reduceSub, Nat.reduceAdd, List.replicate]
  unfold laws_markIntS at h
  refine w_seq fun K1 hK1 => ?_
  refine w_reg gC ?_
  try simp only [W, Nat.reduceAdd]
  refine seq_n hK1 ?_
  refine w_seq fun K2 hK2 => ?_
  refine w_seq fun K3 hK3 => ?_
  refine w_reg gC ?_
  try simp only [W, Nat.reduceAdd]
  refine seq_n hK3 ?_
  obtain ⟨y9, hw10, g16⟩ := Option.bind_eq_some_iff.1 h
  refine w_join gC (fun s H => ∃ x7 : Int, ∃ x8 : List Int, y9 = (x7, x8) ∧ s = [u, .int .i64 x7, u, u, u, u, u, u, u, u, u, u, u, u, u, u, u, u, u] ∧ Own H (⟨m0, 1, x8.map (AV.int .i64)⟩ :: F)) (fun K11 hK11 => ?_) (fun s H hq => ?_)
  · refine w_blk fun K12 hK12 => ?_
    refine w_loop gC hw10 (fun x s H => match x with | (x4, x5, x6) => s = [m0, .int .i64 x5, u, u, u, .int .i64 x6, u, u, u, u, u, u, u, u, u, u, u, u, u] ∧ Own H (⟨m0, 1, x4.map (AV.int .i64)⟩ :: F)) ⟨rfl, hS⟩ (fun x y15 s H h hd14 hi K13 hK13 => ?_)
    obtain ⟨x4, x5, x6⟩ := x
    try dsimp only at hi
    obtain ⟨rfl, hS⟩ := hi
    simp only [laws_markIntS_l0] at h
    refine w_seq fun K17 hK17 => ?_
    refine w_seq fun K18 hK18 => ?_
    refine w_reg gC ?_
    try simp only [W, EE, Nat.reduceAdd]
    refine w_len 0 hS rfl qm0 rfl ?_
    try simp only [W, EE]
    refine seq_n hK18 ?_
    refine w_if ?_
    simp only [W]
    refine w_cnd h (fun hc h => ?_) (fun hc h => ?_)
    · refine w_skip ?_
      refine seq_n hK17 ?_
      refine w_seq fun K19 hK19 => ?_
      refine w_blk fun K20 hK20 => ?_
      refine w_seq fun K21 hK21 => ?_
      refine w_reg gC ?_
      try simp only [W, EE, Nat.reduceAdd]
      refine w_ow 0 hS rfl rfl rfl rfl rfl h (fun b22 in23 wn23 on23 hb22 h en23 => ?_) qm0.ne
      obtain ⟨kn23, hbn23, hen23⟩ := hS.elem 0 rfl en23 hb22
      try simp only [W]
      refine w_ste (a := .int .i64 x5) (y' := x5) 0 hS rfl en23 hb22 rfl rfl rfl rfl rfl rfl rfl fun H hS => ?_
      try simp only [W]
      refine seq_n hK21 ?_
      refine w_reg gC ?_
      try simp only [W, EE, Nat.reduceAdd]
      refine blk_n0 hK20 ?_
      refine seq_n hK19 ?_
      refine w_reg gC ?_
      try simp only [W, EE, Nat.reduceAdd]
      exact lp_n hK13 h ⟨rfl, hS⟩
    · refine w_exit ?_
      refine seq_x hK17 ?_
      try obtain rfl := Option.some.inj h
      obtain rfl := hd14 _ rfl
      have h : (some (x5, x4) : Option (Int × (List Int))) = some (x5, x4) := rfl
      refine lp_x hK13 ?_
      refine blk_e hK12 ?_
      exact cut_n hK11 ⟨_, _, (Option.some.inj h).symm, rfl, hS⟩
  · obtain ⟨x7, x8, rfl, rfl, hS⟩ := hq
    replace h := g16
    try dsimp only at h
    refine seq_n hK2 ?_
    refine w_seq fun K26 hK26 => ?_
    refine w_reg gC ?_
    try simp only [W, Nat.reduceAdd]
    refine seq_n hK26 ?_
    refine w_ret ?_
    refine fin_r1 hK0 rfl ?_
    try obtain rfl := Option.some.inj h
    exact hP _ hS
theorem laws_markIntSS_w {a0 : List (List Int)} {a1 : Int} {m0 : AV} {d100 : List AV} {r : (Int × List (List Int))} (h : laws_markIntSS a0 a1 = some r) {F : List It} {H : Heap} (hS : Own H (⟨m0, 1, ouw nm_SInt d100 a0⟩ :: ((inn np_SInt (AV.int .i64) 1 d100 a0) ++ F))) (qm0 : isSl m0) (qd100 : isSls d100 (a0).length) {P : AV → Heap → Prop} (hP : ∀ nd100 : List AV, isSls nd100 (r.2).length → ∀ H', Own H' (⟨m0, 1, ouw nm_SInt nd100 r.2⟩ :: ((inn np_SInt (AV.int .i64) 1 nd100 r.2) ++ F)) → P (.int .i64 r.1) H') : ACall C 118 [m0, .int .i64 a1] H P := by
  refine acall_of gC (res := [.tmp 4]) (n := 19) rfl rfl rfl rfl fun K0 hK0 => ?_
  simp only [W, Nat.reduceSub, Nat.reduceAdd, List.replicate]
  unfold laws_markIntSS at h
  refine w_seq fun K1 hK1 => ?_
  refine w_reg gC ?_
  try simp only [W, Nat.reduceAdd]
  refine seq_n hK1 ?_
  refine w_seq fun K2 hK2 => ?_
  refine w_seq fun K3 hK3 => ?_
  refine w_reg gC ?_
  try simp only [W, Nat.reduceAdd]
  refine seq_n hK3 ?_
  obtain ⟨y12, hw13, g19⟩ := Option.bind_eq_some_iff.1 h
  refine w_join gC (fun s H => ∃ x9 : Int, ∃ x10 : List (List Int), y12 = (x9, x10) ∧ ∃ d11 : List AV, isSls d11 (x10).length ∧ s = [u, .int .i64 x9, u, u, u, u, u, u, u, u, u, u, u, u, u, u, u, u, u] ∧ Own H (⟨m0, 1, ouw nm_SInt d11 x10⟩ :: ((inn np_SInt (AV.int .i64) 1 d11 x10) ++ F))) (fun K14 hK14 => ?_) (fun s H hq => ?_)
  · refine w_blk fun K15 hK15 => ?_
    refine w_loop gC hw13 (fun x s H => match x with | (x5, x7, x8) => ∃ d6 : List AV, isSls d6 (x5).length ∧ s = [m0, .int .i64 x7, u, u, u, .int .i64 x8, u, u, u, u, u, u, u, u, u, u, u, u, u] ∧ Own H (⟨m0, 1, ouw nm_SInt d6 x5⟩ :: ((inn np_SInt (AV.int .i64) 1 d6 x5) ++ F))) ⟨_, qd100, rfl, hS⟩ (fun x y18 s H h hd17 hi K16 hK16 => ?_)
    obtain ⟨x5, x7, x8⟩ := x
    try dsimp only at hi
    obtain ⟨d6, qd6, rfl, hS⟩ := hi
    simp only [laws_markIntSS_l0] at h
    refine w_seq fun K20 hK20 => ?_
    refine w_seq fun K21 hK21 => ?_
    refine w_reg gC ?_
    try simp only [W, EE, Nat.reduceAdd]
    refine w_lenN 0 hS rfl qm0 qd6 rfl ?_
    try simp only [W, EE]
    refine seq_n hK21 ?_
    refine w_if ?_
    simp only [W]
    refine w_cnd h (fun hc h => ?_) (fun hc h => ?_)
    · refine w_skip ?_
      refine seq_n hK20 ?_
      refine w_seq fun K22 hK22 => ?_
      refine w_blk fun K23 hK23 => ?_
      refine w_reg gC ?_
      try simp only [W, EE, Nat.reduceAdd]
      obtain ⟨b25, hb25, h⟩ := Option.bind_eq_some_iff.1 h
      have hS : Own _ (⟨m0, 1, ouw nm_SInt d6 x5⟩ :: ((inn np_SInt (AV.int .i64) 1 d6 x5) ++ (F))) := hS
      obtain ⟨v26, qv26, hS⟩ := openN (p := np_SInt) (c := (AV.int .i64)) (m := nm_SInt) (b := b25) hS qd6 hb25
      have hS : Own _ (⟨v26, 1, b25.map (AV.int .i64)⟩ :: ⟨m0, 1, (ouw nm_SInt d6 x5).set x8.toNat (v26)⟩ :: ((inx np_SInt (AV.int .i64) 1 d6 x5 x8.toNat) ++ (F))) := hS
      refine w_owE (x := v26) 1 hS rfl rfl rfl rfl rfl (idx_some hb25).1 (holeG qd6 hb25) qm0 (fun in24 wn24 on24 en24 hkn24 => ?_)
      obtain ⟨kn24, hbn24, hen24⟩ := hkn24
      try simp only [W, EE, hbn24, hen24, qv26.rd]
      refine w_call h fun b28 hb28 h => ?_
      obtain ⟨b29, b30⟩ := b28
      try dsimp only at h
      refine laws_markIntS_w hb28 hS qv26 fun H hS => ?_
      try simp only [W]
      refine blk_n0 hK23 ?_
      refine seq_n hK22 ?_
      refine w_reg gC ?_
      try simp only [W, EE, Nat.reduceAdd]
      have hS : Own _ (⟨v26, 1, b30.map (AV.int .i64)⟩ :: ⟨m0, 1, (ouw nm_SInt d6 x5).set x8.toNat (v26)⟩ :: ((inx np_SInt (AV.int .i64) 1 d6 x5 x8.toNat) ++ (F))) := hS
      obtain ⟨d31, qd31, hS⟩ := closeN (p := np_SInt) (c := (AV.int .i64)) (m := nm_SInt) (b := b25) (y := b30) hS qd6 qv26 hb25
      have hS : Own _ (⟨m0, 1, ouw nm_SInt d31 (x5.set x8.toNat b30)⟩ :: ((inn np_SInt (AV.int .i64) 1 d31 (x5.set x8.toNat b30)) ++ (F))) := hS
      exact lp_n hK16 h ⟨_, qd31, rfl, hS⟩
    · refine w_exit ?_
      refine seq_x hK20 ?_
      try obtain rfl := Option.some.inj h
      obtain rfl := hd17 _ rfl
      have h : (some (x7, x5) : Option (Int × (List (List Int)))) = some (x7, x5) := rfl
      refine lp_x hK16 ?_
      refine blk_e hK15 ?_
      exact cut_n hK14 ⟨_, _, (Option.some.inj h).symm, _, qd6, rfl, hS⟩
  · obtain ⟨x9, x10, rfl, d11, qd11, rfl, hS⟩ := hq
    replace h := g19
    try dsimp only at h
    refine seq_n hK2 ?_
    refine w_seq fun K34 hK34 => ?_
    refine w_reg gC ?_
    try simp only [W, Nat.reduceAdd]
    refine seq_n hK34 ?_
    refine w_ret ?_
    refine fin_r1 hK0 rfl ?_
    try obtain rfl := Option.some.inj h
    exact hP _ qd11 _ hS
theorem laws_markTurns_w {a0 : Turns} {a1 : Int} {m0 : AV} {m1 : AV} {d101 : List AV} {m2 : AV} {m3 : AV} {r : (Int × List Int × List (List Int) × List Int × List Int)} (h : laws_markTurns a0 a1 = some r) {F : List It} {H : Heap} (hS : Own H (⟨m0, 1, a0.Quanta.map (AV.int .i64)⟩ :: ⟨m1, 1, ouw nm_SInt d101 a0.Queues⟩ :: ⟨m2, 1, a0.Credit.map (AV.int .i64)⟩ :: ⟨m3, 1, a0.Sent.map (AV.int .i64)⟩ :: ((inn np_SInt (AV.int .i64) 1 d101 a0.Queues) ++ F))) (qm0 : isSl m0) (qm1 : isSl m1) (qd101 : isSls d101 (a0.Queues).length) (qm2 : isSl m2) (qm3 : isSl m3) {P : AV → Heap → Prop} (hP : ∀ nd101 : List AV, isSls nd101 (r.2.2.1).length → ∀ H', Own H' (⟨m0, 1, r.2.1.map (AV.int .i64)⟩ :: ⟨m1, 1, ouw nm_SInt nd101 r.2.2.1⟩ :: ⟨m2, 1, r.2.2.2.1.map (AV.int .i64)⟩ :: ⟨m3, 1, r.2.2.2.2.map (AV.int .i64)⟩ :: ((inn np_SInt (AV.int .i64) 1 nd101 r.2.2.1) ++ F)) → P (.int .i64 r.1) H') : ACall C 20 [.agg [m0, m1, m2, m3, .int .i64 a0.At], .int .i64 a1] H P := by
  refine acall_of gC (res := [.tmp 4]) (n := 22) rfl rfl rfl rfl fun K0 hK0 => ?_
  simp only [W, Nat.reduceSub, Nat.reduceAdd, List.replicate]
  unfold laws_markTurns at h
  refine w_seq fun K1 hK1 => ?_
  refine w_reg gC ?_
  try simp only [W, Nat.reduceAdd]
  refine w_box hS rfl rfl rfl (by simp only [W, storA, List.all_cons, List.all_nil, qm0.stor, qm1.stor, qm2.stor, qm3.stor]; rfl) fun ip2 wp2 H hS => ?_
  try simp only [W]
  refine seq_n hK1 ?_
  refine w_seq fun K4 hK4 => ?_
  refine w_reg gC ?_
  try simp only [W, EE, Nat.reduceAdd, Nat.reduceBEq, hS.var 0 rfl]
  refine w_call h fun b5 hb5 h => ?_
  obtain ⟨b6, b7⟩ := b5
  try dsimp only at h
  refine laws_markIntS_w hb5 (hS.sel 5 [1, 0, 2, 3, 4] (by decide)) qm0 fun H hS => ?_
  try simp only [W]
  refine seq_n hK4 ?_
  refine w_seq fun K8 hK8 => ?_
  refine w_reg gC ?_
  try simp only [W, EE, Nat.reduceAdd, Nat.reduceBEq, hS.var 1 rfl]
  have hS : Own _ (⟨m1, 1, ouw nm_SInt d101 a0.Queues⟩ :: ((inn np_SInt (AV.int .i64) 1 d101 a0.Queues) ++ (⟨m0, 1, b7.map (AV.int .i64)⟩ :: ⟨.ptr ip2 wp2 0 0, 5, [.agg [m0, m1, m2, m3, .int .i64 a0.At]]⟩ :: ⟨m2, 1, a0.Credit.map (AV.int .i64)⟩ :: ⟨m3, 1, a0.Sent.map (AV.int .i64)⟩ :: F))) := Own.catI_ (bl := [[⟨m0, 1, b7.map (AV.int .i64)⟩], [⟨.ptr ip2 wp2 0 0, 5, [.agg [m0, m1, m2, m3, .int .i64 a0.At]]⟩], [⟨m1, 1, ouw nm_SInt d101 a0.Queues⟩], [⟨m2, 1, a0.Credit.map (AV.int .i64)⟩], [⟨m3, 1, a0.Sent.map (AV.int .i64)⟩], (inn np_SInt (AV.int .i64) 1 d101 a0.Queues)]) (F := F) hS 6 rfl [2, 5, 0, 1, 3, 4] (by decide)
  refine w_call h fun b9 hb9 h => ?_
  obtain ⟨b10, b11⟩ := b9
  try dsimp only at h
  refine laws_markIntSS_w hb9 hS qm1 qd101 fun d12 qd12 H hS => ?_
  have hS : Own _ (⟨m1, 1, ouw nm_SInt d12 b11⟩ :: ⟨m0, 1, b7.map (AV.int .i64)⟩ :: ⟨.ptr ip2 wp2 0 0, 5, [.agg [m0, m1, m2, m3, .int .i64 a0.At]]⟩ :: ⟨m2, 1, a0.Credit.map (AV.int .i64)⟩ :: ⟨m3, 1, a0.Sent.map (AV.int .i64)⟩ :: ((inn np_SInt (AV.int .i64) 1 d12 b11) ++ (F))) := Own.catI_ (bl := [[⟨m1, 1, ouw nm_SInt d12 b11⟩], (inn np_SInt (AV.int .i64) 1 d12 b11), [⟨m0, 1, b7.map (AV.int .i64)⟩], [⟨.ptr ip2 wp2 0 0, 5, [.agg [m0, m1, m2, m3, .int .i64 a0.At]]⟩], [⟨m2, 1, a0.Credit.map (AV.int .i64)⟩], [⟨m3, 1, a0.Sent.map (AV.int .i64)⟩]]) (F := F) hS 6 rfl [0, 2, 3, 4, 5, 1] (by decide)
  try simp only [W]
  refine seq_n hK8 ?_
  refine w_seq fun K13 hK13 => ?_
  refine w_reg gC ?_
  try simp only [W, EE, Nat.reduceAdd, Nat.reduceBEq, hS.var 2 rfl]
  refine w_call h fun b14 hb14 h => ?_
  obtain ⟨b15, b16⟩ := b14
  try dsimp only at h
  refine laws_markIntS_w hb14 (hS.sel 5 [3, 0, 1, 2, 4] (by decide)) qm2 fun H hS => ?_
  try simp only [W]
  refine seq_n hK13 ?_
  refine w_seq fun K17 hK17 => ?_
  refine w_reg gC ?_
  try simp only [W, EE, Nat.reduceAdd, Nat.reduceBEq, hS.var 3 rfl]
  refine w_call h fun b18 hb18 h => ?_
  obtain ⟨b19, b20⟩ := b18
  try dsimp only at h
  refine laws_markIntS_w hb18 (hS.sel 5 [4, 0, 1, 2, 3] (by decide)) qm3 fun H hS => ?_
  try simp only [W]
  refine seq_n hK17 ?_
  refine w_seq fun K21 hK21 => ?_
  refine w_reg gC ?_
  try simp only [W, Nat.reduceAdd]
  refine seq_n hK21 ?_
  refine w_ret ?_
  refine fin_r1 hK0 rfl ?_
  try obtain rfl := Option.some.inj h
  have hS : Own _ (⟨m0, 1, b7.map (AV.int .i64)⟩ :: ⟨m1, 1, ouw nm_SInt d12 b11⟩ :: ⟨m2, 1, b16.map (AV.int .i64)⟩ :: ⟨m3, 1, b20.map (AV.int .i64)⟩ :: ((inn np_SInt (AV.int .i64) 1 d12 b11) ++ (F))) := Own.catI_ (bl := [[⟨m3, 1, b20.map (AV.int .i64)⟩], [⟨m2, 1, b16.map (AV.int .i64)⟩], [⟨m1, 1, ouw nm_SInt d12 b11⟩], [⟨m0, 1, b7.map (AV.int .i64)⟩], [⟨.ptr ip2 wp2 0 0, 5, [.agg [m0, m1, m2, m3, .int .i64 a0.At]]⟩], (inn np_SInt (AV.int .i64) 1 d12 b11)]) (F := F) hS 6 rfl [3, 2, 1, 0, 5] (by decide)
  exact hP _ qd12 _ hS
theorem laws_heldIntS_w {a0 : List Int} {a1 : Int} {r : (Int)} (h : laws_heldIntS a0 a1 = some r) {F : List It} {H : Heap} (hS : Own H (F)) {P : AV → Heap → Prop} (hP : ∀ H', Own H' (F) → P (.int .i64 r) H') : ACall C 26 [.fz (a0.map (AV.int .i64)), .int .i64 a1] H P := by
  refine acall_of gC (res := [.tmp 4]) (n := 21) rfl rfl rfl rfl fun K0 hK0 => ?_
  simp only [W, Nat.reduceSub, Nat.reduceAdd, List.replicate]
  unfold laws_heldIntS at h
  refine w_seq fun K1 hK1 => ?_
  refine w_reg gC ?_
  try simp only [W, Nat.reduceAdd]
  refine seq_n hK1 ?_
  refine w_seq fun K2 hK2 => ?_
  refine w_seq fun K3 hK3 => ?_
  refine w_reg gC ?_
  try simp only [W, Nat.reduceAdd]
  refine seq_n hK3 ?_
  obtain ⟨y7, hw8, g14⟩ := Option.bind_eq_some_iff.1 h
  refine w_join gC (fun s H => ∃ x6 : Int, y7 = LR.next (x6) ∧ s = [u, .int .i64 x6, u, u, u, u, u, u, u, u, u, u, u, u, u, u, u, u, u, u, u] ∧ Own H (F)) (fun K9 hK9 => ?_) (fun s H hq => ?_)
  · refine w_blk fun K10 hK10 => ?_
    refine w_loop gC hw8 (fun x s H => match x with | (x4, x5) => s = [.fz (a0.map (AV.int .i64)), .int .i64 x4, u, u, u, .int .i64 x5, u, u, u, u, u, u, u, u, u, u, u, u, u, u, u] ∧ Own H (F)) ⟨rfl, hS⟩ (fun x y13 s H h hd12 hi K11 hK11 => ?_)
    obtain ⟨x4, x5⟩ := x
    try dsimp only at hi
    obtain ⟨rfl, hS⟩ := hi
    simp only [laws_heldIntS_l0] at h
    refine w_seq fun K15 hK15 => ?_
    refine w_seq fun K16 hK16 => ?_
    refine w_reg gC ?_
    try simp only [W, EE, Nat.reduceAdd]
    refine seq_n hK16 ?_
    refine w_if ?_
    simp only [W]
    refine w_cnd h (fun hc h => ?_) (fun hc h => ?_)
    · refine w_skip ?_
      refine seq_n hK15 ?_
      refine w_seq fun K17 hK17 => ?_
      refine w_blk fun K18 hK18 => ?_
      refine w_seq fun K19 hK19 => ?_
      refine w_seq fun K20 hK20 => ?_
      refine w_reg gC ?_
      try simp only [W, EE, Nat.reduceAdd]
      refine w_fz rfl rfl rfl (fun _ => rfl) h fun b21 hb21 h => ?_
      try simp only [W, EE]
      refine seq_n hK20 ?_
      refine w_if ?_
      simp only [W]
      refine w_cnd h (fun hc h => ?_) (fun hc h => ?_)
      · refine w_seq fun K22 hK22 => ?_
        refine w_reg gC ?_
        try simp only [W, Nat.reduceAdd]
        refine seq_n hK22 ?_
        refine w_ret ?_
        refine seq_r hK19 ?_
        refine blk_r hK18 ?_
        refine seq_r hK17 ?_
        try obtain rfl := Option.some.inj h
        obtain rfl := hd12 _ rfl
        have h : (some (LR.done (-1)) : Option (LR (Int) (Int))) = some (LR.done (-1)) := rfl
        refine lp_r hK11 ?_
        refine blk_r hK10 ?_
        try obtain rfl := Option.some.inj h
        obtain rfl := Option.some.inj g14
        have h : (some (-1) : Option (Int)) = some (-1) := rfl
        refine cut_r hK9 ?_
        refine seq_r hK2 ?_
        refine fin_r1 hK0 rfl ?_
        try obtain rfl := Option.some.inj h
        exact hP _ hS
      · refine w_skip ?_
        refine seq_n hK19 ?_
        refine w_reg gC ?_
        try simp only [W, EE, Nat.reduceAdd]
        refine blk_n0 hK18 ?_
        refine seq_n hK17 ?_
        refine w_reg gC ?_
        try simp only [W, EE, Nat.reduceAdd]
        exact lp_n hK11 h ⟨rfl, hS⟩
    · refine w_exit ?_
      refine seq_x hK15 ?_
      try obtain rfl := Option.some.inj h
      obtain rfl := hd12 _ rfl
      have h : (some (LR.next (x4)) : Option (LR (Int) (Int))) = some (LR.next (x4)) := rfl
      refine lp_x hK11 ?_
      refine blk_e hK10 ?_
      exact cut_n hK9 ⟨_, (Option.some.inj h).symm, rfl, hS⟩
  · obtain ⟨x6, ey, rfl, hS⟩ := hq; obtain rfl := ey.symm
    replace h := g14
    try dsimp only at h
    refine seq_n hK2 ?_
    refine w_seq fun K29 hK29 => ?_
    refine w_reg gC ?_
    try simp only [W, Nat.reduceAdd]
    refine seq_n hK29 ?_
    refine w_ret ?_
    refine fin_r1 hK0 rfl ?_
    try obtain rfl := Option.some.inj h
    exact hP _ hS
theorem laws_heldIntSS_w {a0 : List (List Int)} {a1 : Int} {r : (Int)} (h : laws_heldIntSS a0 a1 = some r) {F : List It} {H : Heap} (hS : Own H (F)) {P : AV → Heap → Prop} (hP : ∀ H', Own H' (F) → P (.int .i64 r) H') : ACall C 119 [.fz (a0.map (fzl (AV.int .i64))), .int .i64 a1] H P := by
  refine acall_of gC (res := [.tmp 4]) (n := 21) rfl rfl rfl rfl fun K0 hK0 => ?_
  simp only [W, Nat.reduceSub, Nat.reduceAdd, List.replicate]
  unfold laws_heldIntSS at h
  refine w_seq fun K1 hK1 => ?_
  refine w_reg gC ?_
  try simp only [W, Nat.reduceAdd]
  refine seq_n hK1 ?_
  refine w_seq fun K2 hK2 => ?_
  refine w_seq fun K3 hK3 => ?_
  refine w_reg gC ?_
  try simp only [W, Nat.reduceAdd]
  refine seq_n hK3 ?_
  obtain ⟨y7, hw8, g14⟩ := Option.bind_eq_some_iff.1 h
  refine w_join gC (fun s H => ∃ x6 : Int, y7 = LR.next (x6) ∧ s = [u, .int .i64 x6, u, u, u, u, u, u, u, u, u, u, u, u, u, u, u, u, u, u, u] ∧ Own H (F)) (fun K9 hK9 => ?_) (fun s H hq => ?_)
  · refine w_blk fun K10 hK10 => ?_
    refine w_loop gC hw8 (fun x s H => match x with | (x4, x5) => s = [.fz (a0.map (fzl (AV.int .i64))), .int .i64 x4, u, u, u, .int .i64 x5, u, u, u, u, u, u, u, u, u, u, u, u, u, u, u] ∧ Own H (F)) ⟨rfl, hS⟩ (fun x y13 s H h hd12 hi K11 hK11 => ?_)
    obtain ⟨x4, x5⟩ := x
    try dsimp only at hi
    obtain ⟨rfl, hS⟩ := hi
    simp only [laws_heldIntSS_l0] at h
    refine w_seq fun K15 hK15 => ?_
    refine w_seq fun K16 hK16 => ?_
    refine w_reg gC ?_
    try simp only [W, EE, Nat.reduceAdd]
    refine seq_n hK16 ?_
    refine w_if ?_
    simp only [W]
    refine w_cnd h (fun hc h => ?_) (fun hc h => ?_)
    · refine w_skip ?_
      refine seq_n hK15 ?_
      refine w_seq fun K17 hK17 => ?_
      refine w_blk fun K18 hK18 => ?_
      refine w_seq fun K19 hK19 => ?_
      refine w_reg gC ?_
      try simp only [W, EE, Nat.reduceAdd]
      refine w_fz rfl rfl rfl (fun _ => rfl) h fun b20 hb20 h => ?_
      try simp only [W, EE, EN]
      refine w_call h fun b21 hb21 h => ?_
      refine laws_heldIntS_w hb21 hS fun H hS => ?_
      try simp only [W]
      refine seq_n hK19 ?_
      refine w_seq fun K22 hK22 => ?_
      refine w_reg gC ?_
      try simp only [W, EE, Nat.reduceAdd]
      refine seq_n hK22 ?_
      refine w_if ?_
      simp only [W]
      refine w_cnd h (fun hc h => ?_) (fun hc h => ?_)
      · refine w_seq fun K23 hK23 => ?_
        refine w_reg gC ?_
        try simp only [W, Nat.reduceAdd]
        refine seq_n hK23 ?_
        refine w_ret ?_
        refine blk_r hK18 ?_
        refine seq_r hK17 ?_
        try obtain rfl := Option.some.inj h
        obtain rfl := hd12 _ rfl
        have h : (some (LR.done (-1)) : Option (LR (Int) (Int))) = some (LR.done (-1)) := rfl
        refine lp_r hK11 ?_
        refine blk_r hK10 ?_
        try obtain rfl := Option.some.inj h
        obtain rfl := Option.some.inj g14
        have h : (some (-1) : Option (Int)) = some (-1) := rfl
        refine cut_r hK9 ?_
        refine seq_r hK2 ?_
        refine fin_r1 hK0 rfl ?_
        try obtain rfl := Option.some.inj h
        exact hP _ hS
      · refine w_skip ?_
        refine blk_n0 hK18 ?_
        refine seq_n hK17 ?_
        refine w_reg gC ?_
        try simp only [W, EE, Nat.reduceAdd]
        exact lp_n hK11 h ⟨rfl, hS⟩
    · refine w_exit ?_
      refine seq_x hK15 ?_
      try obtain rfl := Option.some.inj h
      obtain rfl := hd12 _ rfl
      have h : (some (LR.next (x4)) : Option (LR (Int) (Int))) = some (LR.next (x4)) := rfl
      refine lp_x hK11 ?_
      refine blk_e hK10 ?_
      exact cut_n hK9 ⟨_, (Option.some.inj h).symm, rfl, hS⟩
  · obtain ⟨x6, ey, rfl, hS⟩ := hq; obtain rfl := ey.symm
    replace h := g14
    try dsimp only at h
    refine seq_n hK2 ?_
    refine w_seq fun K30 hK30 => ?_
    refine w_reg gC ?_
    try simp only [W, Nat.reduceAdd]
    refine seq_n hK30 ?_
    refine w_ret ?_
    refine fin_r1 hK0 rfl ?_
    try obtain rfl := Option.some.inj h
    exact hP _ hS
theorem laws_heldTurns_w {a0 : Turns} {a1 : Int} {r : (Int)} (h : laws_heldTurns a0 a1 = some r) {F : List It} {H : Heap} (hS : Own H (F)) {P : AV → Heap → Prop} (hP : ∀ H', Own H' (F) → P (.int .i64 r) H') : ACall C 21 [.agg [.fz (a0.Quanta.map (AV.int .i64)), .fz (a0.Queues.map (fzl (AV.int .i64))), .fz (a0.Credit.map (AV.int .i64)), .fz (a0.Sent.map (AV.int .i64)), .int .i64 a0.At], .int .i64 a1] H P := by
  refine acall_of gC (res := [.tmp 4]) (n := 30) rfl rfl rfl rfl fun K0 hK0 => ?_
  simp only [W, Nat.reduceSub, Nat.reduceAdd, List.replicate]
  unfold laws_heldTurns at h
  refine w_seq fun K1 hK1 => ?_
  refine w_reg gC ?_
  try simp only [W, Nat.reduceAdd]
  refine w_box hS rfl rfl rfl rfl fun ip2 wp2 H hS => ?_
  try simp only [W]
  refine seq_n hK1 ?_
  refine w_seq fun K4 hK4 => ?_
  refine w_reg gC ?_
  try simp only [W, EE, Nat.reduceAdd, Nat.reduceBEq, hS.var 0 rfl]
  refine w_call h fun b5 hb5 h => ?_
  refine laws_heldIntS_w hb5 hS fun H hS => ?_
  try simp only [W]
  refine seq_n hK4 ?_
  refine w_seq fun K6 hK6 => ?_
  refine w_seq fun K7 hK7 => ?_
  refine w_reg gC ?_
  try simp only [W, EE, Nat.reduceAdd]
  refine seq_n hK7 ?_
  refine w_if ?_
  simp only [W]
  refine w_cnd h (fun hc h => ?_) (fun hc h => ?_)
  · refine w_seq fun K8 hK8 => ?_
    refine w_reg gC ?_
    try simp only [W, Nat.reduceAdd]
    refine seq_n hK8 ?_
    refine w_ret ?_
    refine seq_r hK6 ?_
    refine fin_r1 hK0 rfl ?_
    try obtain rfl := Option.some.inj h
    exact hP _ (hS.sel 1 [] (by decide))
  · refine w_skip ?_
    refine seq_n hK6 ?_
    refine w_seq fun K9 hK9 => ?_
    refine w_reg gC ?_
    try simp only [W, EE, Nat.reduceAdd, Nat.reduceBEq, hS.var 0 rfl]
    refine w_call h fun b10 hb10 h => ?_
    refine laws_heldIntSS_w hb10 hS fun H hS => ?_
    try simp only [W]
    refine seq_n hK9 ?_
    refine w_seq fun K11 hK11 => ?_
    refine w_seq fun K12 hK12 => ?_
    refine w_reg gC ?_
    try simp only [W, EE, Nat.reduceAdd]
    refine seq_n hK12 ?_
    refine w_if ?_
    simp only [W]
    refine w_cnd h (fun hc h => ?_) (fun hc h => ?_)
    · refine w_seq fun K13 hK13 => ?_
      refine w_reg gC ?_
      try simp only [W, Nat.reduceAdd]
      refine seq_n hK13 ?_
      refine w_ret ?_
      refine seq_r hK11 ?_
      refine fin_r1 hK0 rfl ?_
      try obtain rfl := Option.some.inj h
      exact hP _ (hS.sel 1 [] (by decide))
    · refine w_skip ?_
      refine seq_n hK11 ?_
      refine w_seq fun K14 hK14 => ?_
      refine w_reg gC ?_
      try simp only [W, EE, Nat.reduceAdd, Nat.reduceBEq, hS.var 0 rfl]
      refine w_call h fun b15 hb15 h => ?_
      refine laws_heldIntS_w hb15 hS fun H hS => ?_
      try simp only [W]
      refine seq_n hK14 ?_
      refine w_seq fun K16 hK16 => ?_
      refine w_seq fun K17 hK17 => ?_
      refine w_reg gC ?_
      try simp only [W, EE, Nat.reduceAdd]
      refine seq_n hK17 ?_
      refine w_if ?_
      simp only [W]
      refine w_cnd h (fun hc h => ?_) (fun hc h => ?_)
      · refine w_seq fun K18 hK18 => ?_
        refine w_reg gC ?_
        try simp only [W, Nat.reduceAdd]
        refine seq_n hK18 ?_
        refine w_ret ?_
        refine seq_r hK16 ?_
        refine fin_r1 hK0 rfl ?_
        try obtain rfl := Option.some.inj h
        exact hP _ (hS.sel 1 [] (by decide))
      · refine w_skip ?_
        refine seq_n hK16 ?_
        refine w_seq fun K19 hK19 => ?_
        refine w_reg gC ?_
        try simp only [W, EE, Nat.reduceAdd, Nat.reduceBEq, hS.var 0 rfl]
        refine w_call h fun b20 hb20 h => ?_
        refine laws_heldIntS_w hb20 hS fun H hS => ?_
        try simp only [W]
        refine seq_n hK19 ?_
        refine w_seq fun K21 hK21 => ?_
        refine w_seq fun K22 hK22 => ?_
        refine w_reg gC ?_
        try simp only [W, EE, Nat.reduceAdd]
        refine seq_n hK22 ?_
        refine w_if ?_
        simp only [W]
        refine w_cnd h (fun hc h => ?_) (fun hc h => ?_)
        · refine w_seq fun K23 hK23 => ?_
          refine w_reg gC ?_
          try simp only [W, Nat.reduceAdd]
          refine seq_n hK23 ?_
          refine w_ret ?_
          refine seq_r hK21 ?_
          refine fin_r1 hK0 rfl ?_
          try obtain rfl := Option.some.inj h
          exact hP _ (hS.sel 1 [] (by decide))
        · refine w_skip ?_
          refine seq_n hK21 ?_
          refine w_seq fun K24 hK24 => ?_
          refine w_reg gC ?_
          try simp only [W, Nat.reduceAdd]
          refine seq_n hK24 ?_
          refine w_ret ?_
          refine fin_r1 hK0 rfl ?_
          try obtain rfl := Option.some.inj h
          exact hP _ (hS.sel 1 [] (by decide))
end Go.VxW
