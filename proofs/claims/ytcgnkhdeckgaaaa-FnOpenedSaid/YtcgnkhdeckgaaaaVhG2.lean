import Derived.Test.YtcgnkhdeckgaaaaVhG1
import Derived.Test.YtcgnkhdeckgaaaaProg
import Derived.Test.YtcgnkhdeckgaaaaVaE
import Derived.KernelRfl
open Go Go.VS
set_option maxRecDepth 8000
set_option maxHeartbeats 4000000
namespace Go.VxW
theorem spec_l15Take_w {a0 : Greet} {a1 : Hello} {m8 : AV} {m9 : AV} {m10 : AV} {r : (Greet)} (h : spec_l15Take a0 a1 = some r) {F : List It} {H : Heap} (hS : Own H (⟨m8, 3, a0.Line.map e_Hello⟩::⟨m9, 3, a0.OpenedA.map e_Hello⟩::⟨m10, 3, a0.OpenedB.map e_Hello⟩::F)) (qm8 : isSl m8) (qm9 : isSl m9) (qm10 : isSl m10) {P : AV → Heap → Prop} (hP : ∀ v90 : AV, isSl v90 → ∀ v92 : AV, isSl v92 → ∀ v94 : AV, isSl v94 → ∀ H', Own H' (⟨v90, 3, r.Line.map e_Hello⟩::⟨v92, 3, r.OpenedA.map e_Hello⟩::⟨v94, 3, r.OpenedB.map e_Hello⟩::F) → P (.agg [.int .i64 r.StateA, .int .i64 r.StateB, .int .i64 r.X, .int .i64 r.Y, .int .i64 r.OfX, .int .i64 r.OfY, .int .i64 r.LastX, .int .i64 r.LastY, v90, v92, v94]) H') : ACall C 241 [.agg [.int .i64 a0.StateA, .int .i64 a0.StateB, .int .i64 a0.X, .int .i64 a0.Y, .int .i64 a0.OfX, .int .i64 a0.OfY, .int .i64 a0.LastX, .int .i64 a0.LastY, m8, m9, m10], .agg [.int .i64 a1.Kind, .int .i64 a1.X, .int .i64 a1.Y]] H P := by
  refine acall_of gC (res := [.cell 4 85]) (n := 112) rfl rfl rfl rfl fun K0 hK0 => ?_
  simp only [W, Nat.reduceSub, Nat.reduceAdd, List.replicate]
  unfold spec_l15Take at h
  refine w_seq fun K1 hK1 => ?_
  refine w_reg gC ?_
  try simp only [W, Nat.reduceAdd]
  refine w_box hS rfl rfl rfl (by simp only [W, storA, List.all_cons, List.all_nil, qm8.stor, qm9.stor, qm10.stor]; rfl) fun ip2 wp2 H hS => ?_
  try simp only [W]
  refine w_box hS rfl rfl rfl rfl fun ip4 wp4 H hS => ?_
  try simp only [W]
  refine w_alloc hS rfl rfl fun ip6 wp6 H hS => ?_
  try simp only [W]
  refine seq_n hK1 ?_
  refine w_seq fun K8 hK8 => ?_
  refine w_seq fun K9 hK9 => ?_
  refine w_reg gC ?_
  try simp only [W, EE, Nat.reduceAdd, Nat.reduceBEq, hS.var 1 rfl]
  refine seq_n hK9 ?_
  refine w_blk fun K10 hK10 => ?_
  refine w_seq fun K11 hK11 => ?_
  refine w_reg gC ?_
  try simp only [W, EE, Nat.reduceAdd]
  refine seq_n hK11 ?_
  refine w_if ?_
  simp only [W]
  refine w_cnd h (fun hc h => ?_) (fun hc h => ?_)
  · refine w_seq fun K12 hK12 => ?_
    refine w_seq fun K13 hK13 => ?_
    obtain ⟨y15, h, g16⟩ := Option.bind_eq_some_iff.1 h
    refine w_join gC (fun s H => ∃ x14 : Bool, y15 = (x14) ∧ s = (u::u::.ptr ip2 wp2 0 0::.ptr ip4 wp4 0 0::.ptr ip6 wp6 0 0::u::u::u::u::u::u::u::u::u::u::u::.bool x14::u::u::u::u::u::u::u::u::u::u::u::u::u::u::u::u::u::u::u::u::u::u::u::u::u::u::u::u::u::u::u::u::u::u::u::u::u::u::u::u::u::u::u::u::u::u::u::u::u::u::u::u::u::u::u::u::u::u::u::u::u::u::u::u::u::u::u::u::u::u::u::u::u::u::u::u::u::u::u::u::u::u::u::u::u::u::u::u::u::u::u::u::u::u::u::[]) ∧ Own H (⟨m8, 3, a0.Line.map e_Hello⟩::⟨m9, 3, a0.OpenedA.map e_Hello⟩::⟨m10, 3, a0.OpenedB.map e_Hello⟩::⟨.ptr ip2 wp2 0 0, 11, [.agg [.int .i64 a0.StateA, .int .i64 a0.StateB, .int .i64 a0.X, .int .i64 a0.Y, .int .i64 a0.OfX, .int .i64 a0.OfY, .int .i64 a0.LastX, .int .i64 a0.LastY, m8, m9, m10]]⟩::⟨.ptr ip4 wp4 0 0, 3, [.agg [.int .i64 a1.Kind, .int .i64 a1.X, .int .i64 a1.Y]]⟩::⟨.ptr ip6 wp6 0 0, 11, [.agg [.int .i64 0, .int .i64 0, .int .i64 0, .int .i64 0, .int .i64 0, .int .i64 0, .int .i64 0, .int .i64 0, .nil, .nil, .nil]]⟩::F)) (fun K17 hK17 => ?_) (fun s H hq => ?_)
    · refine w_seq fun K18 hK18 => ?_
      refine w_reg gC ?_
      try simp only [W, EE, Nat.reduceAdd, Nat.reduceBEq, hS.var 2 rfl]
      refine w_grdT h (fun hc h => ?_) (fun hc h => ?_)
      · try simp only [W, hc]
        refine seq_n hK18 ?_
        refine w_killE (s' := (u::u::.ptr ip2 wp2 0 0::.ptr ip4 wp4 0 0::.ptr ip6 wp6 0 0::u::u::u::u::u::u::u::u::u::u::u::.bool true::u::u::u::u::u::u::u::u::u::u::u::u::u::u::u::u::u::u::u::u::u::u::u::u::u::u::u::u::u::u::u::u::u::u::u::u::u::u::u::u::u::u::u::u::u::u::u::u::u::u::u::u::u::u::u::u::u::u::u::u::u::u::u::u::u::u::u::u::u::u::u::u::u::u::u::u::u::u::u::u::u::u::u::u::u::u::u::u::u::u::u::u::u::u::u::[])) rfl ?_
        exact cut_n hK17 ⟨_, (Option.some.inj h).symm, rfl, (hS.sel 6 [3, 4, 5, 2, 1, 0] (by decide))⟩
      · try simp only [W, EE, reduceIte, Nat.reduceAdd, Nat.reduceBEq, Bool.false_eq_true, hS.var 2 rfl, hc]
        refine seq_n hK18 ?_
        refine w_killE (s' := (u::u::.ptr ip2 wp2 0 0::.ptr ip4 wp4 0 0::.ptr ip6 wp6 0 0::u::u::u::u::u::u::u::u::u::u::u::.bool (a0.LastY == 1000)::u::u::u::u::u::u::u::u::u::u::u::u::u::u::u::u::u::u::u::u::u::u::u::u::u::u::u::u::u::u::u::u::u::u::u::u::u::u::u::u::u::u::u::u::u::u::u::u::u::u::u::u::u::u::u::u::u::u::u::u::u::u::u::u::u::u::u::u::u::u::u::u::u::u::u::u::u::u::u::u::u::u::u::u::u::u::u::u::u::u::u::u::u::u::u::[])) rfl ?_
        exact cut_n hK17 ⟨_, (Option.some.inj h).symm, rfl, (hS.sel 6 [3, 4, 5, 2, 1, 0] (by decide))⟩
    · obtain ⟨x14, ey, rfl, hS⟩ := hq; obtain rfl := ey.symm
      replace h := g16
      try dsimp only at h
      refine seq_n hK13 ?_
      refine w_if ?_
      simp only [W]
      refine w_cnd h (fun hc h => ?_) (fun hc h => ?_)
      · refine w_seq fun K19 hK19 => ?_
        refine w_reg gC ?_
        try simp only [W, EE, reduceIte, Nat.reduceAdd, Nat.reduceLeDiff, hS.var 3 rfl]
        refine w_stv (a := .agg [.int .i64 a0.StateA, .int .i64 a0.StateB, .int .i64 a0.X, .int .i64 a0.Y, .int .i64 a0.OfX, .int .i64 a0.OfY, .int .i64 a0.LastX, .int .i64 a0.LastY, m8, m9, m10]) (y' := .agg [.int .i64 a0.StateA, .int .i64 a0.StateB, .int .i64 a0.X, .int .i64 a0.Y, .int .i64 a0.OfX, .int .i64 a0.OfY, .int .i64 a0.LastX, .int .i64 a0.LastY, m8, m9, m10]) 5 hS rfl rfl rfl rfl rfl (by simp only [storA, List.all_cons, List.all_nil, qm8.stor, qm9.stor, qm10.stor]; rfl) rfl rfl fun H hS => ?_
        try simp only [W]
        refine seq_n hK19 ?_
        refine w_ret ?_
        refine seq_r hK12 ?_
        refine blk_r hK10 ?_
        refine seq_r hK8 ?_
        refine fin_r hK0 (res_c rfl rfl (hS.var 5 rfl) rfl rfl) ?_
        try obtain rfl := Option.some.inj h
        exact hP _ qm8 _ qm9 _ qm10 _ (hS.sel 6 [0, 1, 2] (by decide))
      · refine w_skip ?_
        refine seq_n hK12 ?_
        refine w_seq fun K20 hK20 => ?_
        refine w_reg gC ?_
        try simp only [W, EE, Nat.reduceAdd, Nat.reduceBEq, hS.var 3 rfl]
        refine w_stv (a := .int .i64 (IntKind.i64.wrap (a0.LastY + 1))) (y' := .agg [.int .i64 a0.StateA, .int .i64 a0.StateB, .int .i64 a0.X, .int .i64 a0.Y, .int .i64 a0.OfX, .int .i64 a0.OfY, .int .i64 a0.LastX, .int .i64 (IntKind.i64.wrap (a0.LastY + 1)), m8, m9, m10]) 3 hS rfl rfl rfl rfl rfl rfl rfl rfl fun H hS => ?_
        try simp only [W]
        refine seq_n hK20 ?_
        refine w_seq fun K21 hK21 => ?_
        refine w_reg gC ?_
        try simp only [W, EE, Nat.reduceAdd, Nat.reduceBEq, hS.var 3 rfl]
        refine w_stv (a := .int .i64 1) (y' := .agg [.int .i64 a0.StateA, .int .i64 1, .int .i64 a0.X, .int .i64 a0.Y, .int .i64 a0.OfX, .int .i64 a0.OfY, .int .i64 a0.LastX, .int .i64 (IntKind.i64.wrap (a0.LastY + 1)), m8, m9, m10]) 3 hS rfl rfl rfl rfl rfl rfl rfl rfl fun H hS => ?_
        try simp only [W]
        refine seq_n hK21 ?_
        refine w_seq fun K22 hK22 => ?_
        refine w_reg gC ?_
        try simp only [W, EE, Nat.reduceAdd, Nat.reduceBEq, hS.var 3 rfl, hS.var 4 rfl]
        refine w_stv (a := .int .i64 a1.X) (y' := .agg [.int .i64 a0.StateA, .int .i64 1, .int .i64 a0.X, .int .i64 a0.Y, .int .i64 a1.X, .int .i64 a0.OfY, .int .i64 a0.LastX, .int .i64 (IntKind.i64.wrap (a0.LastY + 1)), m8, m9, m10]) 3 hS rfl rfl rfl rfl rfl rfl rfl rfl fun H hS => ?_
        try simp only [W]
        refine seq_n hK22 ?_
        refine w_seq fun K23 hK23 => ?_
        refine w_reg gC ?_
        try simp only [W, EE, Nat.reduceAdd, Nat.reduceBEq, hS.var 3 rfl]
        refine w_stv (a := .int .i64 (IntKind.i64.wrap (a0.LastY + 1))) (y' := .agg [.int .i64 a0.StateA, .int .i64 1, .int .i64 a0.X, .int .i64 (IntKind.i64.wrap (a0.LastY + 1)), .int .i64 a1.X, .int .i64 a0.OfY, .int .i64 a0.LastX, .int .i64 (IntKind.i64.wrap (a0.LastY + 1)), m8, m9, m10]) 3 hS rfl rfl rfl rfl rfl rfl rfl rfl fun H hS => ?_
        try simp only [W]
        refine seq_n hK23 ?_
        refine w_seq fun K24 hK24 => ?_
        refine w_reg gC ?_
        try simp only [W, EE, reduceIte, Nat.reduceAdd, Nat.reduceLeDiff, Nat.reduceBEq, hS.var 3 rfl]
        refine w_bld rfl rfl rfl rfl rfl ?_
        try simp only [W]
        refine w_call h fun b25 hb25 h => ?_
        refine spec_l15Write_w hb25 hS qm8 qm9 qm10 fun v26 qv26 v28 qv28 v30 qv30 H hS => ?_
        try simp only [W]
        refine w_stv (a := .agg [.int .i64 b25.StateA, .int .i64 b25.StateB, .int .i64 b25.X, .int .i64 b25.Y, .int .i64 b25.OfX, .int .i64 b25.OfY, .int .i64 b25.LastX, .int .i64 b25.LastY, v26, v28, v30]) (y' := .agg [.int .i64 b25.StateA, .int .i64 b25.StateB, .int .i64 b25.X, .int .i64 b25.Y, .int .i64 b25.OfX, .int .i64 b25.OfY, .int .i64 b25.LastX, .int .i64 b25.LastY, v26, v28, v30]) 5 hS rfl rfl rfl rfl rfl (by simp only [storA, List.all_cons, List.all_nil, qv26.stor, qv28.stor, qv30.stor]; rfl) rfl rfl fun H hS => ?_
        try simp only [W]
        refine seq_n hK24 ?_
        refine w_ret ?_
        refine blk_r hK10 ?_
        refine seq_r hK8 ?_
        refine fin_r hK0 (res_c rfl rfl (hS.var 5 rfl) rfl rfl) ?_
        try obtain rfl := Option.some.inj h
        exact hP _ qv26 _ qv28 _ qv30 _ (hS.sel 6 [0, 1, 2] (by decide))
  · refine w_seq fun K32 hK32 => ?_
    refine w_reg gC ?_
    try simp only [W, EE, Nat.reduceAdd]
    refine seq_n hK32 ?_
    refine w_if ?_
    simp only [W]
    refine w_cnd h (fun hc h => ?_) (fun hc h => ?_)
    · refine w_seq fun K33 hK33 => ?_
      refine w_seq fun K34 hK34 => ?_
      obtain ⟨y36, h, g37⟩ := Option.bind_eq_some_iff.1 h
      refine w_join gC (fun s H => ∃ x35 : Bool, y36 = (x35) ∧ s = (u::u::.ptr ip2 wp2 0 0::.ptr ip4 wp4 0 0::.ptr ip6 wp6 0 0::u::u::u::u::u::u::u::u::u::u::u::u::u::u::u::u::u::u::u::u::u::u::u::u::u::u::u::u::u::u::u::u::u::u::u::u::u::u::u::u::u::u::.bool x35::u::u::u::u::u::u::u::u::u::u::u::u::u::u::u::u::u::u::u::u::u::u::u::u::u::u::u::u::u::u::u::u::u::u::u::u::u::u::u::u::u::u::u::u::u::u::u::u::u::u::u::u::u::u::u::u::u::u::u::u::u::u::u::u::[]) ∧ Own H (⟨m8, 3, a0.Line.map e_Hello⟩::⟨m9, 3, a0.OpenedA.map e_Hello⟩::⟨m10, 3, a0.OpenedB.map e_Hello⟩::⟨.ptr ip2 wp2 0 0, 11, [.agg [.int .i64 a0.StateA, .int .i64 a0.StateB, .int .i64 a0.X, .int .i64 a0.Y, .int .i64 a0.OfX, .int .i64 a0.OfY, .int .i64 a0.LastX, .int .i64 a0.LastY, m8, m9, m10]]⟩::⟨.ptr ip4 wp4 0 0, 3, [.agg [.int .i64 a1.Kind, .int .i64 a1.X, .int .i64 a1.Y]]⟩::⟨.ptr ip6 wp6 0 0, 11, [.agg [.int .i64 0, .int .i64 0, .int .i64 0, .int .i64 0, .int .i64 0, .int .i64 0, .int .i64 0, .int .i64 0, .nil, .nil, .nil]]⟩::F)) (fun K38 hK38 => ?_) (fun s H hq => ?_)
      · refine w_seq fun K39 hK39 => ?_
        refine w_reg gC ?_
        try simp only [W, EE, Nat.reduceAdd, Nat.reduceBEq, hS.var 2 rfl]
        refine w_grdT h (fun hc h => ?_) (fun hc h => ?_)
        · try simp only [W, EE, reduceIte, Nat.reduceAdd, Nat.reduceBEq, hS.var 2 rfl, hS.var 1 rfl, hc]
          refine seq_n hK39 ?_
          refine w_killE (s' := (u::u::.ptr ip2 wp2 0 0::.ptr ip4 wp4 0 0::.ptr ip6 wp6 0 0::u::u::u::u::u::u::u::u::u::u::u::u::u::u::u::u::u::u::u::u::u::u::u::u::u::u::u::u::u::u::u::u::u::u::u::u::u::u::u::u::u::u::.bool (a0.X == a1.X)::u::u::u::u::u::u::u::u::u::u::u::u::u::u::u::u::u::u::u::u::u::u::u::u::u::u::u::u::u::u::u::u::u::u::u::u::u::u::u::u::u::u::u::u::u::u::u::u::u::u::u::u::u::u::u::u::u::u::u::u::u::u::u::u::[])) rfl ?_
          exact cut_n hK38 ⟨_, (Option.some.inj h).symm, rfl, (hS.sel 6 [3, 4, 5, 2, 1, 0] (by decide))⟩
        · try simp only [W, hc]
          refine seq_n hK39 ?_
          refine w_killE (s' := (u::u::.ptr ip2 wp2 0 0::.ptr ip4 wp4 0 0::.ptr ip6 wp6 0 0::u::u::u::u::u::u::u::u::u::u::u::u::u::u::u::u::u::u::u::u::u::u::u::u::u::u::u::u::u::u::u::u::u::u::u::u::u::u::u::u::u::u::.bool false::u::u::u::u::u::u::u::u::u::u::u::u::u::u::u::u::u::u::u::u::u::u::u::u::u::u::u::u::u::u::u::u::u::u::u::u::u::u::u::u::u::u::u::u::u::u::u::u::u::u::u::u::u::u::u::u::u::u::u::u::u::u::u::u::[])) rfl ?_
          exact cut_n hK38 ⟨_, (Option.some.inj h).symm, rfl, (hS.sel 6 [3, 4, 5, 2, 1, 0] (by decide))⟩
      · obtain ⟨x35, ey, rfl, hS⟩ := hq; obtain rfl := ey.symm
        replace h := g37
        try dsimp only at h
        refine seq_n hK34 ?_
        obtain ⟨y45, h, g46⟩ := Option.bind_eq_some_iff.1 h
        refine w_join gC (fun s H => ∃ x40 : Int, ∃ x41 : Int, ∃ x42 : List Hello, y45 = (x40, x41, x42) ∧ ∃ v43 : AV, isSl v43 ∧ s = (u::u::.ptr ip2 wp2 0 0::.ptr ip4 wp4 0 0::.ptr ip6 wp6 0 0::u::u::u::u::u::u::u::u::u::u::u::u::u::u::u::u::u::u::u::u::u::u::u::u::u::u::u::u::u::u::u::u::u::u::u::u::u::u::u::u::u::u::u::u::u::u::u::u::u::u::u::u::u::u::u::u::u::u::u::u::u::u::u::u::u::u::u::u::u::u::u::u::u::u::u::u::u::u::u::u::u::u::u::u::u::u::u::u::u::u::u::u::u::u::u::u::u::u::u::u::u::u::u::u::u::u::u::[]) ∧ Own H (⟨m8, 3, a0.Line.map e_Hello⟩::⟨v43, 3, x42.map e_Hello⟩::⟨m10, 3, a0.OpenedB.map e_Hello⟩::⟨.ptr ip2 wp2 0 0, 11, [.agg [.int .i64 x40, .int .i64 a0.StateB, .int .i64 a0.X, .int .i64 a0.Y, .int .i64 a0.OfX, .int .i64 x41, .int .i64 a0.LastX, .int .i64 a0.LastY, m8, v43, m10]]⟩::⟨.ptr ip4 wp4 0 0, 3, [.agg [.int .i64 a1.Kind, .int .i64 a1.X, .int .i64 a1.Y]]⟩::⟨.ptr ip6 wp6 0 0, 11, [.agg [.int .i64 0, .int .i64 0, .int .i64 0, .int .i64 0, .int .i64 0, .int .i64 0, .int .i64 0, .int .i64 0, .nil, .nil, .nil]]⟩::F)) (fun K47 hK47 => ?_) (fun s H hq => ?_)
        · refine w_seq fun K48 hK48 => ?_
          refine w_if ?_
          simp only [W]
          refine w_cnd h (fun hc h => ?_) (fun hc h => ?_)
          · refine w_seq fun K49 hK49 => ?_
            refine w_reg gC ?_
            try simp only [W, EE, Nat.reduceAdd, Nat.reduceBEq, hS.var 3 rfl]
            refine w_stv (a := .int .i64 2) (y' := .agg [.int .i64 2, .int .i64 a0.StateB, .int .i64 a0.X, .int .i64 a0.Y, .int .i64 a0.OfX, .int .i64 a0.OfY, .int .i64 a0.LastX, .int .i64 a0.LastY, m8, m9, m10]) 3 hS rfl rfl rfl rfl rfl rfl rfl rfl fun H hS => ?_
            try simp only [W]
            refine seq_n hK49 ?_
            refine w_seq fun K50 hK50 => ?_
            refine w_reg gC ?_
            try simp only [W, EE, Nat.reduceAdd, Nat.reduceBEq, hS.var 3 rfl, hS.var 4 rfl]
            refine w_stv (a := .int .i64 a1.Y) (y' := .agg [.int .i64 2, .int .i64 a0.StateB, .int .i64 a0.X, .int .i64 a0.Y, .int .i64 a0.OfX, .int .i64 a1.Y, .int .i64 a0.LastX, .int .i64 a0.LastY, m8, m9, m10]) 3 hS rfl rfl rfl rfl rfl rfl rfl rfl fun H hS => ?_
            try simp only [W]
            refine seq_n hK50 ?_
            refine w_reg gC ?_
            try simp only [W, EE, Nat.reduceAdd, Nat.reduceBEq, hS.var 3 rfl, hS.var 4 rfl]
            refine w_call h fun b51 hb51 h => ?_
            refine spec_l15Opened_w hb51 (hS.sel 6 [1, 0, 2, 3, 4, 5] (by decide)) qm9 fun v52 qv52 H hS => ?_
            try simp only [W, EE, Nat.reduceAdd, Nat.reduceBEq, hS.var 3 rfl]
            refine w_stv (a := v52) (y' := .agg [.int .i64 2, .int .i64 a0.StateB, .int .i64 a0.X, .int .i64 a0.Y, .int .i64 a0.OfX, .int .i64 a1.Y, .int .i64 a0.LastX, .int .i64 a0.LastY, m8, v52, m10]) 3 hS rfl rfl rfl rfl (by rw [qv52.cells]; rfl) qv52.stora (qv52.wr _ _ (by simp)) rfl fun H hS => ?_
            try simp only [W]
            refine seq_n hK48 ?_
            refine w_killE (s' := (u::u::.ptr ip2 wp2 0 0::.ptr ip4 wp4 0 0::.ptr ip6 wp6 0 0::u::u::u::u::u::u::u::u::u::u::u::u::u::u::u::u::u::u::u::u::u::u::u::u::u::u::u::u::u::u::u::u::u::u::u::u::u::u::u::u::u::u::u::u::u::u::u::u::u::u::u::u::u::u::u::u::u::u::u::u::u::u::u::u::u::u::u::u::u::u::u::u::u::u::u::u::u::u::u::u::u::u::u::u::u::u::u::u::u::u::u::u::u::u::u::u::u::u::u::u::u::u::u::u::u::u::u::[])) rfl ?_
            exact cut_n hK47 ⟨_, _, _, (Option.some.inj h).symm, _, qv52, rfl, (hS.sel 6 [1, 0, 2, 3, 4, 5] (by decide))⟩
          · refine w_skip ?_
            refine seq_n hK48 ?_
            refine w_killE (s' := (u::u::.ptr ip2 wp2 0 0::.ptr ip4 wp4 0 0::.ptr ip6 wp6 0 0::u::u::u::u::u::u::u::u::u::u::u::u::u::u::u::u::u::u::u::u::u::u::u::u::u::u::u::u::u::u::u::u::u::u::u::u::u::u::u::u::u::u::u::u::u::u::u::u::u::u::u::u::u::u::u::u::u::u::u::u::u::u::u::u::u::u::u::u::u::u::u::u::u::u::u::u::u::u::u::u::u::u::u::u::u::u::u::u::u::u::u::u::u::u::u::u::u::u::u::u::u::u::u::u::u::u::u::[])) rfl ?_
            exact cut_n hK47 ⟨_, _, _, (Option.some.inj h).symm, _, qm9, rfl, hS⟩
        · obtain ⟨x40, x41, x42, rfl, v43, qv43, rfl, hS⟩ := hq
          replace h := g46
          try dsimp only at h
          refine seq_n hK33 ?_
          refine w_seq fun K54 hK54 => ?_
          refine w_seq fun K55 hK55 => ?_
          obtain ⟨y57, h, g58⟩ := Option.bind_eq_some_iff.1 h
          refine w_join gC (fun s H => ∃ x56 : Bool, y57 = (x56) ∧ s = (u::u::.ptr ip2 wp2 0 0::.ptr ip4 wp4 0 0::.ptr ip6 wp6 0 0::u::u::u::u::u::u::u::u::u::u::u::u::u::u::u::u::u::u::u::u::u::u::u::u::u::u::u::u::u::u::u::u::u::u::u::u::u::u::u::u::u::u::u::u::u::u::u::u::u::u::u::u::u::u::u::u::u::u::u::u::u::u::u::u::u::u::u::u::u::u::u::.bool x56::u::u::u::u::u::u::u::u::u::u::u::u::u::u::u::u::u::u::u::u::u::u::u::u::u::u::u::u::u::u::u::u::u::u::u::[]) ∧ Own H (⟨m8, 3, a0.Line.map e_Hello⟩::⟨v43, 3, x42.map e_Hello⟩::⟨m10, 3, a0.OpenedB.map e_Hello⟩::⟨.ptr ip2 wp2 0 0, 11, [.agg [.int .i64 x40, .int .i64 a0.StateB, .int .i64 a0.X, .int .i64 a0.Y, .int .i64 a0.OfX, .int .i64 x41, .int .i64 a0.LastX, .int .i64 a0.LastY, m8, v43, m10]]⟩::⟨.ptr ip4 wp4 0 0, 3, [.agg [.int .i64 a1.Kind, .int .i64 a1.X, .int .i64 a1.Y]]⟩::⟨.ptr ip6 wp6 0 0, 11, [.agg [.int .i64 0, .int .i64 0, .int .i64 0, .int .i64 0, .int .i64 0, .int .i64 0, .int .i64 0, .int .i64 0, .nil, .nil, .nil]]⟩::F)) (fun K59 hK59 => ?_) (fun s H hq => ?_)
          · refine w_seq fun K60 hK60 => ?_
            refine w_reg gC ?_
            try simp only [W, EE, Nat.reduceAdd, Nat.reduceBEq, hS.var 3 rfl]
            refine w_grdT h (fun hc h => ?_) (fun hc h => ?_)
            · try simp only [W, EE, reduceIte, Nat.reduceAdd, Nat.reduceBEq, hS.var 3 rfl, hS.var 4 rfl, hc]
              refine w_grdT h (fun hc h => ?_) (fun hc h => ?_)
              · try simp only [W, EE, reduceIte, Nat.reduceAdd, Nat.reduceBEq, hS.var 3 rfl, hS.var 4 rfl, hc]
                refine seq_n hK60 ?_
                refine w_killE (s' := (u::u::.ptr ip2 wp2 0 0::.ptr ip4 wp4 0 0::.ptr ip6 wp6 0 0::u::u::u::u::u::u::u::u::u::u::u::u::u::u::u::u::u::u::u::u::u::u::u::u::u::u::u::u::u::u::u::u::u::u::u::u::u::u::u::u::u::u::u::u::u::u::u::u::u::u::u::u::u::u::u::u::u::u::u::u::u::u::u::u::u::u::u::u::u::u::u::.bool (x41 == a1.Y)::u::u::u::u::u::u::u::u::u::u::u::u::u::u::u::u::u::u::u::u::u::u::u::u::u::u::u::u::u::u::u::u::u::u::u::[])) rfl ?_
                exact cut_n hK59 ⟨_, (Option.some.inj h).symm, rfl, hS⟩
              · try simp only [W, hc]
                refine seq_n hK60 ?_
                refine w_killE (s' := (u::u::.ptr ip2 wp2 0 0::.ptr ip4 wp4 0 0::.ptr ip6 wp6 0 0::u::u::u::u::u::u::u::u::u::u::u::u::u::u::u::u::u::u::u::u::u::u::u::u::u::u::u::u::u::u::u::u::u::u::u::u::u::u::u::u::u::u::u::u::u::u::u::u::u::u::u::u::u::u::u::u::u::u::u::u::u::u::u::u::u::u::u::u::u::u::u::.bool false::u::u::u::u::u::u::u::u::u::u::u::u::u::u::u::u::u::u::u::u::u::u::u::u::u::u::u::u::u::u::u::u::u::u::u::[])) rfl ?_
                exact cut_n hK59 ⟨_, (Option.some.inj h).symm, rfl, hS⟩
            · try simp only [W, hc]
              refine seq_n hK60 ?_
              refine w_killE (s' := (u::u::.ptr ip2 wp2 0 0::.ptr ip4 wp4 0 0::.ptr ip6 wp6 0 0::u::u::u::u::u::u::u::u::u::u::u::u::u::u::u::u::u::u::u::u::u::u::u::u::u::u::u::u::u::u::u::u::u::u::u::u::u::u::u::u::u::u::u::u::u::u::u::u::u::u::u::u::u::u::u::u::u::u::u::u::u::u::u::u::u::u::u::u::u::u::u::.bool false::u::u::u::u::u::u::u::u::u::u::u::u::u::u::u::u::u::u::u::u::u::u::u::u::u::u::u::u::u::u::u::u::u::u::u::[])) rfl ?_
              exact cut_n hK59 ⟨_, (Option.some.inj h).symm, rfl, hS⟩
          · obtain ⟨x56, ey, rfl, hS⟩ := hq; obtain rfl := ey.symm
            replace h := g58
            try dsimp only at h
            refine seq_n hK55 ?_
            refine w_if ?_
            simp only [W]
            refine w_cnd h (fun hc h => ?_) (fun hc h => ?_)
            · refine w_seq fun K61 hK61 => ?_
              refine w_reg gC ?_
              try simp only [W, EE, reduceIte, Nat.reduceAdd, Nat.reduceLeDiff, Nat.reduceBEq, hS.var 3 rfl, hS.var 4 rfl]
              refine w_bld rfl rfl rfl rfl rfl ?_
              try simp only [W]
              refine w_call h fun b62 hb62 h => ?_
              refine spec_l15Write_w hb62 hS qm8 qv43 qm10 fun v63 qv63 v65 qv65 v67 qv67 H hS => ?_
              try simp only [W]
              refine w_stv (a := .agg [.int .i64 b62.StateA, .int .i64 b62.StateB, .int .i64 b62.X, .int .i64 b62.Y, .int .i64 b62.OfX, .int .i64 b62.OfY, .int .i64 b62.LastX, .int .i64 b62.LastY, v63, v65, v67]) (y' := .agg [.int .i64 b62.StateA, .int .i64 b62.StateB, .int .i64 b62.X, .int .i64 b62.Y, .int .i64 b62.OfX, .int .i64 b62.OfY, .int .i64 b62.LastX, .int .i64 b62.LastY, v63, v65, v67]) 5 hS rfl rfl rfl rfl rfl (by simp only [storA, List.all_cons, List.all_nil, qv63.stor, qv65.stor, qv67.stor]; rfl) rfl rfl fun H hS => ?_
              try simp only [W]
              refine seq_n hK61 ?_
              refine w_ret ?_
              refine seq_r hK54 ?_
              refine blk_r hK10 ?_
              refine seq_r hK8 ?_
              refine fin_r hK0 (res_c rfl rfl (hS.var 5 rfl) rfl rfl) ?_
              try obtain rfl := Option.some.inj h
              exact hP _ qv63 _ qv65 _ qv67 _ (hS.sel 6 [0, 1, 2] (by decide))
            · refine w_skip ?_
              refine seq_n hK54 ?_
              refine w_seq fun K69 hK69 => ?_
              refine w_reg gC ?_
              try simp only [W, EE, reduceIte, Nat.reduceAdd, Nat.reduceLeDiff, hS.var 3 rfl]
              refine w_stv (a := .agg [.int .i64 x40, .int .i64 a0.StateB, .int .i64 a0.X, .int .i64 a0.Y, .int .i64 a0.OfX, .int .i64 x41, .int .i64 a0.LastX, .int .i64 a0.LastY, m8, v43, m10]) (y' := .agg [.int .i64 x40, .int .i64 a0.StateB, .int .i64 a0.X, .int .i64 a0.Y, .int .i64 a0.OfX, .int .i64 x41, .int .i64 a0.LastX, .int .i64 a0.LastY, m8, v43, m10]) 5 hS rfl rfl rfl rfl rfl (by simp only [storA, List.all_cons, List.all_nil, qm8.stor, qv43.stor, qm10.stor]; rfl) rfl rfl fun H hS => ?_
              try simp only [W]
              refine seq_n hK69 ?_
              refine w_ret ?_
              refine blk_r hK10 ?_
              refine seq_r hK8 ?_
              refine fin_r hK0 (res_c rfl rfl (hS.var 5 rfl) rfl rfl) ?_
              try obtain rfl := Option.some.inj h
              exact hP _ qm8 _ qv43 _ qm10 _ (hS.sel 6 [0, 1, 2] (by decide))
    · refine w_skip ?_
      refine blk_n0 hK10 ?_
      refine seq_n hK8 ?_
      refine w_seq fun K70 hK70 => ?_
      refine w_seq fun K71 hK71 => ?_
      obtain ⟨y73, h, g74⟩ := Option.bind_eq_some_iff.1 h
      refine w_join gC (fun s H => ∃ x72 : Bool, y73 = (x72) ∧ s = (u::u::.ptr ip2 wp2 0 0::.ptr ip4 wp4 0 0::.ptr ip6 wp6 0 0::u::u::u::u::u::u::u::u::u::u::u::u::u::u::u::u::u::u::u::u::u::u::u::u::u::u::u::u::u::u::u::u::u::u::u::u::u::u::u::u::u::u::u::u::u::u::u::u::u::u::u::u::u::u::u::u::u::u::u::u::u::u::u::u::u::u::u::u::u::u::u::u::u::u::u::u::u::u::u::u::u::u::u::u::u::u::u::u::u::u::u::u::u::u::u::u::.bool x72::u::u::u::u::u::u::u::u::u::u::[]) ∧ Own H (⟨m8, 3, a0.Line.map e_Hello⟩::⟨m9, 3, a0.OpenedA.map e_Hello⟩::⟨m10, 3, a0.OpenedB.map e_Hello⟩::⟨.ptr ip2 wp2 0 0, 11, [.agg [.int .i64 a0.StateA, .int .i64 a0.StateB, .int .i64 a0.X, .int .i64 a0.Y, .int .i64 a0.OfX, .int .i64 a0.OfY, .int .i64 a0.LastX, .int .i64 a0.LastY, m8, m9, m10]]⟩::⟨.ptr ip4 wp4 0 0, 3, [.agg [.int .i64 a1.Kind, .int .i64 a1.X, .int .i64 a1.Y]]⟩::⟨.ptr ip6 wp6 0 0, 11, [.agg [.int .i64 0, .int .i64 0, .int .i64 0, .int .i64 0, .int .i64 0, .int .i64 0, .int .i64 0, .int .i64 0, .nil, .nil, .nil]]⟩::F)) (fun K75 hK75 => ?_) (fun s H hq => ?_)
      · refine w_seq fun K76 hK76 => ?_
        refine w_reg gC ?_
        try simp only [W, EE, Nat.reduceAdd, Nat.reduceBEq, hS.var 2 rfl]
        refine w_grdT h (fun hc h => ?_) (fun hc h => ?_)
        · try simp only [W, EE, reduceIte, Nat.reduceAdd, Nat.reduceBEq, hS.var 2 rfl, hS.var 1 rfl, hc]
          refine w_grdT h (fun hc h => ?_) (fun hc h => ?_)
          · try simp only [W, EE, reduceIte, Nat.reduceAdd, Nat.reduceBEq, hS.var 2 rfl, hS.var 1 rfl, hc]
            refine seq_n hK76 ?_
            refine w_killE (s' := (u::u::.ptr ip2 wp2 0 0::.ptr ip4 wp4 0 0::.ptr ip6 wp6 0 0::u::u::u::u::u::u::u::u::u::u::u::u::u::u::u::u::u::u::u::u::u::u::u::u::u::u::u::u::u::u::u::u::u::u::u::u::u::u::u::u::u::u::u::u::u::u::u::u::u::u::u::u::u::u::u::u::u::u::u::u::u::u::u::u::u::u::u::u::u::u::u::u::u::u::u::u::u::u::u::u::u::u::u::u::u::u::u::u::u::u::u::u::u::u::u::u::.bool (a0.Y == a1.Y)::u::u::u::u::u::u::u::u::u::u::[])) rfl ?_
            exact cut_n hK75 ⟨_, (Option.some.inj h).symm, rfl, (hS.sel 6 [3, 4, 5, 2, 1, 0] (by decide))⟩
          · try simp only [W, hc]
            refine seq_n hK76 ?_
            refine w_killE (s' := (u::u::.ptr ip2 wp2 0 0::.ptr ip4 wp4 0 0::.ptr ip6 wp6 0 0::u::u::u::u::u::u::u::u::u::u::u::u::u::u::u::u::u::u::u::u::u::u::u::u::u::u::u::u::u::u::u::u::u::u::u::u::u::u::u::u::u::u::u::u::u::u::u::u::u::u::u::u::u::u::u::u::u::u::u::u::u::u::u::u::u::u::u::u::u::u::u::u::u::u::u::u::u::u::u::u::u::u::u::u::u::u::u::u::u::u::u::u::u::u::u::u::.bool false::u::u::u::u::u::u::u::u::u::u::[])) rfl ?_
            exact cut_n hK75 ⟨_, (Option.some.inj h).symm, rfl, (hS.sel 6 [3, 4, 5, 2, 1, 0] (by decide))⟩
        · try simp only [W, hc]
          refine seq_n hK76 ?_
          refine w_killE (s' := (u::u::.ptr ip2 wp2 0 0::.ptr ip4 wp4 0 0::.ptr ip6 wp6 0 0::u::u::u::u::u::u::u::u::u::u::u::u::u::u::u::u::u::u::u::u::u::u::u::u::u::u::u::u::u::u::u::u::u::u::u::u::u::u::u::u::u::u::u::u::u::u::u::u::u::u::u::u::u::u::u::u::u::u::u::u::u::u::u::u::u::u::u::u::u::u::u::u::u::u::u::u::u::u::u::u::u::u::u::u::u::u::u::u::u::u::u::u::u::u::u::u::.bool false::u::u::u::u::u::u::u::u::u::u::[])) rfl ?_
          exact cut_n hK75 ⟨_, (Option.some.inj h).symm, rfl, (hS.sel 6 [3, 4, 5, 2, 1, 0] (by decide))⟩
      · obtain ⟨x72, ey, rfl, hS⟩ := hq; obtain rfl := ey.symm
        replace h := g74
        try dsimp only at h
        refine seq_n hK71 ?_
        obtain ⟨y81, h, g82⟩ := Option.bind_eq_some_iff.1 h
        refine w_join gC (fun s H => ∃ x77 : Int, ∃ x78 : List Hello, y81 = (x77, x78) ∧ ∃ v79 : AV, isSl v79 ∧ s = (u::u::.ptr ip2 wp2 0 0::u::.ptr ip6 wp6 0 0::u::u::u::u::u::u::u::u::u::u::u::u::u::u::u::u::u::u::u::u::u::u::u::u::u::u::u::u::u::u::u::u::u::u::u::u::u::u::u::u::u::u::u::u::u::u::u::u::u::u::u::u::u::u::u::u::u::u::u::u::u::u::u::u::u::u::u::u::u::u::u::u::u::u::u::u::u::u::u::u::u::u::u::u::u::u::u::u::u::u::u::u::u::u::u::u::u::u::u::u::u::u::u::u::u::u::u::[]) ∧ Own H (⟨m8, 3, a0.Line.map e_Hello⟩::⟨m9, 3, a0.OpenedA.map e_Hello⟩::⟨v79, 3, x78.map e_Hello⟩::⟨.ptr ip2 wp2 0 0, 11, [.agg [.int .i64 a0.StateA, .int .i64 x77, .int .i64 a0.X, .int .i64 a0.Y, .int .i64 a0.OfX, .int .i64 a0.OfY, .int .i64 a0.LastX, .int .i64 a0.LastY, m8, m9, v79]]⟩::⟨.ptr ip6 wp6 0 0, 11, [.agg [.int .i64 0, .int .i64 0, .int .i64 0, .int .i64 0, .int .i64 0, .int .i64 0, .int .i64 0, .int .i64 0, .nil, .nil, .nil]]⟩::F)) (fun K83 hK83 => ?_) (fun s H hq => ?_)
        · refine w_seq fun K84 hK84 => ?_
          refine w_if ?_
          simp only [W]
          refine w_cnd h (fun hc h => ?_) (fun hc h => ?_)
          · refine w_seq fun K85 hK85 => ?_
            refine w_reg gC ?_
            try simp only [W, EE, Nat.reduceAdd, Nat.reduceBEq, hS.var 3 rfl]
            refine w_stv (a := .int .i64 2) (y' := .agg [.int .i64 a0.StateA, .int .i64 2, .int .i64 a0.X, .int .i64 a0.Y, .int .i64 a0.OfX, .int .i64 a0.OfY, .int .i64 a0.LastX, .int .i64 a0.LastY, m8, m9, m10]) 3 hS rfl rfl rfl rfl rfl rfl rfl rfl fun H hS => ?_
            try simp only [W]
            refine seq_n hK85 ?_
            refine w_reg gC ?_
            try simp only [W, EE, Nat.reduceAdd, Nat.reduceBEq, hS.var 3 rfl, hS.var 4 rfl]
            refine w_call h fun b86 hb86 h => ?_
            refine spec_l15Opened_w hb86 (hS.sel 6 [2, 0, 1, 3, 4, 5] (by decide)) qm10 fun v87 qv87 H hS => ?_
            try simp only [W, EE, Nat.reduceAdd, Nat.reduceBEq, hS.var 3 rfl]
            refine w_stv (a := v87) (y' := .agg [.int .i64 a0.StateA, .int .i64 2, .int .i64 a0.X, .int .i64 a0.Y, .int .i64 a0.OfX, .int .i64 a0.OfY, .int .i64 a0.LastX, .int .i64 a0.LastY, m8, m9, v87]) 3 hS rfl rfl rfl rfl (by rw [qv87.cells]; rfl) qv87.stora (qv87.wr _ _ (by simp)) rfl fun H hS => ?_
            try simp only [W]
            refine seq_n hK84 ?_
            refine w_killE (s' := (u::u::.ptr ip2 wp2 0 0::u::.ptr ip6 wp6 0 0::u::u::u::u::u::u::u::u::u::u::u::u::u::u::u::u::u::u::u::u::u::u::u::u::u::u::u::u::u::u::u::u::u::u::u::u::u::u::u::u::u::u::u::u::u::u::u::u::u::u::u::u::u::u::u::u::u::u::u::u::u::u::u::u::u::u::u::u::u::u::u::u::u::u::u::u::u::u::u::u::u::u::u::u::u::u::u::u::u::u::u::u::u::u::u::u::u::u::u::u::u::u::u::u::u::u::u::[])) rfl ?_
            exact cut_n hK83 ⟨_, _, (Option.some.inj h).symm, _, qv87, rfl, (hS.sel 6 [1, 2, 0, 3, 5] (by decide))⟩
          · refine w_skip ?_
            refine seq_n hK84 ?_
            refine w_killE (s' := (u::u::.ptr ip2 wp2 0 0::u::.ptr ip6 wp6 0 0::u::u::u::u::u::u::u::u::u::u::u::u::u::u::u::u::u::u::u::u::u::u::u::u::u::u::u::u::u::u::u::u::u::u::u::u::u::u::u::u::u::u::u::u::u::u::u::u::u::u::u::u::u::u::u::u::u::u::u::u::u::u::u::u::u::u::u::u::u::u::u::u::u::u::u::u::u::u::u::u::u::u::u::u::u::u::u::u::u::u::u::u::u::u::u::u::u::u::u::u::u::u::u::u::u::u::u::[])) rfl ?_
            exact cut_n hK83 ⟨_, _, (Option.some.inj h).symm, _, qm10, rfl, (hS.sel 6 [0, 1, 2, 3, 5] (by decide))⟩
        · obtain ⟨x77, x78, rfl, v79, qv79, rfl, hS⟩ := hq
          replace h := g82
          try dsimp only at h
          refine seq_n hK70 ?_
          refine w_seq fun K89 hK89 => ?_
          refine w_reg gC ?_
          try simp only [W, EE, reduceIte, Nat.reduceAdd, Nat.reduceLeDiff, hS.var 3 rfl]
          refine w_stv (a := .agg [.int .i64 a0.StateA, .int .i64 x77, .int .i64 a0.X, .int .i64 a0.Y, .int .i64 a0.OfX, .int .i64 a0.OfY, .int .i64 a0.LastX, .int .i64 a0.LastY, m8, m9, v79]) (y' := .agg [.int .i64 a0.StateA, .int .i64 x77, .int .i64 a0.X, .int .i64 a0.Y, .int .i64 a0.OfX, .int .i64 a0.OfY, .int .i64 a0.LastX, .int .i64 a0.LastY, m8, m9, v79]) 4 hS rfl rfl rfl rfl rfl (by simp only [storA, List.all_cons, List.all_nil, qm8.stor, qm9.stor, qv79.stor]; rfl) rfl rfl fun H hS => ?_
          try simp only [W]
          refine seq_n hK89 ?_
          refine w_ret ?_
          refine fin_r hK0 (res_c rfl rfl (hS.var 4 rfl) rfl rfl) ?_
          try obtain rfl := Option.some.inj h
          exact hP _ qm8 _ qm9 _ qv79 _ (hS.sel 5 [0, 1, 2] (by decide))
theorem spec_l15Step_w {a0 : Greet} {a1 : GreetStep} {m8 : AV} {m9 : AV} {m10 : AV} {r : (Greet × Bool)} (h : spec_l15Step a0 a1 = some r) {F : List It} {H : Heap} (hS : Own H (⟨m8, 3, a0.Line.map e_Hello⟩::⟨m9, 3, a0.OpenedA.map e_Hello⟩::⟨m10, 3, a0.OpenedB.map e_Hello⟩::F)) (qm8 : isSl m8) (qm9 : isSl m9) (qm10 : isSl m10) {P : AV → Heap → Prop} (hP : ∀ v120 : AV, isSl v120 → ∀ v122 : AV, isSl v122 → ∀ v124 : AV, isSl v124 → ∀ H', Own H' (⟨v120, 3, r.1.Line.map e_Hello⟩::⟨v122, 3, r.1.OpenedA.map e_Hello⟩::⟨v124, 3, r.1.OpenedB.map e_Hello⟩::F) → P (.tup [.agg [.int .i64 r.1.StateA, .int .i64 r.1.StateB, .int .i64 r.1.X, .int .i64 r.1.Y, .int .i64 r.1.OfX, .int .i64 r.1.OfY, .int .i64 r.1.LastX, .int .i64 r.1.LastY, v120, v122, v124], .bool r.2]) H') : ACall C 156 [.agg [.int .i64 a0.StateA, .int .i64 a0.StateB, .int .i64 a0.X, .int .i64 a0.Y, .int .i64 a0.OfX, .int .i64 a0.OfY, .int .i64 a0.LastX, .int .i64 a0.LastY, m8, m9, m10], .agg [.int .i64 a1.Kind, .int .i64 a1.K]] H P := by
  refine acall_of gC (res := [.cell 4 85, .tmp 5]) (n := 121) rfl rfl rfl rfl fun K0 hK0 => ?_
  simp only [W, Nat.reduceSub, Nat.reduceAdd, List.replicate]
  unfold spec_l15Step at h
  refine w_seq fun K1 hK1 => ?_
  refine w_reg gC ?_
  try simp only [W, Nat.reduceAdd]
  refine w_box hS rfl rfl rfl (by simp only [W, storA, List.all_cons, List.all_nil, qm8.stor, qm9.stor, qm10.stor]; rfl) fun ip2 wp2 H hS => ?_
  try simp only [W]
  refine w_box hS rfl rfl rfl rfl fun ip4 wp4 H hS => ?_
  try simp only [W]
  refine w_alloc hS rfl rfl fun ip6 wp6 H hS => ?_
  try simp only [W]
  refine seq_n hK1 ?_
  refine w_seq fun K8 hK8 => ?_
  refine w_seq fun K9 hK9 => ?_
  refine w_reg gC ?_
  try simp only [W, EE, Nat.reduceAdd, Nat.reduceBEq, hS.var 1 rfl]
  refine seq_n hK9 ?_
  refine w_blk fun K10 hK10 => ?_
  refine w_seq fun K11 hK11 => ?_
  refine w_reg gC ?_
  try simp only [W, EE, Nat.reduceAdd]
  refine seq_n hK11 ?_
  refine w_if ?_
  simp only [W]
  refine w_cnd h (fun hc h => ?_) (fun hc h => ?_)
  · refine w_seq fun K12 hK12 => ?_
    refine w_seq fun K13 hK13 => ?_
    obtain ⟨y15, h, g16⟩ := Option.bind_eq_some_iff.1 h
    refine w_join gC (fun s H => ∃ x14 : Bool, y15 = (x14) ∧ s = (u::u::.ptr ip2 wp2 0 0::u::.ptr ip6 wp6 0 0::u::u::u::u::u::u::u::u::u::u::u::u::u::u::.bool x14::u::u::u::u::u::u::u::u::u::u::u::u::u::u::u::u::u::u::u::u::u::u::u::u::u::u::u::u::u::u::u::u::u::u::u::u::u::u::u::u::u::u::u::u::u::u::u::u::u::u::u::u::u::u::u::u::u::u::u::u::u::u::u::u::u::u::u::u::u::u::u::u::u::u::u::u::u::u::u::u::u::u::u::u::u::u::u::u::u::u::u::u::u::u::u::u::u::u::u::u::u::[]) ∧ Own H (⟨m8, 3, a0.Line.map e_Hello⟩::⟨m9, 3, a0.OpenedA.map e_Hello⟩::⟨m10, 3, a0.OpenedB.map e_Hello⟩::⟨.ptr ip2 wp2 0 0, 11, [.agg [.int .i64 a0.StateA, .int .i64 a0.StateB, .int .i64 a0.X, .int .i64 a0.Y, .int .i64 a0.OfX, .int .i64 a0.OfY, .int .i64 a0.LastX, .int .i64 a0.LastY, m8, m9, m10]]⟩::⟨.ptr ip6 wp6 0 0, 11, [.agg [.int .i64 0, .int .i64 0, .int .i64 0, .int .i64 0, .int .i64 0, .int .i64 0, .int .i64 0, .int .i64 0, .nil, .nil, .nil]]⟩::F)) (fun K17 hK17 => ?_) (fun s H hq => ?_)
    · refine w_seq fun K18 hK18 => ?_
      refine w_reg gC ?_
      try simp only [W, EE, Nat.reduceAdd, Nat.reduceBEq, hS.var 1 rfl]
      refine w_grdT h (fun hc h => ?_) (fun hc h => ?_)
      · try simp only [W, hc]
        refine seq_n hK18 ?_
        refine w_killE (s' := (u::u::.ptr ip2 wp2 0 0::u::.ptr ip6 wp6 0 0::u::u::u::u::u::u::u::u::u::u::u::u::u::u::.bool true::u::u::u::u::u::u::u::u::u::u::u::u::u::u::u::u::u::u::u::u::u::u::u::u::u::u::u::u::u::u::u::u::u::u::u::u::u::u::u::u::u::u::u::u::u::u::u::u::u::u::u::u::u::u::u::u::u::u::u::u::u::u::u::u::u::u::u::u::u::u::u::u::u::u::u::u::u::u::u::u::u::u::u::u::u::u::u::u::u::u::u::u::u::u::u::u::u::u::u::u::u::[])) rfl ?_
        exact cut_n hK17 ⟨_, (Option.some.inj h).symm, rfl, (hS.sel 6 [3, 4, 5, 2, 0] (by decide))⟩
      · try simp only [W, EE, reduceIte, Nat.reduceAdd, Nat.reduceBEq, Bool.false_eq_true, hS.var 2 rfl, hc]
        refine seq_n hK18 ?_
        refine w_killE (s' := (u::u::.ptr ip2 wp2 0 0::u::.ptr ip6 wp6 0 0::u::u::u::u::u::u::u::u::u::u::u::u::u::u::.bool (a0.LastX == 1000)::u::u::u::u::u::u::u::u::u::u::u::u::u::u::u::u::u::u::u::u::u::u::u::u::u::u::u::u::u::u::u::u::u::u::u::u::u::u::u::u::u::u::u::u::u::u::u::u::u::u::u::u::u::u::u::u::u::u::u::u::u::u::u::u::u::u::u::u::u::u::u::u::u::u::u::u::u::u::u::u::u::u::u::u::u::u::u::u::u::u::u::u::u::u::u::u::u::u::u::u::u::[])) rfl ?_
        exact cut_n hK17 ⟨_, (Option.some.inj h).symm, rfl, (hS.sel 6 [3, 4, 5, 2, 0] (by decide))⟩
    · obtain ⟨x14, ey, rfl, hS⟩ := hq; obtain rfl := ey.symm
      replace h := g16
      try dsimp only at h
      refine seq_n hK13 ?_
      refine w_if ?_
      simp only [W]
      refine w_cnd h (fun hc h => ?_) (fun hc h => ?_)
      · refine w_seq fun K19 hK19 => ?_
        refine w_reg gC ?_
        try simp only [W, EE, reduceIte, Nat.reduceAdd, Nat.reduceLeDiff, hS.var 3 rfl]
        refine w_stv (a := .agg [.int .i64 a0.StateA, .int .i64 a0.StateB, .int .i64 a0.X, .int .i64 a0.Y, .int .i64 a0.OfX, .int .i64 a0.OfY, .int .i64 a0.LastX, .int .i64 a0.LastY, m8, m9, m10]) (y' := .agg [.int .i64 a0.StateA, .int .i64 a0.StateB, .int .i64 a0.X, .int .i64 a0.Y, .int .i64 a0.OfX, .int .i64 a0.OfY, .int .i64 a0.LastX, .int .i64 a0.LastY, m8, m9, m10]) 4 hS rfl rfl rfl rfl rfl (by simp only [storA, List.all_cons, List.all_nil, qm8.stor, qm9.stor, qm10.stor]; rfl) rfl rfl fun H hS => ?_
        try simp only [W]
        refine seq_n hK19 ?_
        refine w_ret ?_
        refine seq_r hK12 ?_
        refine blk_r hK10 ?_
        refine seq_r hK8 ?_
        refine fin_r hK0 (res_c rfl rfl (hS.var 4 rfl) rfl (res_tc rfl rfl)) ?_
        try obtain rfl := Option.some.inj h
        exact hP _ qm8 _ qm9 _ qm10 _ (hS.sel 5 [0, 1, 2] (by decide))
      · refine w_skip ?_
        refine seq_n hK12 ?_
        refine w_seq fun K20 hK20 => ?_
        refine w_reg gC ?_
        try simp only [W, EE, Nat.reduceAdd, Nat.reduceBEq, hS.var 3 rfl]
        refine w_stv (a := .int .i64 (IntKind.i64.wrap (a0.LastX + 1))) (y' := .agg [.int .i64 a0.StateA, .int .i64 a0.StateB, .int .i64 a0.X, .int .i64 a0.Y, .int .i64 a0.OfX, .int .i64 a0.OfY, .int .i64 (IntKind.i64.wrap (a0.LastX + 1)), .int .i64 a0.LastY, m8, m9, m10]) 3 hS rfl rfl rfl rfl rfl rfl rfl rfl fun H hS => ?_
        try simp only [W]
        refine seq_n hK20 ?_
        refine w_seq fun K21 hK21 => ?_
        refine w_reg gC ?_
        try simp only [W, EE, Nat.reduceAdd, Nat.reduceBEq, hS.var 3 rfl]
        refine w_stv (a := .int .i64 1) (y' := .agg [.int .i64 1, .int .i64 a0.StateB, .int .i64 a0.X, .int .i64 a0.Y, .int .i64 a0.OfX, .int .i64 a0.OfY, .int .i64 (IntKind.i64.wrap (a0.LastX + 1)), .int .i64 a0.LastY, m8, m9, m10]) 3 hS rfl rfl rfl rfl rfl rfl rfl rfl fun H hS => ?_
        try simp only [W]
        refine seq_n hK21 ?_
        refine w_seq fun K22 hK22 => ?_
        refine w_reg gC ?_
        try simp only [W, EE, Nat.reduceAdd, Nat.reduceBEq, hS.var 3 rfl]
        refine w_stv (a := .int .i64 (IntKind.i64.wrap (a0.LastX + 1))) (y' := .agg [.int .i64 1, .int .i64 a0.StateB, .int .i64 (IntKind.i64.wrap (a0.LastX + 1)), .int .i64 a0.Y, .int .i64 a0.OfX, .int .i64 a0.OfY, .int .i64 (IntKind.i64.wrap (a0.LastX + 1)), .int .i64 a0.LastY, m8, m9, m10]) 3 hS rfl rfl rfl rfl rfl rfl rfl rfl fun H hS => ?_
        try simp only [W]
        refine seq_n hK22 ?_
        refine w_seq fun K23 hK23 => ?_
        refine w_reg gC ?_
        try simp only [W, EE, Nat.reduceAdd, Nat.reduceBEq, hS.var 3 rfl]
        refine w_stv (a := .int .i64 0) (y' := .agg [.int .i64 1, .int .i64 a0.StateB, .int .i64 (IntKind.i64.wrap (a0.LastX + 1)), .int .i64 a0.Y, .int .i64 a0.OfX, .int .i64 0, .int .i64 (IntKind.i64.wrap (a0.LastX + 1)), .int .i64 a0.LastY, m8, m9, m10]) 3 hS rfl rfl rfl rfl rfl rfl rfl rfl fun H hS => ?_
        try simp only [W]
        refine seq_n hK23 ?_
        refine w_seq fun K24 hK24 => ?_
        refine w_reg gC ?_
        try simp only [W, EE, reduceIte, Nat.reduceAdd, Nat.reduceLeDiff, Nat.reduceBEq, hS.var 3 rfl]
        refine w_bld rfl rfl rfl rfl rfl ?_
        try simp only [W]
        refine w_call h fun b25 hb25 h => ?_
        refine spec_l15Write_w hb25 hS qm8 qm9 qm10 fun v26 qv26 v28 qv28 v30 qv30 H hS => ?_
        try simp only [W]
        refine w_stv (a := .agg [.int .i64 b25.StateA, .int .i64 b25.StateB, .int .i64 b25.X, .int .i64 b25.Y, .int .i64 b25.OfX, .int .i64 b25.OfY, .int .i64 b25.LastX, .int .i64 b25.LastY, v26, v28, v30]) (y' := .agg [.int .i64 b25.StateA, .int .i64 b25.StateB, .int .i64 b25.X, .int .i64 b25.Y, .int .i64 b25.OfX, .int .i64 b25.OfY, .int .i64 b25.LastX, .int .i64 b25.LastY, v26, v28, v30]) 4 hS rfl rfl rfl rfl rfl (by simp only [storA, List.all_cons, List.all_nil, qv26.stor, qv28.stor, qv30.stor]; rfl) rfl rfl fun H hS => ?_
        try simp only [W]
        refine seq_n hK24 ?_
        refine w_ret ?_
        refine blk_r hK10 ?_
        refine seq_r hK8 ?_
        refine fin_r hK0 (res_c rfl rfl (hS.var 4 rfl) rfl (res_tc rfl rfl)) ?_
        try obtain rfl := Option.some.inj h
        exact hP _ qv26 _ qv28 _ qv30 _ (hS.sel 5 [0, 1, 2] (by decide))
  · refine w_seq fun K32 hK32 => ?_
    refine w_reg gC ?_
    try simp only [W, EE, Nat.reduceAdd]
    refine seq_n hK32 ?_
    refine w_if ?_
    simp only [W]
    refine w_cnd h (fun hc h => ?_) (fun hc h => ?_)
    · refine w_seq fun K33 hK33 => ?_
      refine w_seq fun K34 hK34 => ?_
      obtain ⟨y36, h, g37⟩ := Option.bind_eq_some_iff.1 h
      refine w_join gC (fun s H => ∃ x35 : Bool, y36 = (x35) ∧ s = (u::u::.ptr ip2 wp2 0 0::u::.ptr ip6 wp6 0 0::u::u::u::u::u::u::u::u::u::u::u::u::u::u::u::u::u::u::u::u::u::u::u::u::u::u::u::u::u::u::u::u::u::u::u::u::u::u::u::.bool x35::u::u::u::u::u::u::u::u::u::u::u::u::u::u::u::u::u::u::u::u::u::u::u::u::u::u::u::u::u::u::u::u::u::u::u::u::u::u::u::u::u::u::u::u::u::u::u::u::u::u::u::u::u::u::u::u::u::u::u::u::u::u::u::u::u::u::u::u::u::u::u::u::u::u::u::u::[]) ∧ Own H (⟨m8, 3, a0.Line.map e_Hello⟩::⟨m9, 3, a0.OpenedA.map e_Hello⟩::⟨m10, 3, a0.OpenedB.map e_Hello⟩::⟨.ptr ip2 wp2 0 0, 11, [.agg [.int .i64 a0.StateA, .int .i64 a0.StateB, .int .i64 a0.X, .int .i64 a0.Y, .int .i64 a0.OfX, .int .i64 a0.OfY, .int .i64 a0.LastX, .int .i64 a0.LastY, m8, m9, m10]]⟩::⟨.ptr ip6 wp6 0 0, 11, [.agg [.int .i64 0, .int .i64 0, .int .i64 0, .int .i64 0, .int .i64 0, .int .i64 0, .int .i64 0, .int .i64 0, .nil, .nil, .nil]]⟩::F)) (fun K38 hK38 => ?_) (fun s H hq => ?_)
      · refine w_seq fun K39 hK39 => ?_
        refine w_reg gC ?_
        try simp only [W, EE, Nat.reduceAdd, Nat.reduceBEq, hS.var 1 rfl]
        refine w_grdT h (fun hc h => ?_) (fun hc h => ?_)
        · try simp only [W, hc]
          refine seq_n hK39 ?_
          refine w_killE (s' := (u::u::.ptr ip2 wp2 0 0::u::.ptr ip6 wp6 0 0::u::u::u::u::u::u::u::u::u::u::u::u::u::u::u::u::u::u::u::u::u::u::u::u::u::u::u::u::u::u::u::u::u::u::u::u::u::u::u::.bool true::u::u::u::u::u::u::u::u::u::u::u::u::u::u::u::u::u::u::u::u::u::u::u::u::u::u::u::u::u::u::u::u::u::u::u::u::u::u::u::u::u::u::u::u::u::u::u::u::u::u::u::u::u::u::u::u::u::u::u::u::u::u::u::u::u::u::u::u::u::u::u::u::u::u::u::u::[])) rfl ?_
          exact cut_n hK38 ⟨_, (Option.some.inj h).symm, rfl, (hS.sel 6 [3, 4, 5, 2, 0] (by decide))⟩
        · try simp only [W, EE, reduceIte, Nat.reduceAdd, Nat.reduceBEq, Bool.false_eq_true, hS.var 2 rfl, hc]
          refine seq_n hK39 ?_
          refine w_killE (s' := (u::u::.ptr ip2 wp2 0 0::u::.ptr ip6 wp6 0 0::u::u::u::u::u::u::u::u::u::u::u::u::u::u::u::u::u::u::u::u::u::u::u::u::u::u::u::u::u::u::u::u::u::u::u::u::u::u::u::.bool (a0.StateB != 1)::u::u::u::u::u::u::u::u::u::u::u::u::u::u::u::u::u::u::u::u::u::u::u::u::u::u::u::u::u::u::u::u::u::u::u::u::u::u::u::u::u::u::u::u::u::u::u::u::u::u::u::u::u::u::u::u::u::u::u::u::u::u::u::u::u::u::u::u::u::u::u::u::u::u::u::u::[])) rfl ?_
          exact cut_n hK38 ⟨_, (Option.some.inj h).symm, rfl, (hS.sel 6 [3, 4, 5, 2, 0] (by decide))⟩
      · obtain ⟨x35, ey, rfl, hS⟩ := hq; obtain rfl := ey.symm
        replace h := g37
        try dsimp only at h
        refine seq_n hK34 ?_
        refine w_if ?_
        simp only [W]
        refine w_cnd h (fun hc h => ?_) (fun hc h => ?_)
        · refine w_seq fun K40 hK40 => ?_
          refine w_reg gC ?_
          try simp only [W, EE, reduceIte, Nat.reduceAdd, Nat.reduceLeDiff, hS.var 3 rfl]
          refine w_stv (a := .agg [.int .i64 a0.StateA, .int .i64 a0.StateB, .int .i64 a0.X, .int .i64 a0.Y, .int .i64 a0.OfX, .int .i64 a0.OfY, .int .i64 a0.LastX, .int .i64 a0.LastY, m8, m9, m10]) (y' := .agg [.int .i64 a0.StateA, .int .i64 a0.StateB, .int .i64 a0.X, .int .i64 a0.Y, .int .i64 a0.OfX, .int .i64 a0.OfY, .int .i64 a0.LastX, .int .i64 a0.LastY, m8, m9, m10]) 4 hS rfl rfl rfl rfl rfl (by simp only [storA, List.all_cons, List.all_nil, qm8.stor, qm9.stor, qm10.stor]; rfl) rfl rfl fun H hS => ?_
          try simp only [W]
          refine seq_n hK40 ?_
          refine w_ret ?_
          refine seq_r hK33 ?_
          refine blk_r hK10 ?_
          refine seq_r hK8 ?_
          refine fin_r hK0 (res_c rfl rfl (hS.var 4 rfl) rfl (res_tc rfl rfl)) ?_
          try obtain rfl := Option.some.inj h
          exact hP _ qm8 _ qm9 _ qm10 _ (hS.sel 5 [0, 1, 2] (by decide))
        · refine w_skip ?_
          refine seq_n hK33 ?_
          refine w_seq fun K41 hK41 => ?_
          refine w_reg gC ?_
          try simp only [W, EE, reduceIte, Nat.reduceAdd, Nat.reduceLeDiff, hS.var 3 rfl]
          refine w_call h fun b42 hb42 h => ?_
          refine spec_l15CloseB_w hb42 hS qm8 qm9 qm10 fun v43 qv43 v45 qv45 v47 qv47 H hS => ?_
          try simp only [W]
          refine w_stv (a := .agg [.int .i64 b42.StateA, .int .i64 b42.StateB, .int .i64 b42.X, .int .i64 b42.Y, .int .i64 b42.OfX, .int .i64 b42.OfY, .int .i64 b42.LastX, .int .i64 b42.LastY, v43, v45, v47]) (y' := .agg [.int .i64 b42.StateA, .int .i64 b42.StateB, .int .i64 b42.X, .int .i64 b42.Y, .int .i64 b42.OfX, .int .i64 b42.OfY, .int .i64 b42.LastX, .int .i64 b42.LastY, v43, v45, v47]) 4 hS rfl rfl rfl rfl rfl (by simp only [storA, List.all_cons, List.all_nil, qv43.stor, qv45.stor, qv47.stor]; rfl) rfl rfl fun H hS => ?_
          try simp only [W]
          refine seq_n hK41 ?_
          refine w_ret ?_
          refine blk_r hK10 ?_
          refine seq_r hK8 ?_
          refine fin_r hK0 (res_c rfl rfl (hS.var 4 rfl) rfl (res_tc rfl rfl)) ?_
          try obtain rfl := Option.some.inj h
          exact hP _ qv43 _ qv45 _ qv47 _ (hS.sel 5 [0, 1, 2] (by decide))
    · refine w_seq fun K49 hK49 => ?_
      refine w_reg gC ?_
      try simp only [W, EE, Nat.reduceAdd]
      refine seq_n hK49 ?_
      refine w_if ?_
      simp only [W]
      refine w_cnd h (fun hc h => ?_) (fun hc h => ?_)
      · refine w_seq fun K50 hK50 => ?_
        refine w_seq fun K51 hK51 => ?_
        refine w_reg gC ?_
        try simp only [W, EE, Nat.reduceAdd, Nat.reduceBEq, hS.var 1 rfl]
        refine seq_n hK51 ?_
        refine w_blk fun K52 hK52 => ?_
        refine w_seq fun K53 hK53 => ?_
        refine w_reg gC ?_
        try simp only [W, EE, Nat.reduceAdd]
        refine seq_n hK53 ?_
        refine w_if ?_
        simp only [W]
        refine w_cnd h (fun hc h => ?_) (fun hc h => ?_)
        · refine w_seq fun K54 hK54 => ?_
          refine w_reg gC ?_
          try simp only [W, EE, Nat.reduceAdd, Nat.reduceBEq, hS.var 2 rfl]
          refine w_stv (a := .int .i64 0) (y' := .agg [.int .i64 0, .int .i64 a0.StateB, .int .i64 a0.X, .int .i64 a0.Y, .int .i64 a0.OfX, .int .i64 a0.OfY, .int .i64 a0.LastX, .int .i64 a0.LastY, m8, m9, m10]) 2 hS rfl rfl rfl rfl rfl rfl rfl rfl fun H hS => ?_
          try simp only [W]
          refine seq_n hK54 ?_
          refine w_seq fun K55 hK55 => ?_
          refine w_reg gC ?_
          try simp only [W, EE, Nat.reduceAdd, Nat.reduceBEq, hS.var 2 rfl]
          refine w_stv (a := .int .i64 0) (y' := .agg [.int .i64 0, .int .i64 a0.StateB, .int .i64 0, .int .i64 a0.Y, .int .i64 a0.OfX, .int .i64 a0.OfY, .int .i64 a0.LastX, .int .i64 a0.LastY, m8, m9, m10]) 2 hS rfl rfl rfl rfl rfl rfl rfl rfl fun H hS => ?_
          try simp only [W]
          refine seq_n hK55 ?_
          refine w_seq fun K56 hK56 => ?_
          refine w_reg gC ?_
          try simp only [W, EE, Nat.reduceAdd, Nat.reduceBEq, hS.var 2 rfl]
          refine w_stv (a := .int .i64 0) (y' := .agg [.int .i64 0, .int .i64 a0.StateB, .int .i64 0, .int .i64 a0.Y, .int .i64 a0.OfX, .int .i64 0, .int .i64 a0.LastX, .int .i64 a0.LastY, m8, m9, m10]) 2 hS rfl rfl rfl rfl rfl rfl rfl rfl fun H hS => ?_
          try simp only [W]
          refine seq_n hK56 ?_
          refine w_seq fun K57 hK57 => ?_
          refine w_reg gC ?_
          try simp only [W, EE, reduceIte, Nat.reduceAdd, Nat.reduceLeDiff, hS.var 2 rfl]
          refine w_stv (a := .agg [.int .i64 0, .int .i64 a0.StateB, .int .i64 0, .int .i64 a0.Y, .int .i64 a0.OfX, .int .i64 0, .int .i64 a0.LastX, .int .i64 a0.LastY, m8, m9, m10]) (y' := .agg [.int .i64 0, .int .i64 a0.StateB, .int .i64 0, .int .i64 a0.Y, .int .i64 a0.OfX, .int .i64 0, .int .i64 a0.LastX, .int .i64 a0.LastY, m8, m9, m10]) 0 hS rfl rfl rfl rfl rfl (by simp only [storA, List.all_cons, List.all_nil, qm8.stor, qm9.stor, qm10.stor]; rfl) rfl rfl fun H hS => ?_
          try simp only [W]
          refine seq_n hK57 ?_
          refine w_ret ?_
          refine blk_r hK52 ?_
          refine seq_r hK50 ?_
          refine blk_r hK10 ?_
          refine seq_r hK8 ?_
          refine fin_r hK0 (res_c rfl rfl (hS.var 0 rfl) rfl (res_tc rfl rfl)) ?_
          try obtain rfl := Option.some.inj h
          exact hP _ qm8 _ qm9 _ qm10 _ (hS.sel 6 [3, 4, 5] (by decide))
        · refine w_seq fun K58 hK58 => ?_
          refine w_reg gC ?_
          try simp only [W, EE, Nat.reduceAdd]
          refine seq_n hK58 ?_
          refine w_if ?_
          simp only [W]
          refine w_cnd h (fun hc h => ?_) (fun hc h => ?_)
          · refine w_seq fun K59 hK59 => ?_
            refine w_reg gC ?_
            try simp only [W, EE, reduceIte, Nat.reduceAdd, Nat.reduceLeDiff, hS.var 2 rfl]
            refine w_call h fun b60 hb60 h => ?_
            refine spec_l15CloseB_w hb60 (hS.sel 6 [3, 4, 5, 0, 1, 2] (by decide)) qm8 qm9 qm10 fun v61 qv61 v63 qv63 v65 qv65 H hS => ?_
            try simp only [W]
            refine w_stv (a := .agg [.int .i64 b60.StateA, .int .i64 b60.StateB, .int .i64 b60.X, .int .i64 b60.Y, .int .i64 b60.OfX, .int .i64 b60.OfY, .int .i64 b60.LastX, .int .i64 b60.LastY, v61, v63, v65]) (y' := .agg [.int .i64 b60.StateA, .int .i64 b60.StateB, .int .i64 b60.X, .int .i64 b60.Y, .int .i64 b60.OfX, .int .i64 b60.OfY, .int .i64 b60.LastX, .int .i64 b60.LastY, v61, v63, v65]) 3 hS rfl rfl rfl rfl rfl (by simp only [storA, List.all_cons, List.all_nil, qv61.stor, qv63.stor, qv65.stor]; rfl) rfl rfl fun H hS => ?_
            try simp only [W]
            refine seq_n hK59 ?_
            refine w_ret ?_
            refine blk_r hK52 ?_
            refine seq_r hK50 ?_
            refine blk_r hK10 ?_
            refine seq_r hK8 ?_
            refine fin_r hK0 (res_c rfl rfl (hS.var 3 rfl) rfl (res_tc rfl rfl)) ?_
            try obtain rfl := Option.some.inj h
            exact hP _ qv61 _ qv63 _ qv65 _ (hS.sel 6 [0, 1, 2] (by decide))
          · refine w_skip ?_
            refine blk_n0 hK52 ?_
            refine seq_n hK50 ?_
            refine w_seq fun K67 hK67 => ?_
            refine w_reg gC ?_
            try simp only [W, EE, reduceIte, Nat.reduceAdd, Nat.reduceLeDiff, hS.var 2 rfl]
            refine w_stv (a := .agg [.int .i64 a0.StateA, .int .i64 a0.StateB, .int .i64 a0.X, .int .i64 a0.Y, .int .i64 a0.OfX, .int .i64 a0.OfY, .int .i64 a0.LastX, .int .i64 a0.LastY, m8, m9, m10]) (y' := .agg [.int .i64 a0.StateA, .int .i64 a0.StateB, .int .i64 a0.X, .int .i64 a0.Y, .int .i64 a0.OfX, .int .i64 a0.OfY, .int .i64 a0.LastX, .int .i64 a0.LastY, m8, m9, m10]) 0 hS rfl rfl rfl rfl rfl (by simp only [storA, List.all_cons, List.all_nil, qm8.stor, qm9.stor, qm10.stor]; rfl) rfl rfl fun H hS => ?_
            try simp only [W]
            refine seq_n hK67 ?_
            refine w_ret ?_
            refine blk_r hK10 ?_
            refine seq_r hK8 ?_
            refine fin_r hK0 (res_c rfl rfl (hS.var 0 rfl) rfl (res_tc rfl rfl)) ?_
            try obtain rfl := Option.some.inj h
            exact hP _ qm8 _ qm9 _ qm10 _ (hS.sel 6 [3, 4, 5] (by decide))
      · refine w_skip ?_
        refine blk_n0 hK10 ?_
        refine seq_n hK8 ?_
        refine w_seq fun K68 hK68 => ?_
        refine w_seq fun K69 hK69 => ?_
        obtain ⟨y71, h, g72⟩ := Option.bind_eq_some_iff.1 h
        refine w_join gC (fun s H => ∃ x70 : Bool, y71 = (x70) ∧ s = (u::u::.ptr ip2 wp2 0 0::.ptr ip4 wp4 0 0::.ptr ip6 wp6 0 0::u::u::u::u::u::u::u::u::u::u::u::u::u::u::u::u::u::u::u::u::u::u::u::u::u::u::u::u::u::u::u::u::u::u::u::u::u::u::u::u::u::u::u::u::u::u::u::u::u::u::u::u::u::u::u::u::u::u::u::u::u::u::u::u::u::u::u::u::u::u::u::u::u::u::.bool x70::u::u::u::u::u::u::u::u::u::u::u::u::u::u::u::u::u::u::u::u::u::u::u::u::u::u::u::u::u::u::u::u::u::u::u::u::u::u::u::u::u::[]) ∧ Own H (⟨m8, 3, a0.Line.map e_Hello⟩::⟨m9, 3, a0.OpenedA.map e_Hello⟩::⟨m10, 3, a0.OpenedB.map e_Hello⟩::⟨.ptr ip2 wp2 0 0, 11, [.agg [.int .i64 a0.StateA, .int .i64 a0.StateB, .int .i64 a0.X, .int .i64 a0.Y, .int .i64 a0.OfX, .int .i64 a0.OfY, .int .i64 a0.LastX, .int .i64 a0.LastY, m8, m9, m10]]⟩::⟨.ptr ip4 wp4 0 0, 2, [.agg [.int .i64 a1.Kind, .int .i64 a1.K]]⟩::⟨.ptr ip6 wp6 0 0, 11, [.agg [.int .i64 0, .int .i64 0, .int .i64 0, .int .i64 0, .int .i64 0, .int .i64 0, .int .i64 0, .int .i64 0, .nil, .nil, .nil]]⟩::F)) (fun K73 hK73 => ?_) (fun s H hq => ?_)
        · refine w_seq fun K74 hK74 => ?_
          refine w_reg gC ?_
          try simp only [W, EE, Nat.reduceAdd, Nat.reduceBEq, hS.var 1 rfl]
          refine w_grdT h (fun hc h => ?_) (fun hc h => ?_)
          · try simp only [W, hc]
            refine seq_n hK74 ?_
            refine w_killE (s' := (u::u::.ptr ip2 wp2 0 0::.ptr ip4 wp4 0 0::.ptr ip6 wp6 0 0::u::u::u::u::u::u::u::u::u::u::u::u::u::u::u::u::u::u::u::u::u::u::u::u::u::u::u::u::u::u::u::u::u::u::u::u::u::u::u::u::u::u::u::u::u::u::u::u::u::u::u::u::u::u::u::u::u::u::u::u::u::u::u::u::u::u::u::u::u::u::u::u::u::u::.bool true::u::u::u::u::u::u::u::u::u::u::u::u::u::u::u::u::u::u::u::u::u::u::u::u::u::u::u::u::u::u::u::u::u::u::u::u::u::u::u::u::u::[])) rfl ?_
            exact cut_n hK73 ⟨_, (Option.some.inj h).symm, rfl, (hS.sel 6 [3, 4, 5, 2, 1, 0] (by decide))⟩
          · try simp only [W, EE, Nat.reduceAdd, Nat.reduceBEq, hS.var 2 rfl, hS.var 1 rfl, hc]
            refine w_len 3 hS rfl qm8 rfl ?_
            try simp only [W, EE, reduceIte, Bool.false_eq_true]
            refine w_grdT h (fun hc h => ?_) (fun hc h => ?_)
            · try simp only [W, hc]
              refine seq_n hK74 ?_
              refine w_killE (s' := (u::u::.ptr ip2 wp2 0 0::.ptr ip4 wp4 0 0::.ptr ip6 wp6 0 0::u::u::u::u::u::u::u::u::u::u::u::u::u::u::u::u::u::u::u::u::u::u::u::u::u::u::u::u::u::u::u::u::u::u::u::u::u::u::u::u::u::u::u::u::u::u::u::u::u::u::u::u::u::u::u::u::u::u::u::u::u::u::u::u::u::u::u::u::u::u::u::u::u::u::.bool true::u::u::u::u::u::u::u::u::u::u::u::u::u::u::u::u::u::u::u::u::u::u::u::u::u::u::u::u::u::u::u::u::u::u::u::u::u::u::u::u::u::[])) rfl ?_
              exact cut_n hK73 ⟨_, (Option.some.inj h).symm, rfl, (hS.sel 6 [3, 4, 5, 2, 1, 0] (by decide))⟩
            · try simp only [W, EE, Nat.reduceAdd, Nat.reduceBEq, hS.var 1 rfl, hc]
              refine w_call h fun b75 hb75 h => ?_
              refine spec_l1In_w hb75 hS fun H hS => ?_
              try simp only [W, reduceIte, Bool.false_eq_true]
              refine seq_n hK74 ?_
              refine w_killE (s' := (u::u::.ptr ip2 wp2 0 0::.ptr ip4 wp4 0 0::.ptr ip6 wp6 0 0::u::u::u::u::u::u::u::u::u::u::u::u::u::u::u::u::u::u::u::u::u::u::u::u::u::u::u::u::u::u::u::u::u::u::u::u::u::u::u::u::u::u::u::u::u::u::u::u::u::u::u::u::u::u::u::u::u::u::u::u::u::u::u::u::u::u::u::u::u::u::u::u::u::u::.bool (!b75)::u::u::u::u::u::u::u::u::u::u::u::u::u::u::u::u::u::u::u::u::u::u::u::u::u::u::u::u::u::u::u::u::u::u::u::u::u::u::u::u::u::[])) rfl ?_
              exact cut_n hK73 ⟨_, (Option.some.inj h).symm, rfl, (hS.sel 6 [3, 4, 5, 2, 1, 0] (by decide))⟩
        · obtain ⟨x70, ey, rfl, hS⟩ := hq; obtain rfl := ey.symm
          replace h := g72
          try dsimp only at h
          refine seq_n hK69 ?_
          refine w_if ?_
          simp only [W]
          refine w_cnd h (fun hc h => ?_) (fun hc h => ?_)
          · refine w_seq fun K76 hK76 => ?_
            refine w_reg gC ?_
            try simp only [W, EE, reduceIte, Nat.reduceAdd, Nat.reduceLeDiff, hS.var 3 rfl]
            refine w_stv (a := .agg [.int .i64 a0.StateA, .int .i64 a0.StateB, .int .i64 a0.X, .int .i64 a0.Y, .int .i64 a0.OfX, .int .i64 a0.OfY, .int .i64 a0.LastX, .int .i64 a0.LastY, m8, m9, m10]) (y' := .agg [.int .i64 a0.StateA, .int .i64 a0.StateB, .int .i64 a0.X, .int .i64 a0.Y, .int .i64 a0.OfX, .int .i64 a0.OfY, .int .i64 a0.LastX, .int .i64 a0.LastY, m8, m9, m10]) 5 hS rfl rfl rfl rfl rfl (by simp only [storA, List.all_cons, List.all_nil, qm8.stor, qm9.stor, qm10.stor]; rfl) rfl rfl fun H hS => ?_
            try simp only [W]
            refine seq_n hK76 ?_
            refine w_ret ?_
            refine seq_r hK68 ?_
            refine fin_r hK0 (res_c rfl rfl (hS.var 5 rfl) rfl (res_tc rfl rfl)) ?_
            try obtain rfl := Option.some.inj h
            exact hP _ qm8 _ qm9 _ qm10 _ (hS.sel 6 [0, 1, 2] (by decide))
          · refine w_skip ?_
            refine seq_n hK68 ?_
            refine w_seq fun K77 hK77 => ?_
            refine w_reg gC ?_
            try simp only [W, EE, Nat.reduceAdd, Nat.reduceBEq, hS.var 3 rfl, hS.var 4 rfl]
            refine w_ow 0 hS rfl rfl rfl rfl rfl h (fun b78 in79 wn79 on79 hb78 h en79 => ?_) qm8.ne
            obtain ⟨kn79, hbn79, hen79⟩ := hS.elem 0 rfl en79 hb78
            try simp only [W, EE, EN, reduceIte, Nat.reduceAdd, Nat.reduceLeDiff, hbn79, hen79]
            refine w_alloc hS rfl rfl fun ip80 wp80 H hS => ?_
            try simp only [W]
            refine w_stv (a := .agg [.int .i64 b78.Kind, .int .i64 b78.X, .int .i64 b78.Y]) (y' := .agg [.int .i64 b78.Kind, .int .i64 b78.X, .int .i64 b78.Y]) 0 hS rfl rfl rfl rfl rfl rfl rfl rfl fun H hS => ?_
            try simp only [W]
            refine seq_n hK77 ?_
            refine w_seq fun K82 hK82 => ?_
            refine w_seq fun K83 hK83 => ?_
            refine w_reg gC ?_
            try simp only [W, EE, Nat.reduceAdd, Nat.reduceBEq, hS.var 5 rfl]
            refine seq_n hK83 ?_
            refine w_if ?_
            simp only [W]
            refine w_cnd h (fun hc h => ?_) (fun hc h => ?_)
            · refine w_seq fun K84 hK84 => ?_
              refine w_seq fun K85 hK85 => ?_
              refine w_reg gC ?_
              try simp only [W, EE, Nat.reduceAdd, Nat.reduceBEq, hS.var 4 rfl]
              refine w_len 1 hS rfl qm8 rfl ?_
              try simp only [W, EE]
              refine seq_n hK85 ?_
              refine w_if ?_
              simp only [W]
              refine w_cnd h (fun hc h => ?_) (fun hc h => ?_)
              · refine w_seq fun K86 hK86 => ?_
                refine w_reg gC ?_
                try simp only [W, EE, reduceIte, Nat.reduceAdd, Nat.reduceLeDiff, hS.var 4 rfl]
                refine w_stv (a := .agg [.int .i64 a0.StateA, .int .i64 a0.StateB, .int .i64 a0.X, .int .i64 a0.Y, .int .i64 a0.OfX, .int .i64 a0.OfY, .int .i64 a0.LastX, .int .i64 a0.LastY, m8, m9, m10]) (y' := .agg [.int .i64 a0.StateA, .int .i64 a0.StateB, .int .i64 a0.X, .int .i64 a0.Y, .int .i64 a0.OfX, .int .i64 a0.OfY, .int .i64 a0.LastX, .int .i64 a0.LastY, m8, m9, m10]) 6 hS rfl rfl rfl rfl rfl (by simp only [storA, List.all_cons, List.all_nil, qm8.stor, qm9.stor, qm10.stor]; rfl) rfl rfl fun H hS => ?_
                try simp only [W]
                refine seq_n hK86 ?_
                refine w_ret ?_
                refine seq_r hK84 ?_
                refine seq_r hK82 ?_
                refine fin_r hK0 (res_c rfl rfl (hS.var 6 rfl) rfl (res_tc rfl rfl)) ?_
                try obtain rfl := Option.some.inj h
                exact hP _ qm8 _ qm9 _ qm10 _ (hS.sel 7 [1, 2, 3] (by decide))
              · refine w_skip ?_
                refine seq_n hK84 ?_
                refine w_seq fun K87 hK87 => ?_
                refine w_reg gC ?_
                try simp only [W, EE, reduceIte, Nat.reduceAdd, Nat.reduceLeDiff, hS.var 4 rfl, hS.var 0 rfl]
                refine w_call h fun b88 hb88 h => ?_
                refine spec_l15Write_w hb88 (hS.sel 7 [1, 2, 3, 0, 4, 5, 6] (by decide)) qm8 qm9 qm10 fun v89 qv89 v91 qv91 v93 qv93 H hS => ?_
                try simp only [W]
                refine w_stv (a := .agg [.int .i64 b88.StateA, .int .i64 b88.StateB, .int .i64 b88.X, .int .i64 b88.Y, .int .i64 b88.OfX, .int .i64 b88.OfY, .int .i64 b88.LastX, .int .i64 b88.LastY, v89, v91, v93]) (y' := .agg [.int .i64 b88.StateA, .int .i64 b88.StateB, .int .i64 b88.X, .int .i64 b88.Y, .int .i64 b88.OfX, .int .i64 b88.OfY, .int .i64 b88.LastX, .int .i64 b88.LastY, v89, v91, v93]) 6 hS rfl rfl rfl rfl rfl (by simp only [storA, List.all_cons, List.all_nil, qv89.stor, qv91.stor, qv93.stor]; rfl) rfl rfl fun H hS => ?_
                try simp only [W]
                refine seq_n hK87 ?_
                refine w_ret ?_
                refine seq_r hK82 ?_
                refine fin_r hK0 (res_c rfl rfl (hS.var 6 rfl) rfl (res_tc rfl rfl)) ?_
                try obtain rfl := Option.some.inj h
                exact hP _ qv89 _ qv91 _ qv93 _ (hS.sel 7 [0, 1, 2] (by decide))
            · refine w_skip ?_
              refine seq_n hK82 ?_
              refine w_seq fun K95 hK95 => ?_
              refine w_reg gC ?_
              try simp only [W, Nat.reduceAdd]
              refine w_lit0 rfl rfl ?_
              try simp only [W, EE, Nat.reduceAdd, Nat.reduceBEq, hS.var 4 rfl, hS.var 5 rfl]
              refine w_slW 1 hS rfl qm8 rfl rfl rfl h fun v97 x96 qv97 wv97 hx96 h => ?_
              try simp only [W, EE]
              have hS := hS.e0_ 3
              refine w_appV (l := ([] : List Hello)) (c := e_Hello) 0 hS rfl isSl_e0 rfl rfl rfl (hS.elemsW 2 rfl wv97 hx96) (fun _ => rfl) rfl h fun v100 H x99 qv100 hm h hS => ?_
              try simp only [W]
              refine seq_n hK95 ?_
              refine w_seq fun K102 hK102 => ?_
              refine w_reg gC ?_
              try simp only [W, EE, Nat.reduceAdd, Nat.reduceBEq, hS.var 5 rfl, hS.var 6 rfl]
              refine w_slO 2 hS rfl qm8 rfl rfl rfl h fun v104 x103 qv104 hx103 h hS => ?_
              try simp only [W, EE]
              refine w_appV (l := x99) (c := e_Hello) 0 hS rfl qv100 rfl rfl rfl (hS.elems 2 rfl qv104) (fun _ => rfl) rfl h fun v107 H x106 qv107 hm h hS => ?_
              try simp only [W, EE, Nat.reduceAdd, Nat.reduceBEq, hS.var 5 rfl]
              refine w_stv (a := v107) (y' := .agg [.int .i64 a0.StateA, .int .i64 a0.StateB, .int .i64 a0.X, .int .i64 a0.Y, .int .i64 a0.OfX, .int .i64 a0.OfY, .int .i64 a0.LastX, .int .i64 a0.LastY, v107, m9, m10]) 5 hS rfl rfl rfl rfl (by rw [qv107.cells]; rfl) qv107.stora (qv107.wr _ _ (by simp)) rfl fun H hS => ?_
              try simp only [W]
              refine seq_n hK102 ?_
              refine w_seq fun K109 hK109 => ?_
              refine w_seq fun K110 hK110 => ?_
              refine w_reg gC ?_
              try simp only [W, EE, Nat.reduceAdd, Nat.reduceBEq, hS.var 6 rfl]
              refine seq_n hK110 ?_
              refine w_if ?_
              simp only [W]
              refine w_cnd h (fun hc h => ?_) (fun hc h => ?_)
              · refine w_seq fun K111 hK111 => ?_
                refine w_reg gC ?_
                try simp only [W, EE, reduceIte, Nat.reduceAdd, Nat.reduceLeDiff, hS.var 5 rfl, hS.var 1 rfl]
                refine w_call h fun b112 hb112 h => ?_
                refine spec_l15Take_w hb112 (hS.sel 8 [0, 3, 4, 1, 2, 5, 6, 7] (by decide)) qv107 qm9 qm10 fun v113 qv113 v115 qv115 v117 qv117 H hS => ?_
                try simp only [W]
                refine w_stv (a := .agg [.int .i64 b112.StateA, .int .i64 b112.StateB, .int .i64 b112.X, .int .i64 b112.Y, .int .i64 b112.OfX, .int .i64 b112.OfY, .int .i64 b112.LastX, .int .i64 b112.LastY, v113, v115, v117]) (y' := .agg [.int .i64 b112.StateA, .int .i64 b112.StateB, .int .i64 b112.X, .int .i64 b112.Y, .int .i64 b112.OfX, .int .i64 b112.OfY, .int .i64 b112.LastX, .int .i64 b112.LastY, v113, v115, v117]) 7 hS rfl rfl rfl rfl rfl (by simp only [storA, List.all_cons, List.all_nil, qv113.stor, qv115.stor, qv117.stor]; rfl) rfl rfl fun H hS => ?_
                try simp only [W]
                refine seq_n hK111 ?_
                refine w_ret ?_
                refine seq_r hK109 ?_
                refine fin_r hK0 (res_c rfl rfl (hS.var 7 rfl) rfl (res_tc rfl rfl)) ?_
                try obtain rfl := Option.some.inj h
                exact hP _ qv113 _ qv115 _ qv117 _ (hS.sel 8 [0, 1, 2] (by decide))
              · refine w_skip ?_
                refine seq_n hK109 ?_
                refine w_seq fun K119 hK119 => ?_
                refine w_reg gC ?_
                try simp only [W, EE, reduceIte, Nat.reduceAdd, Nat.reduceLeDiff, hS.var 5 rfl]
                refine w_stv (a := .agg [.int .i64 a0.StateA, .int .i64 a0.StateB, .int .i64 a0.X, .int .i64 a0.Y, .int .i64 a0.OfX, .int .i64 a0.OfY, .int .i64 a0.LastX, .int .i64 a0.LastY, v107, m9, m10]) (y' := .agg [.int .i64 a0.StateA, .int .i64 a0.StateB, .int .i64 a0.X, .int .i64 a0.Y, .int .i64 a0.OfX, .int .i64 a0.OfY, .int .i64 a0.LastX, .int .i64 a0.LastY, v107, m9, m10]) 7 hS rfl rfl rfl rfl rfl (by simp only [storA, List.all_cons, List.all_nil, qv107.stor, qm9.stor, qm10.stor]; rfl) rfl rfl fun H hS => ?_
                try simp only [W]
                refine seq_n hK119 ?_
                refine w_ret ?_
                refine fin_r hK0 (res_c rfl rfl (hS.var 7 rfl) rfl (res_tc rfl rfl)) ?_
                try obtain rfl := Option.some.inj h
                exact hP _ qv107 _ qm9 _ qm10 _ (hS.sel 8 [0, 3, 4] (by decide))
theorem spec_PlayGreet_w {a0 : List GreetStep} {r : (Greet × List Bool × Bool)} (h : spec_PlayGreet a0 = some r) {F : List It} {H : Heap} (hS : Own H (F)) {P : AV → Heap → Prop} (hP : ∀ v136 : AV, isSl v136 → ∀ v138 : AV, isSl v138 → ∀ v140 : AV, isSl v140 → ∀ v142 : AV, isSl v142 → ∀ H', Own H' (⟨v136, 3, r.1.Line.map e_Hello⟩::⟨v138, 3, r.1.OpenedA.map e_Hello⟩::⟨v140, 3, r.1.OpenedB.map e_Hello⟩::⟨v142, 1, r.2.1.map AV.bool⟩::F) → P (.tup [.agg [.int .i64 r.1.StateA, .int .i64 r.1.StateB, .int .i64 r.1.X, .int .i64 r.1.Y, .int .i64 r.1.OfX, .int .i64 r.1.OfY, .int .i64 r.1.LastX, .int .i64 r.1.LastY, v136, v138, v140], v142, .bool r.2.2]) H') : ACall C 58 [.fz (a0.map e_GreetStep)] H P := by
  refine acall_of gC (res := [.cell 2 85, .tmp 3, .tmp 4]) (n := 39) rfl rfl rfl rfl fun K0 hK0 => ?_
  simp only [W, Nat.reduceSub, Nat.reduceAdd, List.replicate]
  unfold spec_PlayGreet at h
  refine w_seq fun K1 hK1 => ?_
  refine w_reg gC ?_
  try simp only [W, Nat.reduceAdd]
  refine w_alloc hS rfl rfl fun ip2 wp2 H hS => ?_
  try simp only [W]
  refine seq_n hK1 ?_
  refine w_seq fun K4 hK4 => ?_
  refine w_seq fun K5 hK5 => ?_
  refine w_reg gC ?_
  try simp only [W, EE, Nat.reduceAdd]
  refine seq_n hK5 ?_
  refine w_if ?_
  simp only [W]
  refine w_cnd h (fun hc h => ?_) (fun hc h => ?_)
  · refine w_seq fun K6 hK6 => ?_
    refine w_reg gC ?_
    try simp only [W, EE, Nat.reduceAdd]
    refine w_bld rfl rfl rfl rfl rfl ?_
    try simp only [W]
    refine w_stv (a := .agg [.int .i64 0, .int .i64 0, .int .i64 0, .int .i64 0, .int .i64 0, .int .i64 0, .int .i64 0, .int .i64 0, .nil, .nil, .nil]) (y' := .agg [.int .i64 0, .int .i64 0, .int .i64 0, .int .i64 0, .int .i64 0, .int .i64 0, .int .i64 0, .int .i64 0, .nil, .nil, .nil]) 0 hS rfl rfl rfl rfl rfl rfl rfl rfl fun H hS => ?_
    try simp only [W]
    refine seq_n hK6 ?_
    refine w_ret ?_
    refine seq_r hK4 ?_
    refine fin_r hK0 (res_c rfl rfl (hS.var 0 rfl) rfl (res_tc rfl (res_tc rfl rfl))) ?_
    try obtain rfl := Option.some.inj h
    exact hP _ isSl_nil _ isSl_nil _ isSl_nil _ isSl_nil _ (((((hS.nil_ 1).nil_ 3).nil_ 3).nil_ 3).sel 5 [0, 1, 2, 3] (by decide))
  · refine w_skip ?_
    refine seq_n hK4 ?_
    refine w_seq fun K7 hK7 => ?_
    refine w_reg gC ?_
    try simp only [W, Nat.reduceAdd]
    refine w_call h fun b8 hb8 h => ?_
    refine spec_NewGreet_w hb8 hS fun v9 qv9 v11 qv11 v13 qv13 H hS => ?_
    try simp only [W]
    refine w_alloc hS rfl rfl fun ip15 wp15 H hS => ?_
    try simp only [W]
    refine w_stv (a := .agg [.int .i64 b8.StateA, .int .i64 b8.StateB, .int .i64 b8.X, .int .i64 b8.Y, .int .i64 b8.OfX, .int .i64 b8.OfY, .int .i64 b8.LastX, .int .i64 b8.LastY, v9, v11, v13]) (y' := .agg [.int .i64 b8.StateA, .int .i64 b8.StateB, .int .i64 b8.X, .int .i64 b8.Y, .int .i64 b8.OfX, .int .i64 b8.OfY, .int .i64 b8.LastX, .int .i64 b8.LastY, v9, v11, v13]) 0 hS rfl rfl rfl rfl rfl (by simp only [storA, List.all_cons, List.all_nil, qv9.stor, qv11.stor, qv13.stor]; rfl) rfl rfl fun H hS => ?_
    try simp only [W]
    refine seq_n hK7 ?_
    refine w_seq fun K17 hK17 => ?_
    refine w_reg gC ?_
    try simp only [W, Nat.reduceAdd]
    refine seq_n hK17 ?_
    refine w_seq fun K18 hK18 => ?_
    refine w_seq fun K19 hK19 => ?_
    refine w_reg gC ?_
    try simp only [W, EE, Nat.reduceAdd]
    refine seq_n hK19 ?_
    obtain ⟨y57, hw58, g64⟩ := Option.bind_eq_some_iff.1 h
    refine w_join gC (fun s H => ∃ x41 : List Bool, ∃ x43 : Int, ∃ x44 : Int, ∃ x45 : Int, ∃ x46 : Int, ∃ x47 : Int, ∃ x48 : Int, ∃ x49 : Int, ∃ x50 : Int, ∃ x51 : List Hello, ∃ x53 : List Hello, ∃ x55 : List Hello, y57 = (x41, x43, x44, x45, x46, x47, x48, x49, x50, x51, x53, x55) ∧ ∃ v42 : AV, isSl v42 ∧ ∃ v52 : AV, isSl v52 ∧ ∃ v54 : AV, isSl v54 ∧ ∃ v56 : AV, isSl v56 ∧ s = [u, u, .ptr ip2 wp2 0 0, u, u, .ptr ip15 wp15 0 0, v42, u, u, u, u, u, u, u, u, u, u, u, u, u, u, u, u, u, u, u, u, u, u, u, u, u, u, u, u, u, u, u, u] ∧ Own H (⟨v42, 1, x41.map AV.bool⟩::⟨v52, 3, x51.map e_Hello⟩::⟨v54, 3, x53.map e_Hello⟩::⟨v56, 3, x55.map e_Hello⟩::⟨.ptr ip2 wp2 0 0, 11, [.agg [.int .i64 0, .int .i64 0, .int .i64 0, .int .i64 0, .int .i64 0, .int .i64 0, .int .i64 0, .int .i64 0, .nil, .nil, .nil]]⟩::⟨.ptr ip15 wp15 0 0, 11, [.agg [.int .i64 x43, .int .i64 x44, .int .i64 x45, .int .i64 x46, .int .i64 x47, .int .i64 x48, .int .i64 x49, .int .i64 x50, v52, v54, v56]]⟩::F)) (fun K59 hK59 => ?_) (fun s H hq => ?_)
    · refine w_blk fun K60 hK60 => ?_
      refine w_loop gC hw58 (fun x s H => match x with | (x20, x23, x24, x25, x26, x27, x28, x29, x30, x31, x32, x35, x38) => ∃ v21 : AV, isSl v21 ∧ ∃ v33 : AV, isSl v33 ∧ ∃ v36 : AV, isSl v36 ∧ ∃ v39 : AV, isSl v39 ∧ s = [u, u, .ptr ip2 wp2 0 0, u, u, .ptr ip15 wp15 0 0, v21, u, u, u, u, u, u, u, u, u, .fz (a0.map e_GreetStep), .int .i64 (a0.length : Int), .int .i64 x23, u, u, u, u, u, u, u, u, u, u, u, u, u, u, u, u, u, u, u, u] ∧ Own H (⟨v21, 1, x20.map AV.bool⟩::⟨v33, 3, x32.map e_Hello⟩::⟨v36, 3, x35.map e_Hello⟩::⟨v39, 3, x38.map e_Hello⟩::⟨.ptr ip2 wp2 0 0, 11, [.agg [.int .i64 0, .int .i64 0, .int .i64 0, .int .i64 0, .int .i64 0, .int .i64 0, .int .i64 0, .int .i64 0, .nil, .nil, .nil]]⟩::⟨.ptr ip15 wp15 0 0, 11, [.agg [.int .i64 x24, .int .i64 x25, .int .i64 x26, .int .i64 x27, .int .i64 x28, .int .i64 x29, .int .i64 x30, .int .i64 x31, v33, v36, v39]]⟩::F)) ⟨_, isSl_nil, _, qv9, _, qv11, _, qv13, rfl, ((hS.nil_ 1).sel 6 [0, 2, 3, 4, 5, 1] (by decide))⟩ (fun x y63 s H h hd62 hi K61 hK61 => ?_)
      obtain ⟨x20, x23, x24, x25, x26, x27, x28, x29, x30, x31, x32, x35, x38⟩ := x
      try dsimp only at hi
      obtain ⟨v21, qv21, v33, qv33, v36, qv36, v39, qv39, rfl, hS⟩ := hi
      simp only [spec_PlayGreet_l0] at h
      refine w_seq fun K65 hK65 => ?_
      refine w_reg gC ?_
      try simp only [W, EE, Nat.reduceAdd]
      refine seq_n hK65 ?_
      refine w_seq fun K66 hK66 => ?_
      refine w_if ?_
      simp only [W]
      refine w_cnd h (fun hc h => ?_) (fun hc h => ?_)
      · refine w_skip ?_
        refine seq_n hK66 ?_
        refine w_seq fun K67 hK67 => ?_
        refine w_blk fun K68 hK68 => ?_
        refine w_seq fun K69 hK69 => ?_
        refine w_reg gC ?_
        try simp only [W, EE, Nat.reduceAdd]
        refine w_fz rfl rfl rfl (fun _ => rfl) h fun b70 hb70 h => ?_
        try simp only [W, EE, EN, reduceIte, Nat.reduceAdd, Nat.reduceLeDiff]
        refine w_alloc hS rfl rfl fun ip71 wp71 H hS => ?_
        try simp only [W]
        refine w_stv (a := .agg [.int .i64 b70.Kind, .int .i64 b70.K]) (y' := .agg [.int .i64 b70.Kind, .int .i64 b70.K]) 0 hS rfl rfl rfl rfl rfl rfl rfl rfl fun H hS => ?_
        try simp only [W]
        refine seq_n hK69 ?_
        refine w_seq fun K73 hK73 => ?_
        refine w_drawL gC [(3, []), (8, [6])] (by kernel_rfl) rfl (by kernel_rfl) ?_
        try simp only [W, EE, reduceIte, Nat.reduceAdd, Nat.reduceLeDiff, Nat.reduceBEq, hS.var 6 rfl, tabAt, qAt, Nat.reduceEqDiff, List.contains_cons, Nat.reduceBEq, Bool.or_self]
        refine w_callO (rsh := [[.sc, .sc, .sc, .sc, .sc, .sc, .sc, .sc, .sl [.sc, .sc, .sc], .sl [.sc, .sc, .sc], .sl [.sc, .sc, .sc]]]) (ys := [.agg [.int .i64 x24, .int .i64 x25, .int .i64 x26, .int .i64 x27, .int .i64 x28, .int .i64 x29, .int .i64 x30, .int .i64 x31, .fz (x32.map e_Hello), .fz (x35.map e_Hello), .fz (x38.map e_Hello)]]) h rfl (pv_c (sn_agg (sm_c rfl (sm_c rfl (sm_c rfl (sm_c rfl (sm_c rfl (sm_c rfl (sm_c rfl (sm_c rfl (sm_c (sn_ow hS 2 rfl qv33 (fun _ => rfl)) (sm_c (sn_ow hS 3 rfl qv36 (fun _ => rfl)) (sm_c (sn_ow hS 4 rfl qv39 (fun _ => rfl)) (sm_n _))))))))))))) pv_n) fun b74 hb74 h => ⟨.agg [.int .i64 b74.StateA, .int .i64 b74.StateB, .int .i64 b74.X, .int .i64 b74.Y, .int .i64 b74.OfX, .int .i64 b74.OfY, .int .i64 b74.LastX, .int .i64 b74.LastY, .own 3 (b74.Line.map e_Hello), .own 3 (b74.OpenedA.map e_Hello), .own 3 (b74.OpenedB.map e_Hello)], spec_l15Own_w hb74 (Own.nil _) fun v75 qv75 v76 qv76 v77 qv77 H hS => TV_ok rfl (TV_a (TC_sc rfl (TC_sc rfl (TC_sc rfl (TC_sc rfl (TC_sc rfl (TC_sc rfl (TC_sc rfl (TC_sc rfl (TC_ow 0 hS rfl qv75 (fun _ _ => by simp [takeE, takeT, takeC, plainA, e_Hello]) fun H hS => TC_ow 0 hS rfl qv76 (fun _ _ => by simp [takeE, takeT, takeC, plainA, e_Hello]) fun H hS => TC_ow 0 hS rfl qv77 (fun _ _ => by simp [takeE, takeT, takeC, plainA, e_Hello]) fun H hS => TC_nil (TV_n rfl))))))))))), (nf_a (nf_c rfl (nf_c rfl (nf_c rfl (nf_c rfl (nf_c rfl (nf_c rfl (nf_c rfl (nf_c rfl (nf_c (noFz_o _ (fun _ => rfl) _) (nf_c (noFz_o _ (fun _ => rfl) _) (nf_c (noFz_o _ (fun _ => rfl) _) nf_n)))))))))))), ?_⟩
        refine thaw_1 ?_
        refine TH_a ?_
        refine TH_p (fun _ => rfl) ?_
        refine TH_p (fun _ => rfl) ?_
        refine TH_p (fun _ => rfl) ?_
        refine TH_p (fun _ => rfl) ?_
        refine TH_p (fun _ => rfl) ?_
        refine TH_p (fun _ => rfl) ?_
        refine TH_p (fun _ => rfl) ?_
        refine TH_p (fun _ => rfl) ?_
        refine TH_o hS (fun _ _ => rfl) (fun _ => rfl) fun v79 H qv79 hS => ?_
        refine TH_o hS (fun _ _ => rfl) (fun _ => rfl) fun v81 H qv81 hS => ?_
        refine TH_o hS (fun _ _ => rfl) (fun _ => rfl) fun v83 H qv83 hS => ?_
        refine TH_n ?_
        refine TH_n ?_
        try simp only [List.headD_cons]
        try simp only [W, EE, reduceIte, Nat.reduceAdd, Nat.reduceLeDiff, hS.var 3 rfl]
        refine w_call h fun b84 hb84 h => ?_
        obtain ⟨b85, b86⟩ := b84
        try dsimp only at h
        refine spec_l15Step_w hb84 (hS.sel 10 [2, 1, 0, 3, 4, 5, 6, 7, 8, 9] (by decide)) qv79 qv81 qv83 fun v87 qv87 v89 qv89 v91 qv91 H hS => ?_
        try simp only [W]
        refine w_alloc hS rfl rfl fun ip93 wp93 H hS => ?_
        try simp only [W]
        refine w_stv (a := .agg [.int .i64 b85.StateA, .int .i64 b85.StateB, .int .i64 b85.X, .int .i64 b85.Y, .int .i64 b85.OfX, .int .i64 b85.OfY, .int .i64 b85.LastX, .int .i64 b85.LastY, v87, v89, v91]) (y' := .agg [.int .i64 b85.StateA, .int .i64 b85.StateB, .int .i64 b85.X, .int .i64 b85.Y, .int .i64 b85.OfX, .int .i64 b85.OfY, .int .i64 b85.LastX, .int .i64 b85.LastY, v87, v89, v91]) 0 hS rfl rfl rfl rfl rfl (by simp only [storA, List.all_cons, List.all_nil, qv87.stor, qv89.stor, qv91.stor]; rfl) rfl rfl fun H hS => ?_
        refine goK_late ?_
        refine lateG_s (by first | rfl | (simp [evalOp, W, EE, EN, rdAt, mkT, subL, AV.cells, hS.var 0 rfl, hS.var 4 rfl, hS.var 9 rfl, hS.var 10 rfl]; done)) ?_
        refine lateG_n ?_
        try simp only [W]
        refine seq_n hK73 ?_
        refine w_seq fun K95 hK95 => ?_
        refine w_seq fun K96 hK96 => ?_
        refine w_reg gC ?_
        try simp only [W, Nat.reduceAdd]
        refine seq_n hK96 ?_
        obtain ⟨y114, h, g115⟩ := Option.bind_eq_some_iff.1 h
        refine w_join gC (fun s H => ∃ x97 : Int, ∃ x98 : Int, ∃ x99 : Int, ∃ x100 : Int, ∃ x101 : Int, ∃ x102 : Int, ∃ x103 : Int, ∃ x104 : Int, ∃ x105 : List Hello, ∃ x108 : List Hello, ∃ x111 : List Hello, y114 = (x97, x98, x99, x100, x101, x102, x103, x104, x105, x108, x111) ∧ ∃ v106 : AV, isSl v106 ∧ ∃ v109 : AV, isSl v109 ∧ ∃ v112 : AV, isSl v112 ∧ s = [u, u, .ptr ip2 wp2 0 0, u, u, .ptr ip15 wp15 0 0, v21, u, u, u, .bool b86, u, u, u, u, u, .fz (a0.map e_GreetStep), .int .i64 (a0.length : Int), .int .i64 x23, u, u, u, u, u, u, u, u, u, u, u, u, u, u, u, u, u, u, u, u] ∧ Own H (⟨v21, 1, x20.map AV.bool⟩::⟨v106, 3, x105.map e_Hello⟩::⟨v109, 3, x108.map e_Hello⟩::⟨v112, 3, x111.map e_Hello⟩::⟨.ptr ip2 wp2 0 0, 11, [.agg [.int .i64 0, .int .i64 0, .int .i64 0, .int .i64 0, .int .i64 0, .int .i64 0, .int .i64 0, .int .i64 0, .nil, .nil, .nil]]⟩::⟨.ptr ip15 wp15 0 0, 11, [.agg [.int .i64 x97, .int .i64 x98, .int .i64 x99, .int .i64 x100, .int .i64 x101, .int .i64 x102, .int .i64 x103, .int .i64 x104, v106, v109, v112]]⟩::F)) (fun K116 hK116 => ?_) (fun s H hq => ?_)
        · refine w_seq fun K117 hK117 => ?_
          refine w_if ?_
          simp only [W]
          refine w_cnd h (fun hc h => ?_) (fun hc h => ?_)
          · refine w_reg gC ?_
            try simp only [W, EE, reduceIte, Nat.reduceAdd, Nat.reduceLeDiff, hS.var 0 rfl]
            refine w_stv (a := .agg [.int .i64 b85.StateA, .int .i64 b85.StateB, .int .i64 b85.X, .int .i64 b85.Y, .int .i64 b85.OfX, .int .i64 b85.OfY, .int .i64 b85.LastX, .int .i64 b85.LastY, v87, v89, v91]) (y' := .agg [.int .i64 b85.StateA, .int .i64 b85.StateB, .int .i64 b85.X, .int .i64 b85.Y, .int .i64 b85.OfX, .int .i64 b85.OfY, .int .i64 b85.LastX, .int .i64 b85.LastY, v87, v89, v91]) 10 hS rfl rfl rfl rfl rfl (by simp only [storA, List.all_cons, List.all_nil, qv87.stor, qv89.stor, qv91.stor]; rfl) rfl rfl fun H hS => ?_
            try simp only [W]
            refine seq_n hK117 ?_
            refine w_kill ?_
            exact cut_n hK116 ⟨_, _, _, _, _, _, _, _, _, _, _, (Option.some.inj h).symm, _, qv87, _, qv89, _, qv91, rfl, (hS.sel 11 [5, 1, 2, 3, 9, 10] (by decide))⟩
          · refine w_skip ?_
            refine seq_n hK117 ?_
            refine w_kill ?_
            exact cut_n hK116 ⟨_, _, _, _, _, _, _, _, _, _, _, (Option.some.inj h).symm, _, qv33, _, qv36, _, qv39, rfl, (hS.sel 11 [5, 6, 7, 8, 9, 10] (by decide))⟩
        · obtain ⟨x97, x98, x99, x100, x101, x102, x103, x104, x105, x108, x111, rfl, v106, qv106, v109, qv109, v112, qv112, rfl, hS⟩ := hq
          replace h := g115
          try dsimp only at h
          refine seq_n hK95 ?_
          refine w_reg gC ?_
          try simp only [W, Nat.reduceAdd]
          refine w_lit (el := ([b86] : List Bool).map AV.bool) hS rfl rfl rfl rfl rfl rfl rfl fun v118 H qv118 hS => ?_
          try simp only [W, EE]
          refine w_appV (l := x20) (c := AV.bool) 1 hS rfl qv21 rfl rfl rfl (hS.elems 0 rfl qv118) (fun _ => rfl) rfl h fun v121 H x120 qv121 hm h hS => ?_
          try simp only [W]
          refine blk_n0 hK68 ?_
          refine seq_n hK67 ?_
          refine w_reg gC ?_
          try simp only [W, EE, Nat.reduceAdd]
          exact lp_n hK61 h ⟨_, qv121, _, qv106, _, qv109, _, qv112, rfl, (hS.sel 7 [1, 2, 3, 4, 5, 6] (by decide))⟩
      · refine w_exit ?_
        refine seq_x hK66 ?_
        try obtain rfl := Option.some.inj h
        obtain rfl := hd62 _ rfl
        have h : (some (x20, x24, x25, x26, x27, x28, x29, x30, x31, x32, x35, x38) : Option ((List Bool) × Int × Int × Int × Int × Int × Int × Int × Int × (List Hello) × (List Hello) × (List Hello))) = some (x20, x24, x25, x26, x27, x28, x29, x30, x31, x32, x35, x38) := rfl
        refine lp_x hK61 ?_
        refine blk_e hK60 ?_
        exact cut_n hK59 ⟨_, _, _, _, _, _, _, _, _, _, _, _, (Option.some.inj h).symm, _, qv21, _, qv33, _, qv36, _, qv39, rfl, hS⟩
    · obtain ⟨x41, x43, x44, x45, x46, x47, x48, x49, x50, x51, x53, x55, rfl, v42, qv42, v52, qv52, v54, qv54, v56, qv56, rfl, hS⟩ := hq
      replace h := g64
      try dsimp only at h
      refine seq_n hK18 ?_
      refine w_seq fun K125 hK125 => ?_
      refine w_reg gC ?_
      try simp only [W, EE, reduceIte, Nat.reduceAdd, Nat.reduceLeDiff, Nat.reduceBEq, hS.var 5 rfl, List.contains_cons, Nat.reduceBEq, Bool.or_self]
      refine w_callO (rsh := [[.sc, .sc, .sc, .sc, .sc, .sc, .sc, .sc, .sl [.sc, .sc, .sc], .sl [.sc, .sc, .sc], .sl [.sc, .sc, .sc]]]) (ys := [.agg [.int .i64 x43, .int .i64 x44, .int .i64 x45, .int .i64 x46, .int .i64 x47, .int .i64 x48, .int .i64 x49, .int .i64 x50, .fz (x51.map e_Hello), .fz (x53.map e_Hello), .fz (x55.map e_Hello)]]) h rfl (pv_c (sn_agg (sm_c rfl (sm_c rfl (sm_c rfl (sm_c rfl (sm_c rfl (sm_c rfl (sm_c rfl (sm_c rfl (sm_c (sn_ow hS 1 rfl qv52 (fun _ => rfl)) (sm_c (sn_ow hS 2 rfl qv54 (fun _ => rfl)) (sm_c (sn_ow hS 3 rfl qv56 (fun _ => rfl)) (sm_n _))))))))))))) pv_n) fun b126 hb126 h => ⟨.agg [.int .i64 b126.StateA, .int .i64 b126.StateB, .int .i64 b126.X, .int .i64 b126.Y, .int .i64 b126.OfX, .int .i64 b126.OfY, .int .i64 b126.LastX, .int .i64 b126.LastY, .own 3 (b126.Line.map e_Hello), .own 3 (b126.OpenedA.map e_Hello), .own 3 (b126.OpenedB.map e_Hello)], spec_l15Own_w hb126 (Own.nil _) fun v127 qv127 v128 qv128 v129 qv129 H hS => TV_ok rfl (TV_a (TC_sc rfl (TC_sc rfl (TC_sc rfl (TC_sc rfl (TC_sc rfl (TC_sc rfl (TC_sc rfl (TC_sc rfl (TC_ow 0 hS rfl qv127 (fun _ _ => by simp [takeE, takeT, takeC, plainA, e_Hello]) fun H hS => TC_ow 0 hS rfl qv128 (fun _ _ => by simp [takeE, takeT, takeC, plainA, e_Hello]) fun H hS => TC_ow 0 hS rfl qv129 (fun _ _ => by simp [takeE, takeT, takeC, plainA, e_Hello]) fun H hS => TC_nil (TV_n rfl))))))))))), (nf_a (nf_c rfl (nf_c rfl (nf_c rfl (nf_c rfl (nf_c rfl (nf_c rfl (nf_c rfl (nf_c rfl (nf_c (noFz_o _ (fun _ => rfl) _) (nf_c (noFz_o _ (fun _ => rfl) _) (nf_c (noFz_o _ (fun _ => rfl) _) nf_n)))))))))))), ?_⟩
      refine thaw_1 ?_
      refine TH_a ?_
      refine TH_p (fun _ => rfl) ?_
      refine TH_p (fun _ => rfl) ?_
      refine TH_p (fun _ => rfl) ?_
      refine TH_p (fun _ => rfl) ?_
      refine TH_p (fun _ => rfl) ?_
      refine TH_p (fun _ => rfl) ?_
      refine TH_p (fun _ => rfl) ?_
      refine TH_p (fun _ => rfl) ?_
      refine TH_o hS (fun _ _ => rfl) (fun _ => rfl) fun v131 H qv131 hS => ?_
      refine TH_o hS (fun _ _ => rfl) (fun _ => rfl) fun v133 H qv133 hS => ?_
      refine TH_o hS (fun _ _ => rfl) (fun _ => rfl) fun v135 H qv135 hS => ?_
      refine TH_n ?_
      refine TH_n ?_
      try simp only [List.headD_cons]
      try simp only [W]
      refine w_stv (a := .agg [.int .i64 b126.StateA, .int .i64 b126.StateB, .int .i64 b126.X, .int .i64 b126.Y, .int .i64 b126.OfX, .int .i64 b126.OfY, .int .i64 b126.LastX, .int .i64 b126.LastY, v131, v133, v135]) (y' := .agg [.int .i64 b126.StateA, .int .i64 b126.StateB, .int .i64 b126.X, .int .i64 b126.Y, .int .i64 b126.OfX, .int .i64 b126.OfY, .int .i64 b126.LastX, .int .i64 b126.LastY, v131, v133, v135]) 7 hS rfl rfl rfl rfl rfl (by simp only [storA, List.all_cons, List.all_nil, qv131.stor, qv133.stor, qv135.stor]; rfl) rfl rfl fun H hS => ?_
      try simp only [W]
      refine seq_n hK125 ?_
      refine w_ret ?_
      refine fin_r hK0 (res_c rfl rfl (hS.var 7 rfl) rfl (res_tc rfl (res_tc rfl rfl))) ?_
      try obtain rfl := Option.some.inj h
      exact hP _ qv131 _ qv133 _ qv135 _ qv42 _ (hS.sel 9 [2, 1, 0, 3] (by decide))
theorem laws_sameBools_w {a0 : List Bool} {a1 : List Bool} {r : (Bool)} (h : laws_sameBools a0 a1 = some r) {F : List It} {H : Heap} (hS : Own H (F)) {P : AV → Heap → Prop} (hP : ∀ H', Own H' (F) → P (.bool r) H') : ACall C 49 [.fz (a0.map AV.bool), .fz (a1.map AV.bool)] H P := by
  refine acall_of gC (res := [.tmp 4]) (n := 26) rfl rfl rfl rfl fun K0 hK0 => ?_
  simp only [W, Nat.reduceSub, Nat.reduceAdd, List.replicate]
  unfold laws_sameBools at h
  refine w_seq fun K1 hK1 => ?_
  refine w_reg gC ?_
  try simp only [W, Nat.reduceAdd]
  refine seq_n hK1 ?_
  refine w_seq fun K2 hK2 => ?_
  refine w_seq fun K3 hK3 => ?_
  refine w_reg gC ?_
  try simp only [W, EE, Nat.reduceAdd]
  refine seq_n hK3 ?_
  refine w_if ?_
  simp only [W]
  refine w_cnd h (fun hc h => ?_) (fun hc h => ?_)
  · refine w_seq fun K4 hK4 => ?_
    refine w_reg gC ?_
    try simp only [W, Nat.reduceAdd]
    refine seq_n hK4 ?_
    refine w_ret ?_
    refine seq_r hK2 ?_
    refine fin_r1 hK0 rfl ?_
    try obtain rfl := Option.some.inj h
    exact hP _ hS
  · refine w_skip ?_
    refine seq_n hK2 ?_
    refine w_seq fun K5 hK5 => ?_
    refine w_seq fun K6 hK6 => ?_
    refine w_reg gC ?_
    try simp only [W, EE, Nat.reduceAdd]
    refine seq_n hK6 ?_
    obtain ⟨y8, hw9, g15⟩ := Option.bind_eq_some_iff.1 h
    refine w_join gC (fun s H => y8 = LR.next () ∧ s = [u, u, u, u, u, u, u, u, u, u, u, u, u, u, u, u, u, u, u, u, u, u, u, u, u, u] ∧ Own H (F)) (fun K10 hK10 => ?_) (fun s H hq => ?_)
    · refine w_blk fun K11 hK11 => ?_
      refine w_loop gC hw9 (fun x s H => s = [.fz (a0.map AV.bool), .fz (a1.map AV.bool), u, u, u, u, u, u, u, u, u, u, .int .i64 (a0.length : Int), .int .i64 x, u, u, u, u, u, u, u, u, u, u, u, u] ∧ Own H (F)) ⟨rfl, hS⟩ (fun x7 y14 s H h hd13 hi K12 hK12 => ?_)
      skip
      try dsimp only at hi
      obtain ⟨rfl, hS⟩ := hi
      simp only [laws_sameBools_l0] at h
      refine w_seq fun K16 hK16 => ?_
      refine w_reg gC ?_
      try simp only [W, EE, Nat.reduceAdd]
      refine seq_n hK16 ?_
      refine w_seq fun K17 hK17 => ?_
      refine w_if ?_
      simp only [W]
      refine w_cnd h (fun hc h => ?_) (fun hc h => ?_)
      · refine w_skip ?_
        refine seq_n hK17 ?_
        refine w_seq fun K18 hK18 => ?_
        refine w_blk fun K19 hK19 => ?_
        refine w_seq fun K20 hK20 => ?_
        refine w_reg gC ?_
        try simp only [W, Nat.reduceAdd]
        refine seq_n hK20 ?_
        refine w_seq fun K21 hK21 => ?_
        refine w_draw0 gC (by kernel_rfl) ?_
        try simp only [W, EE, Nat.reduceAdd]
        refine w_fz rfl rfl rfl (fun _ => rfl) h fun b22 hb22 h => ?_
        try simp only [W, EE]
        refine w_fz rfl rfl rfl (fun _ => rfl) h fun b23 hb23 h => ?_
        try simp only [W, EE]
        rw [b_bneq _ _ _ _ (h := rfl) rfl, resV_s]
        try simp only [W]
        refine seq_n hK21 ?_
        refine w_if ?_
        simp only [W]
        refine w_cnd h (fun hc h => ?_) (fun hc h => ?_)
        · refine w_seq fun K24 hK24 => ?_
          refine w_reg gC ?_
          try simp only [W, Nat.reduceAdd]
          refine seq_n hK24 ?_
          refine w_ret ?_
          refine blk_r hK19 ?_
          refine seq_r hK18 ?_
          try obtain rfl := Option.some.inj h
          obtain rfl := hd13 _ rfl
          have h : (some (LR.done false) : Option (LR Unit (Bool))) = some (LR.done false) := rfl
          refine lp_r hK12 ?_
          refine blk_r hK11 ?_
          try obtain rfl := Option.some.inj h
          obtain rfl := Option.some.inj g15
          have h : (some false : Option (Bool)) = some false := rfl
          refine cut_r hK10 ?_
          refine seq_r hK5 ?_
          refine fin_r1 hK0 rfl ?_
          try obtain rfl := Option.some.inj h
          exact hP _ hS
        · refine w_skip ?_
          refine blk_n0 hK19 ?_
          refine seq_n hK18 ?_
          refine w_reg gC ?_
          try simp only [W, EE, Nat.reduceAdd]
          exact lp_n hK12 h ⟨rfl, hS⟩
      · refine w_exit ?_
        refine seq_x hK17 ?_
        try obtain rfl := Option.some.inj h
        obtain rfl := hd13 _ rfl
        have h : (some (LR.next ()) : Option (LR Unit (Bool))) = some (LR.next ()) := rfl
        refine lp_x hK12 ?_
        refine blk_e hK11 ?_
        exact cut_n hK10 ⟨(Option.some.inj h).symm, rfl, hS⟩
    · obtain ⟨rfl, rfl, hS⟩ := hq
      replace h := g15
      try dsimp only at h
      refine seq_n hK5 ?_
      refine w_seq fun K31 hK31 => ?_
      refine w_reg gC ?_
      try simp only [W, Nat.reduceAdd]
      refine seq_n hK31 ?_
      refine w_ret ?_
      refine fin_r1 hK0 rfl ?_
      try obtain rfl := Option.some.inj h
      exact hP _ hS
theorem laws_sameHellos_w {a0 : List Hello} {a1 : List Hello} {r : (Bool)} (h : laws_sameHellos a0 a1 = some r) {F : List It} {H : Heap} (hS : Own H (F)) {P : AV → Heap → Prop} (hP : ∀ H', Own H' (F) → P (.bool r) H') : ACall C 158 [.fz (a0.map e_Hello), .fz (a1.map e_Hello)] H P := by
  refine acall_of gC (res := [.tmp 4]) (n := 26) rfl rfl rfl rfl fun K0 hK0 => ?_
  simp only [W, Nat.reduceSub, Nat.reduceAdd, List.replicate]
  unfold laws_sameHellos at h
  refine w_seq fun K1 hK1 => ?_
  refine w_reg gC ?_
  try simp only [W, Nat.reduceAdd]
  refine seq_n hK1 ?_
  refine w_seq fun K2 hK2 => ?_
  refine w_seq fun K3 hK3 => ?_
  refine w_reg gC ?_
  try simp only [W, EE, Nat.reduceAdd]
  refine seq_n hK3 ?_
  refine w_if ?_
  simp only [W]
  refine w_cnd h (fun hc h => ?_) (fun hc h => ?_)
  · refine w_seq fun K4 hK4 => ?_
    refine w_reg gC ?_
    try simp only [W, Nat.reduceAdd]
    refine seq_n hK4 ?_
    refine w_ret ?_
    refine seq_r hK2 ?_
    refine fin_r1 hK0 rfl ?_
    try obtain rfl := Option.some.inj h
    exact hP _ hS
  · refine w_skip ?_
    refine seq_n hK2 ?_
    refine w_seq fun K5 hK5 => ?_
    refine w_seq fun K6 hK6 => ?_
    refine w_reg gC ?_
    try simp only [W, EE, Nat.reduceAdd]
    refine seq_n hK6 ?_
    obtain ⟨y8, hw9, g15⟩ := Option.bind_eq_some_iff.1 h
    refine w_join gC (fun s H => y8 = LR.next () ∧ s = [u, u, u, u, u, u, u, u, u, u, u, u, u, u, u, u, u, u, u, u, u, u, u, u, u, u] ∧ Own H (F)) (fun K10 hK10 => ?_) (fun s H hq => ?_)
    · refine w_blk fun K11 hK11 => ?_
      refine w_loop gC hw9 (fun x s H => s = [.fz (a0.map e_Hello), .fz (a1.map e_Hello), u, u, u, u, u, u, u, u, u, u, .int .i64 (a0.length : Int), .int .i64 x, u, u, u, u, u, u, u, u, u, u, u, u] ∧ Own H (F)) ⟨rfl, hS⟩ (fun x7 y14 s H h hd13 hi K12 hK12 => ?_)
      skip
      try dsimp only at hi
      obtain ⟨rfl, hS⟩ := hi
      simp only [laws_sameHellos_l0] at h
      refine w_seq fun K16 hK16 => ?_
      refine w_reg gC ?_
      try simp only [W, EE, Nat.reduceAdd]
      refine seq_n hK16 ?_
      refine w_seq fun K17 hK17 => ?_
      refine w_if ?_
      simp only [W]
      refine w_cnd h (fun hc h => ?_) (fun hc h => ?_)
      · refine w_skip ?_
        refine seq_n hK17 ?_
        refine w_seq fun K18 hK18 => ?_
        refine w_blk fun K19 hK19 => ?_
        refine w_seq fun K20 hK20 => ?_
        refine w_reg gC ?_
        try simp only [W, Nat.reduceAdd]
        refine seq_n hK20 ?_
        refine w_seq fun K21 hK21 => ?_
        refine w_draw0 gC (by kernel_rfl) ?_
        try simp only [W, EE, Nat.reduceAdd]
        refine w_fz rfl rfl rfl (fun _ => rfl) h fun b22 hb22 h => ?_
        try simp only [W, EE, EN, reduceIte, Nat.reduceAdd, Nat.reduceLeDiff]
        refine w_fz rfl rfl rfl (fun _ => rfl) h fun b23 hb23 h => ?_
        try simp only [W, EE, EN, reduceIte, Nat.reduceAdd, Nat.reduceLeDiff]
        refine seq_n hK21 ?_
        refine w_if ?_
        simp only [W]
        refine w_cnd h (fun hc h => ?_) (fun hc h => ?_)
        · refine w_seq fun K24 hK24 => ?_
          refine w_reg gC ?_
          try simp only [W, Nat.reduceAdd]
          refine seq_n hK24 ?_
          refine w_ret ?_
          refine blk_r hK19 ?_
          refine seq_r hK18 ?_
          try obtain rfl := Option.some.inj h
          obtain rfl := hd13 _ rfl
          have h : (some (LR.done false) : Option (LR Unit (Bool))) = some (LR.done false) := rfl
          refine lp_r hK12 ?_
          refine blk_r hK11 ?_
          try obtain rfl := Option.some.inj h
          obtain rfl := Option.some.inj g15
          have h : (some false : Option (Bool)) = some false := rfl
          refine cut_r hK10 ?_
          refine seq_r hK5 ?_
          refine fin_r1 hK0 rfl ?_
          try obtain rfl := Option.some.inj h
          exact hP _ hS
        · refine w_skip ?_
          refine blk_n0 hK19 ?_
          refine seq_n hK18 ?_
          refine w_reg gC ?_
          try simp only [W, EE, Nat.reduceAdd]
          exact lp_n hK12 h ⟨rfl, hS⟩
      · refine w_exit ?_
        refine seq_x hK17 ?_
        try obtain rfl := Option.some.inj h
        obtain rfl := hd13 _ rfl
        have h : (some (LR.next ()) : Option (LR Unit (Bool))) = some (LR.next ()) := rfl
        refine lp_x hK12 ?_
        refine blk_e hK11 ?_
        exact cut_n hK10 ⟨(Option.some.inj h).symm, rfl, hS⟩
    · obtain ⟨rfl, rfl, hS⟩ := hq
      replace h := g15
      try dsimp only at h
      refine seq_n hK5 ?_
      refine w_seq fun K31 hK31 => ?_
      refine w_reg gC ?_
      try simp only [W, Nat.reduceAdd]
      refine seq_n hK31 ?_
      refine w_ret ?_
      refine fin_r1 hK0 rfl ?_
      try obtain rfl := Option.some.inj h
      exact hP _ hS
theorem laws_sameGreets_w {a0 : Greet} {a1 : Greet} {r : (Bool)} (h : laws_sameGreets a0 a1 = some r) {F : List It} {H : Heap} (hS : Own H (F)) {P : AV → Heap → Prop} (hP : ∀ H', Own H' (F) → P (.bool r) H') : ACall C 59 [.agg [.int .i64 a0.StateA, .int .i64 a0.StateB, .int .i64 a0.X, .int .i64 a0.Y, .int .i64 a0.OfX, .int .i64 a0.OfY, .int .i64 a0.LastX, .int .i64 a0.LastY, .fz (a0.Line.map e_Hello), .fz (a0.OpenedA.map e_Hello), .fz (a0.OpenedB.map e_Hello)], .agg [.int .i64 a1.StateA, .int .i64 a1.StateB, .int .i64 a1.X, .int .i64 a1.Y, .int .i64 a1.OfX, .int .i64 a1.OfY, .int .i64 a1.LastX, .int .i64 a1.LastY, .fz (a1.Line.map e_Hello), .fz (a1.OpenedA.map e_Hello), .fz (a1.OpenedB.map e_Hello)]] H P := by
  refine acall_of gC (res := [.tmp 4]) (n := 80) rfl rfl rfl rfl fun K0 hK0 => ?_
  simp only [W, Nat.reduceSub, Nat.reduceAdd, List.replicate]
  unfold laws_sameGreets at h
  refine w_seq fun K1 hK1 => ?_
  refine w_reg gC ?_
  try simp only [W, Nat.reduceAdd]
  refine w_box hS rfl rfl rfl rfl fun ip2 wp2 H hS => ?_
  try simp only [W]
  refine w_box hS rfl rfl rfl rfl fun ip4 wp4 H hS => ?_
  try simp only [W]
  refine seq_n hK1 ?_
  refine w_seq fun K6 hK6 => ?_
  refine w_reg gC ?_
  try simp only [W, EE, Nat.reduceAdd, Nat.reduceBEq, hS.var 1 rfl, hS.var 0 rfl, List.append_eq]
  refine w_grdT h (fun hc h => ?_) (fun hc h => ?_)
  · try simp only [W, EE, reduceIte, Nat.reduceAdd, Nat.reduceBEq, hS.var 1 rfl, hS.var 0 rfl, hc]
    refine w_grdT h (fun hc h => ?_) (fun hc h => ?_)
    · try simp only [W, EE, reduceIte, Nat.reduceAdd, Nat.reduceBEq, hS.var 1 rfl, hS.var 0 rfl, hc]
      refine w_grdT h (fun hc h => ?_) (fun hc h => ?_)
      · try simp only [W, EE, reduceIte, Nat.reduceAdd, Nat.reduceBEq, hS.var 1 rfl, hS.var 0 rfl, hc]
        refine w_grdT h (fun hc h => ?_) (fun hc h => ?_)
        · try simp only [W, EE, reduceIte, Nat.reduceAdd, Nat.reduceBEq, hS.var 1 rfl, hS.var 0 rfl, hc]
          refine w_grdT h (fun hc h => ?_) (fun hc h => ?_)
          · try simp only [W, EE, reduceIte, Nat.reduceAdd, Nat.reduceBEq, hS.var 1 rfl, hS.var 0 rfl, hc]
            refine w_grdT h (fun hc h => ?_) (fun hc h => ?_)
            · try simp only [W, EE, reduceIte, Nat.reduceAdd, Nat.reduceBEq, hS.var 1 rfl, hS.var 0 rfl, hc]
              refine w_grdT h (fun hc h => ?_) (fun hc h => ?_)
              · try simp only [W, EE, reduceIte, Nat.reduceAdd, Nat.reduceBEq, hS.var 1 rfl, hS.var 0 rfl, hc]
                refine w_grdT h (fun hc h => ?_) (fun hc h => ?_)
                · try simp only [W, EE, Nat.reduceAdd, Nat.reduceBEq, hS.var 1 rfl, hS.var 0 rfl, hc]
                  refine w_call h fun b7 hb7 h => ?_
                  refine laws_sameHellos_w hb7 hS fun H hS => ?_
                  try simp only [W, reduceIte]
                  refine w_grdT h (fun hc h => ?_) (fun hc h => ?_)
                  · try simp only [W, EE, Nat.reduceAdd, Nat.reduceBEq, hS.var 1 rfl, hS.var 0 rfl, hc]
                    refine w_call h fun b8 hb8 h => ?_
                    refine laws_sameHellos_w hb8 hS fun H hS => ?_
                    try simp only [W, reduceIte]
                    refine w_grdT h (fun hc h => ?_) (fun hc h => ?_)
                    · try simp only [W, EE, Nat.reduceAdd, Nat.reduceBEq, hS.var 1 rfl, hS.var 0 rfl, hc]
                      refine w_call h fun b9 hb9 h => ?_
                      refine laws_sameHellos_w hb9 hS fun H hS => ?_
                      try simp only [W, reduceIte]
                      refine seq_n hK6 ?_
                      refine w_ret ?_
                      refine fin_r1 hK0 rfl ?_
                      try obtain rfl := Option.some.inj h
                      exact hP _ (hS.sel 2 [] (by decide))
                    · try simp only [W, hc]
                      refine seq_n hK6 ?_
                      refine w_ret ?_
                      refine fin_r1 hK0 rfl ?_
                      try obtain rfl := Option.some.inj h
                      exact hP _ (hS.sel 2 [] (by decide))
                  · try simp only [W, hc]
                    refine seq_n hK6 ?_
                    refine w_ret ?_
                    refine fin_r1 hK0 rfl ?_
                    try obtain rfl := Option.some.inj h
                    exact hP _ (hS.sel 2 [] (by decide))
                · try simp only [W, hc]
                  refine seq_n hK6 ?_
                  refine w_ret ?_
                  refine fin_r1 hK0 rfl ?_
                  try obtain rfl := Option.some.inj h
                  exact hP _ (hS.sel 2 [] (by decide))
              · try simp only [W, hc]
                refine seq_n hK6 ?_
                refine w_ret ?_
                refine fin_r1 hK0 rfl ?_
                try obtain rfl := Option.some.inj h
                exact hP _ (hS.sel 2 [] (by decide))
            · try simp only [W, hc]
              refine seq_n hK6 ?_
              refine w_ret ?_
              refine fin_r1 hK0 rfl ?_
              try obtain rfl := Option.some.inj h
              exact hP _ (hS.sel 2 [] (by decide))
          · try simp only [W, hc]
            refine seq_n hK6 ?_
            refine w_ret ?_
            refine fin_r1 hK0 rfl ?_
            try obtain rfl := Option.some.inj h
            exact hP _ (hS.sel 2 [] (by decide))
        · try simp only [W, hc]
          refine seq_n hK6 ?_
          refine w_ret ?_
          refine fin_r1 hK0 rfl ?_
          try obtain rfl := Option.some.inj h
          exact hP _ (hS.sel 2 [] (by decide))
      · try simp only [W, hc]
        refine seq_n hK6 ?_
        refine w_ret ?_
        refine fin_r1 hK0 rfl ?_
        try obtain rfl := Option.some.inj h
        exact hP _ (hS.sel 2 [] (by decide))
    · try simp only [W, hc]
      refine seq_n hK6 ?_
      refine w_ret ?_
      refine fin_r1 hK0 rfl ?_
      try obtain rfl := Option.some.inj h
      exact hP _ (hS.sel 2 [] (by decide))
  · try simp only [W, hc]
    refine seq_n hK6 ?_
    refine w_ret ?_
    refine fin_r1 hK0 rfl ?_
    try obtain rfl := Option.some.inj h
    exact hP _ (hS.sel 2 [] (by decide))
theorem impl_Greet_isGiven_w {a0 : Greet} {a1 : Int} {a2 : Int} {i0 : Nat} {w0 : Nat} {r : (Bool)} (h : impl_Greet_isGiven a0 a1 a2 = some r) {F : List It} {H : Heap} (hm0 : ⟨.ptr i0 w0 0 0, 11, [.agg [.int .i64 a0.StateA, .int .i64 a0.StateB, .int .i64 a0.X, .int .i64 a0.Y, .int .i64 a0.OfX, .int .i64 a0.OfY, .int .i64 a0.LastX, .int .i64 a0.LastY, .fz (a0.Line.map e_Hello), .fz (a0.OpenedA.map e_Hello), .fz (a0.OpenedB.map e_Hello)]]⟩ ∈ F) (hS : Own H (F)) {P : AV → Heap → Prop} (hP : ∀ H', Own H' (F) → P (.bool r) H') : ACall C 159 [.ptr i0 w0 0 0, .int .i64 a1, .int .i64 a2] H P := by
  refine acall_of gC (res := [.tmp 6]) (n := 21) rfl rfl rfl rfl fun K0 hK0 => ?_
  simp only [W, Nat.reduceSub, Nat.reduceAdd, List.replicate]
  unfold impl_Greet_isGiven at h
  refine w_seq fun K1 hK1 => ?_
  refine w_reg gC ?_
  try simp only [W, Nat.reduceAdd]
  refine seq_n hK1 ?_
  refine w_seq fun K2 hK2 => ?_
  refine w_reg gC ?_
  try simp only [W, EE, Nat.reduceAdd, Nat.reduceBEq, hS.varm hm0]
  refine w_call h fun b3 hb3 h => ?_
  refine impl_in_w hb3 hS fun H hS => ?_
  try simp only [W]
  refine w_grdT h (fun hc h => ?_) (fun hc h => ?_)
  · try simp only [W, EE, Nat.reduceAdd, Nat.reduceBEq, hS.varm hm0, hc]
    refine w_call h fun b4 hb4 h => ?_
    refine impl_in_w hb4 hS fun H hS => ?_
    try simp only [W, reduceIte]
    refine seq_n hK2 ?_
    refine w_ret ?_
    refine fin_r1 hK0 rfl ?_
    try obtain rfl := Option.some.inj h
    exact hP _ hS
  · try simp only [W, hc]
    refine seq_n hK2 ?_
    refine w_ret ?_
    refine fin_r1 hK0 rfl ?_
    try obtain rfl := Option.some.inj h
    exact hP _ hS
theorem slices_Grow_impl_Hello_nil_w {a1 : Int} {r : (List Hello)} (h : slices_Grow_impl_Hello_nil a1 = some r) {F : List It} {H : Heap} (hS : Own H (F)) {P : AV → Heap → Prop} (hP : ∀ v25 : AV, isSl v25 → ∀ H', Own H' (⟨v25, 3, r.map e_Hello⟩::F) → P (v25) H') : ACall C 242 [.nil, .int .i64 a1] H P := by
  refine acall_of gC (res := [.tmp 4]) (n := 27) rfl rfl rfl rfl fun K0 hK0 => ?_
  simp only [W, Nat.reduceSub, Nat.reduceAdd, List.replicate]
  unfold slices_Grow_impl_Hello_nil at h
  refine w_seq fun K1 hK1 => ?_
  refine w_reg gC ?_
  try simp only [W, Nat.reduceAdd]
  refine seq_n hK1 ?_
  refine w_seq fun K2 hK2 => ?_
  refine w_seq fun K3 hK3 => ?_
  refine w_reg gC ?_
  try simp only [W, EE, Nat.reduceAdd]
  refine seq_n hK3 ?_
  obtain ⟨y4, h, g5⟩ := Option.bind_eq_some_iff.1 h
  refine w_join gC (fun s H => y4 = () ∧ s = [.nil, .int .i64 a1, u, u, u, u, u, u, u, u, u, u, u, u, u, u, u, u, u, u, u, u, u, u, u, u, u] ∧ Own H (F)) (fun K6 hK6 => ?_) (fun s H hq => ?_)
  · refine w_seq fun K7 hK7 => ?_
    refine w_if ?_
    simp only [W]
    refine w_cnd h (fun hc h => ?_) (fun hc h => ?_)
    · refine w_reg gC ?_
      try simp only [W, Nat.reduceAdd]
      exact absurd h (by simp)
    · refine w_skip ?_
      refine seq_n hK7 ?_
      refine w_kill ?_
      exact cut_n hK6 ⟨(Option.some.inj h).symm, rfl, hS⟩
  · obtain ⟨rfl, rfl, hS⟩ := hq
    replace h := g5
    try dsimp only at h
    refine seq_n hK2 ?_
    refine w_seq fun K8 hK8 => ?_
    refine w_seq fun K9 hK9 => ?_
    refine w_reg gC ?_
    try simp only [W, Nat.reduceAdd]
    refine w_capN rfl rfl rfl ?_
    try simp only [W, EE]
    refine seq_n hK9 ?_
    refine w_seq fun K10 hK10 => ?_
    refine w_reg gC ?_
    try simp only [W, EE, Nat.reduceAdd]
    refine seq_n hK10 ?_
    obtain ⟨y14, h, g15⟩ := Option.bind_eq_some_iff.1 h
    refine w_join gC (fun s H => ∃ x11 : List Hello, y14 = (x11) ∧ ∃ v12 : AV, isSl v12 ∧ s = [v12, u, u, u, u, u, u, u, u, u, u, u, u, u, u, u, u, u, u, u, u, u, u, u, u, u, u] ∧ Own H (⟨v12, 3, x11.map e_Hello⟩::F)) (fun K16 hK16 => ?_) (fun s H hq => ?_)
    · refine w_seq fun K17 hK17 => ?_
      refine w_if ?_
      simp only [W]
      refine w_cnd h (fun hc h => ?_) (fun hc h => ?_)
      · refine w_reg gC ?_
        try simp only [W, Nat.reduceAdd]
        refine w_capN rfl rfl rfl ?_
        try simp only [W, EE]
        refine w_slN rfl rfl rfl rfl rfl ?_
        try simp only [W, EE]
        refine w_appZ (c := e_Hello) hS rfl rfl rfl rfl rfl rfl h fun v18 H x20 qv18 hm h hS => ?_
        try simp only [W, EE]
        refine w_slO 0 hS rfl qv18 rfl rfl rfl h fun v22 x21 qv22 hx21 h hS => ?_
        try simp only [W]
        refine seq_n hK17 ?_
        refine w_kill ?_
        exact cut_n hK16 ⟨_, (Option.some.inj h).symm, _, qv22, rfl, hS⟩
      · refine w_skip ?_
        refine seq_n hK17 ?_
        refine w_kill ?_
        exact cut_n hK16 ⟨_, (Option.some.inj h).symm, _, isSl_nil, rfl, (hS.nil_ 3)⟩
    · obtain ⟨x11, ey, v12, qv12, rfl, hS⟩ := hq; obtain rfl := ey.symm
      replace h := g15
      try dsimp only at h
      refine seq_n hK8 ?_
      refine w_seq fun K24 hK24 => ?_
      refine w_reg gC ?_
      try simp only [W, Nat.reduceAdd]
      refine seq_n hK24 ?_
      refine w_ret ?_
      refine fin_r1 hK0 rfl ?_
      try obtain rfl := Option.some.inj h
      exact hP _ qv12 _ hS
theorem slices_Concat_impl_Hello_w {a0 : List (List Hello)} {r : (List Hello)} (h : slices_Concat_impl_Hello a0 = some r) {F : List It} {H : Heap} (hS : Own H (F)) {P : AV → Heap → Prop} (hP : ∀ v66 : AV, isSl v66 → ∀ H', Own H' (⟨v66, 3, r.map e_Hello⟩::F) → P (v66) H') : ACall C 160 [.fz (a0.map (fzl e_Hello))] H P := by
  refine acall_of gC (res := [.tmp 2]) (n := 36) rfl rfl rfl rfl fun K0 hK0 => ?_
  simp only [W, Nat.reduceSub, Nat.reduceAdd, List.replicate]
  unfold slices_Concat_impl_Hello at h
  refine w_seq fun K1 hK1 => ?_
  refine w_reg gC ?_
  try simp only [W, Nat.reduceAdd]
  refine seq_n hK1 ?_
  refine w_seq fun K2 hK2 => ?_
  refine w_reg gC ?_
  try simp only [W, Nat.reduceAdd]
  refine seq_n hK2 ?_
  refine w_seq fun K3 hK3 => ?_
  refine w_seq fun K4 hK4 => ?_
  refine w_reg gC ?_
  try simp only [W, EE, Nat.reduceAdd]
  refine seq_n hK4 ?_
  obtain ⟨y8, hw9, g15⟩ := Option.bind_eq_some_iff.1 h
  refine w_join gC (fun s H => ∃ x7 : Int, y8 = (x7) ∧ s = [.fz (a0.map (fzl e_Hello)), u, u, .int .i64 x7, u, u, u, u, u, u, u, u, u, u, u, u, u, u, u, u, u, u, u, u, u, u, u, u, u, u, u, u, u, u, u, u] ∧ Own H (F)) (fun K10 hK10 => ?_) (fun s H hq => ?_)
  · refine w_blk fun K11 hK11 => ?_
    refine w_loop gC hw9 (fun x s H => match x with | (x5, x6) => s = [.fz (a0.map (fzl e_Hello)), u, u, .int .i64 x5, u, u, u, u, u, .fz (a0.map (fzl e_Hello)), .int .i64 (a0.length : Int), .int .i64 x6, u, u, u, u, u, u, u, u, u, u, u, u, u, u, u, u, u, u, u, u, u, u, u, u] ∧ Own H (F)) ⟨rfl, hS⟩ (fun x y14 s H h hd13 hi K12 hK12 => ?_)
    obtain ⟨x5, x6⟩ := x
    try dsimp only at hi
    obtain ⟨rfl, hS⟩ := hi
    simp only [slices_Concat_impl_Hello_l0] at h
    refine w_seq fun K16 hK16 => ?_
    refine w_reg gC ?_
    try simp only [W, EE, Nat.reduceAdd]
    refine seq_n hK16 ?_
    refine w_seq fun K17 hK17 => ?_
    refine w_if ?_
    simp only [W]
    refine w_cnd h (fun hc h => ?_) (fun hc h => ?_)
    · refine w_skip ?_
      refine seq_n hK17 ?_
      refine w_seq fun K18 hK18 => ?_
      obtain ⟨y21, h, g22⟩ := Option.bind_eq_some_iff.1 h
      refine w_join gC (fun s H => ∃ x20 : Int, y21 = (x20) ∧ s = [.fz (a0.map (fzl e_Hello)), u, u, .int .i64 x20, u, u, u, u, u, .fz (a0.map (fzl e_Hello)), .int .i64 (a0.length : Int), .int .i64 x6, u, u, u, u, u, u, u, u, u, u, u, u, u, u, u, u, u, u, u, u, u, u, u, u] ∧ Own H (F)) (fun K23 hK23 => ?_) (fun s H hq => ?_)
      · refine w_blk fun K19 hK19 => ?_
        refine w_seq fun K24 hK24 => ?_
        refine w_reg gC ?_
        try simp only [W, EE, Nat.reduceAdd]
        refine w_fz rfl rfl rfl (fun _ => rfl) h fun b25 hb25 h => ?_
        try simp only [W, EE, EN]
        refine seq_n hK24 ?_
        refine w_seq fun K26 hK26 => ?_
        refine w_reg gC ?_
        try simp only [W, EE, Nat.reduceAdd]
        refine seq_n hK26 ?_
        refine w_seq fun K27 hK27 => ?_
        refine w_reg gC ?_
        try simp only [W, EE, Nat.reduceAdd]
        refine seq_n hK27 ?_
        obtain ⟨y28, h, g29⟩ := Option.bind_eq_some_iff.1 h
        refine w_join gC (fun s H => y28 = () ∧ s = [.fz (a0.map (fzl e_Hello)), u, u, .int .i64 (IntKind.i64.wrap (x5 + (b25.length : Int))), u, u, u, u, u, .fz (a0.map (fzl e_Hello)), .int .i64 (a0.length : Int), .int .i64 x6, u, u, u, u, u, u, u, u, u, u, u, u, u, u, u, u, u, u, u, u, u, u, u, u] ∧ Own H (F)) (fun K30 hK30 => ?_) (fun s H hq => ?_)
        · refine w_seq fun K31 hK31 => ?_
          refine w_if ?_
          simp only [W]
          refine w_cnd h (fun hc h => ?_) (fun hc h => ?_)
          · refine w_reg gC ?_
            try simp only [W, Nat.reduceAdd]
            exact absurd h (by simp)
          · refine w_skip ?_
            refine seq_n hK31 ?_
            refine w_kill ?_
            exact cut_n hK30 ⟨(Option.some.inj h).symm, rfl, hS⟩
        · obtain ⟨rfl, rfl, hS⟩ := hq
          replace h := g29
          try dsimp only at h
          refine blk_n hK19 ?_
          exact cut_n hK23 ⟨_, (Option.some.inj h).symm, rfl, hS⟩
      · obtain ⟨x20, ey, rfl, hS⟩ := hq; obtain rfl := ey.symm
        replace h := g22
        try dsimp only at h
        refine seq_n hK18 ?_
        refine w_reg gC ?_
        try simp only [W, EE, Nat.reduceAdd]
        exact lp_n hK12 h ⟨rfl, hS⟩
    · refine w_exit ?_
      refine seq_x hK17 ?_
      try obtain rfl := Option.some.inj h
      obtain rfl := hd13 _ rfl
      have h : (some (x5) : Option (Int)) = some (x5) := rfl
      refine lp_x hK12 ?_
      refine blk_e hK11 ?_
      exact cut_n hK10 ⟨_, (Option.some.inj h).symm, rfl, hS⟩
  · obtain ⟨x7, ey, rfl, hS⟩ := hq; obtain rfl := ey.symm
    replace h := g15
    try dsimp only at h
    refine seq_n hK3 ?_
    refine w_seq fun K34 hK34 => ?_
    refine w_reg gC ?_
    try simp only [W, Nat.reduceAdd]
    refine w_call h fun b35 hb35 h => ?_
    refine slices_Grow_impl_Hello_nil_w hb35 hS fun v36 qv36 H hS => ?_
    try simp only [W]
    refine seq_n hK34 ?_
    refine w_seq fun K38 hK38 => ?_
    refine w_seq fun K39 hK39 => ?_
    refine w_reg gC ?_
    try simp only [W, EE, Nat.reduceAdd]
    refine seq_n hK39 ?_
    obtain ⟨y46, hw47, g53⟩ := Option.bind_eq_some_iff.1 h
    refine w_join gC (fun s H => ∃ x44 : List Hello, y46 = (x44) ∧ ∃ v45 : AV, isSl v45 ∧ s = [u, u, u, u, u, u, v45, u, u, u, u, u, u, u, u, u, u, u, u, u, u, u, u, u, u, u, u, u, u, u, u, u, u, u, u, u] ∧ Own H (⟨v45, 3, x44.map e_Hello⟩::F)) (fun K48 hK48 => ?_) (fun s H hq => ?_)
    · refine w_blk fun K49 hK49 => ?_
      refine w_loop gC hw47 (fun x s H => match x with | (x40, x43) => ∃ v41 : AV, isSl v41 ∧ s = [u, u, u, u, u, u, v41, u, u, u, u, u, u, u, u, u, u, u, u, u, u, u, u, u, u, .fz (a0.map (fzl e_Hello)), .int .i64 (a0.length : Int), .int .i64 x43, u, u, u, u, u, u, u, u] ∧ Own H (⟨v41, 3, x40.map e_Hello⟩::F)) ⟨_, qv36, rfl, hS⟩ (fun x y52 s H h hd51 hi K50 hK50 => ?_)
      obtain ⟨x40, x43⟩ := x
      try dsimp only at hi
      obtain ⟨v41, qv41, rfl, hS⟩ := hi
      simp only [slices_Concat_impl_Hello_l1] at h
      refine w_seq fun K54 hK54 => ?_
      refine w_reg gC ?_
      try simp only [W, EE, Nat.reduceAdd]
      refine seq_n hK54 ?_
      refine w_seq fun K55 hK55 => ?_
      refine w_if ?_
      simp only [W]
      refine w_cnd h (fun hc h => ?_) (fun hc h => ?_)
      · refine w_skip ?_
        refine seq_n hK55 ?_
        refine w_seq fun K56 hK56 => ?_
        refine w_blk fun K57 hK57 => ?_
        refine w_seq fun K58 hK58 => ?_
        refine w_reg gC ?_
        try simp only [W, EE, Nat.reduceAdd]
        refine w_fz rfl rfl rfl (fun _ => rfl) h fun b59 hb59 h => ?_
        try simp only [W, EE, EN]
        refine seq_n hK58 ?_
        refine w_reg gC ?_
        try simp only [W, EE, Nat.reduceAdd]
        refine w_appV (l := x40) (c := e_Hello) 0 hS rfl qv41 rfl rfl rfl rfl (fun _ => rfl) rfl h fun v61 H x60 qv61 hm h hS => ?_
        try simp only [W]
        refine blk_n0 hK57 ?_
        refine seq_n hK56 ?_
        refine w_reg gC ?_
        try simp only [W, EE, Nat.reduceAdd]
        exact lp_n hK50 h ⟨_, qv61, rfl, hS⟩
      · refine w_exit ?_
        refine seq_x hK55 ?_
        try obtain rfl := Option.some.inj h
        obtain rfl := hd51 _ rfl
        have h : (some (x40) : Option ((List Hello))) = some (x40) := rfl
        refine lp_x hK50 ?_
        refine blk_e hK49 ?_
        exact cut_n hK48 ⟨_, (Option.some.inj h).symm, _, qv41, rfl, hS⟩
    · obtain ⟨x44, ey, v45, qv45, rfl, hS⟩ := hq; obtain rfl := ey.symm
      replace h := g53
      try dsimp only at h
      refine seq_n hK38 ?_
      refine w_seq fun K65 hK65 => ?_
      refine w_reg gC ?_
      try simp only [W, Nat.reduceAdd]
      refine seq_n hK65 ?_
      refine w_ret ?_
      refine fin_r1 hK0 rfl ?_
      try obtain rfl := Option.some.inj h
      exact hP _ qv45 _ hS
theorem impl_Greet_isHello_w {a0 : Greet} {a1 : Hello} {i0 : Nat} {w0 : Nat} {r : (Bool)} (h : impl_Greet_isHello a0 a1 = some r) {F : List It} {H : Heap} (hm0 : ⟨.ptr i0 w0 0 0, 11, [.agg [.int .i64 a0.StateA, .int .i64 a0.StateB, .int .i64 a0.X, .int .i64 a0.Y, .int .i64 a0.OfX, .int .i64 a0.OfY, .int .i64 a0.LastX, .int .i64 a0.LastY, .fz (a0.Line.map e_Hello), .fz (a0.OpenedA.map e_Hello), .fz (a0.OpenedB.map e_Hello)]]⟩ ∈ F) (hS : Own H (F)) {P : AV → Heap → Prop} (hP : ∀ H', Own H' (F) → P (.bool r) H') : ACall C 163 [.ptr i0 w0 0 0, .agg [.int .i64 a1.Kind, .int .i64 a1.X, .int .i64 a1.Y]] H P := by
  refine acall_of gC (res := [.tmp 4]) (n := 36) rfl rfl rfl rfl fun K0 hK0 => ?_
  simp only [W, Nat.reduceSub, Nat.reduceAdd, List.replicate]
  unfold impl_Greet_isHello at h
  refine w_seq fun K1 hK1 => ?_
  refine w_reg gC ?_
  try simp only [W, Nat.reduceAdd]
  refine w_box hS rfl rfl rfl rfl fun ip2 wp2 H hS => ?_
  try simp only [W]
  refine seq_n hK1 ?_
  refine w_seq fun K4 hK4 => ?_
  refine w_seq fun K5 hK5 => ?_
  refine w_reg gC ?_
  try simp only [W, EE, Nat.reduceAdd, Nat.reduceBEq, hS.var 0 rfl]
  refine seq_n hK5 ?_
  refine w_if ?_
  simp only [W]
  refine w_cnd h (fun hc h => ?_) (fun hc h => ?_)
  · refine w_seq fun K6 hK6 => ?_
    refine w_draw0 gC (by kernel_rfl) ?_
    try simp only [W, EE, Nat.reduceAdd, Nat.reduceBEq, hS.varm (List.mem_cons_of_mem _ (hm0)), hS.var 0 rfl]
    refine w_callS (rsh := [[.sc]]) (ys := [.int .i64 a1.X, .int .i64 1, .int .i64 a0.LastX]) h rfl (by rfl) fun b7 hb7 h => ⟨.bool b7, impl_in_w hb7 (Own.nil _) fun H hS => TV_ok rfl (TV_p rfl (TV_n rfl)), ⟨rfl, rfl, fun _ => rfl⟩, ?_⟩
    try simp only [W]
    refine w_grdT h (fun hc h => ?_) (fun hc h => ?_)
    · try simp only [W, EE, reduceIte, Nat.reduceAdd, Nat.reduceBEq, hS.var 0 rfl, hc]
      refine seq_n hK6 ?_
      refine w_ret ?_
      refine seq_r hK4 ?_
      refine fin_r1 hK0 rfl ?_
      try obtain rfl := Option.some.inj h
      exact hP _ (hS.sel 1 [] (by decide))
    · try simp only [W, hc]
      refine seq_n hK6 ?_
      refine w_ret ?_
      refine seq_r hK4 ?_
      refine fin_r1 hK0 rfl ?_
      try obtain rfl := Option.some.inj h
      exact hP _ (hS.sel 1 [] (by decide))
  · refine w_skip ?_
    refine seq_n hK4 ?_
    refine w_seq fun K8 hK8 => ?_
    refine w_reg gC ?_
    try simp only [W, EE, Nat.reduceAdd, Nat.reduceBEq, hS.var 0 rfl]
    refine w_grdT h (fun hc h => ?_) (fun hc h => ?_)
    · try simp only [W, EE, Nat.reduceAdd, Nat.reduceBEq, hS.var 0 rfl, hc]
      refine w_call h fun b9 hb9 h => ?_
      refine impl_Greet_isGiven_w hb9 (List.mem_cons_of_mem _ (hm0)) hS fun H hS => ?_
      try simp only [W, reduceIte]
      refine seq_n hK8 ?_
      refine w_ret ?_
      refine fin_r1 hK0 rfl ?_
      try obtain rfl := Option.some.inj h
      exact hP _ (hS.sel 1 [] (by decide))
    · try simp only [W, EE, reduceIte, Nat.reduceAdd, Nat.reduceBEq, Bool.false_eq_true, hS.var 0 rfl, hc]
      refine w_grdT h (fun hc h => ?_) (fun hc h => ?_)
      · try simp only [W, EE, Nat.reduceAdd, Nat.reduceBEq, hS.var 0 rfl, hc]
        refine w_call h fun b10 hb10 h => ?_
        refine impl_Greet_isGiven_w hb10 (List.mem_cons_of_mem _ (hm0)) hS fun H hS => ?_
        try simp only [W, reduceIte]
        refine seq_n hK8 ?_
        refine w_ret ?_
        refine fin_r1 hK0 rfl ?_
        try obtain rfl := Option.some.inj h
        exact hP _ (hS.sel 1 [] (by decide))
      · try simp only [W, hc]
        refine seq_n hK8 ?_
        refine w_ret ?_
        refine fin_r1 hK0 rfl ?_
        try obtain rfl := Option.some.inj h
        exact hP _ (hS.sel 1 [] (by decide))
theorem impl_GoodGreet_1_w {a0 : Hello} {a1 : Greet} {i1 : Nat} {w1 : Nat} {r : (Bool)} (h : impl_GoodGreet_1 a0 a1 = some r) {F : List It} {H : Heap} (hm1 : ⟨.ptr i1 w1 0 0, 11, [.agg [.int .i64 a1.StateA, .int .i64 a1.StateB, .int .i64 a1.X, .int .i64 a1.Y, .int .i64 a1.OfX, .int .i64 a1.OfY, .int .i64 a1.LastX, .int .i64 a1.LastY, .fz (a1.Line.map e_Hello), .fz (a1.OpenedA.map e_Hello), .fz (a1.OpenedB.map e_Hello)]]⟩ ∈ F) (hS : Own H (F)) {P : AV → Heap → Prop} (hP : ∀ H', Own H' (F) → P (.bool r) H') : ACall C 162 [.agg [.int .i64 a0.Kind, .int .i64 a0.X, .int .i64 a0.Y], .ptr i1 w1 0 0] H P := by
  refine acall_of gC (res := [.tmp 3]) (n := 7) rfl rfl rfl rfl fun K0 hK0 => ?_
  simp only [W, Nat.reduceSub, Nat.reduceAdd, List.replicate]
  unfold impl_GoodGreet_1 at h
  refine w_seq fun K1 hK1 => ?_
  refine w_reg gC ?_
  try simp only [W, Nat.reduceAdd]
  refine w_box hS rfl rfl rfl rfl fun ip2 wp2 H hS => ?_
  try simp only [W]
  refine seq_n hK1 ?_
  refine w_seq fun K4 hK4 => ?_
  refine w_reg gC ?_
  try simp only [W, EE, reduceIte, Nat.reduceAdd, Nat.reduceLeDiff, hS.var 0 rfl]
  refine w_call h fun b5 hb5 h => ?_
  refine impl_Greet_isHello_w hb5 (List.mem_cons_of_mem _ (hm1)) hS fun H hS => ?_
  try simp only [W]
  refine seq_n hK4 ?_
  refine w_ret ?_
  refine fin_r1 hK0 rfl ?_
  try obtain rfl := Option.some.inj h
  exact hP _ (hS.sel 1 [] (by decide))
theorem slices_IndexFunc_impl_Hello_w {a0 : List Hello} {g1 : Hello → Option Bool} {f1 : FuncId} {c1 : List AV} {r : (Int)} (h : slices_IndexFunc_impl_Hello a0 g1 = some r) {F : List It} {H : Heap} (hg1 : ∀ {x0 : Hello} {r : Bool}, g1 x0 = some r → ∀ (L : List It) (n : Nat), L.drop n = F → ∀ (H : Heap), Own H L → ∀ (P : AV → Heap → Prop), (∀ H', Own H' L → P (.bool r) H') → ACall C f1 ([.agg [.int .i64 x0.Kind, .int .i64 x0.X, .int .i64 x0.Y]] ++ c1) H P) (hS : Own H (F)) {P : AV → Heap → Prop} (hP : ∀ H', Own H' (F) → P (.int .i64 r) H') : ACall C 243 [.fz (a0.map e_Hello), .fn f1 c1] H P := by
  refine acall_of gC (res := [.tmp 4]) (n := 19) rfl rfl rfl rfl fun K0 hK0 => ?_
  simp only [W, Nat.reduceSub, Nat.reduceAdd, List.replicate]
  unfold slices_IndexFunc_impl_Hello at h
  refine w_seq fun K1 hK1 => ?_
  refine w_reg gC ?_
  try simp only [W, Nat.reduceAdd]
  refine seq_n hK1 ?_
  refine w_seq fun K2 hK2 => ?_
  refine w_seq fun K3 hK3 => ?_
  refine w_reg gC ?_
  try simp only [W, EE, Nat.reduceAdd]
  refine seq_n hK3 ?_
  obtain ⟨y5, hw6, g12⟩ := Option.bind_eq_some_iff.1 h
  refine w_join gC (fun s H => y5 = LR.next () ∧ s = [u, u, u, u, u, u, u, u, u, u, u, u, u, u, u, u, u, u, u] ∧ Own H (F)) (fun K7 hK7 => ?_) (fun s H hq => ?_)
  · refine w_blk fun K8 hK8 => ?_
    refine w_loop gC hw6 (fun x s H => s = [.fz (a0.map e_Hello), .fn f1 c1, u, u, u, u, u, .int .i64 (a0.length : Int), .int .i64 x, u, u, u, u, u, u, u, u, u, u] ∧ Own H (F)) ⟨rfl, hS⟩ (fun x4 y11 s H h hd10 hi K9 hK9 => ?_)
    skip
    try dsimp only at hi
    obtain ⟨rfl, hS⟩ := hi
    simp only [slices_IndexFunc_impl_Hello_l0] at h
    refine w_seq fun K13 hK13 => ?_
    refine w_reg gC ?_
    try simp only [W, EE, Nat.reduceAdd]
    refine seq_n hK13 ?_
    refine w_seq fun K14 hK14 => ?_
    refine w_if ?_
    simp only [W]
    refine w_cnd h (fun hc h => ?_) (fun hc h => ?_)
    · refine w_skip ?_
      refine seq_n hK14 ?_
      refine w_seq fun K15 hK15 => ?_
      refine w_blk fun K16 hK16 => ?_
      refine w_seq fun K17 hK17 => ?_
      refine w_reg gC ?_
      try simp only [W, Nat.reduceAdd]
      refine seq_n hK17 ?_
      refine w_seq fun K18 hK18 => ?_
      refine w_reg gC ?_
      try simp only [W, EE, Nat.reduceAdd]
      refine w_fz rfl rfl rfl (fun _ => rfl) h fun b19 hb19 h => ?_
      try simp only [W, EE, EN, reduceIte, Nat.reduceAdd, Nat.reduceLeDiff]
      refine w_call h fun b20 hb20 h => ?_
      refine hg1 hb20 _ 0 rfl _ hS _ fun H hS => ?_
      try simp only [W]
      refine seq_n hK18 ?_
      refine w_if ?_
      simp only [W]
      refine w_cnd h (fun hc h => ?_) (fun hc h => ?_)
      · refine w_seq fun K21 hK21 => ?_
        refine w_reg gC ?_
        try simp only [W, Nat.reduceAdd]
        refine seq_n hK21 ?_
        refine w_ret ?_
        refine blk_r hK16 ?_
        refine seq_r hK15 ?_
        try obtain rfl := Option.some.inj h
        obtain rfl := hd10 _ rfl
        have h : (some (LR.done x4) : Option (LR Unit (Int))) = some (LR.done x4) := rfl
        refine lp_r hK9 ?_
        refine blk_r hK8 ?_
        try obtain rfl := Option.some.inj h
        obtain rfl := Option.some.inj g12
        have h : (some x4 : Option (Int)) = some x4 := rfl
        refine cut_r hK7 ?_
        refine seq_r hK2 ?_
        refine fin_r1 hK0 rfl ?_
        try obtain rfl := Option.some.inj h
        exact hP _ hS
      · refine w_skip ?_
        refine blk_n0 hK16 ?_
        refine seq_n hK15 ?_
        refine w_reg gC ?_
        try simp only [W, EE, Nat.reduceAdd]
        exact lp_n hK9 h ⟨rfl, hS⟩
    · refine w_exit ?_
      refine seq_x hK14 ?_
      try obtain rfl := Option.some.inj h
      obtain rfl := hd10 _ rfl
      have h : (some (LR.next ()) : Option (LR Unit (Int))) = some (LR.next ()) := rfl
      refine lp_x hK9 ?_
      refine blk_e hK8 ?_
      exact cut_n hK7 ⟨(Option.some.inj h).symm, rfl, hS⟩
  · obtain ⟨rfl, rfl, hS⟩ := hq
    replace h := g12
    try dsimp only at h
    refine seq_n hK2 ?_
    refine w_seq fun K28 hK28 => ?_
    refine w_reg gC ?_
    try simp only [W, Nat.reduceAdd]
    refine seq_n hK28 ?_
    refine w_ret ?_
    refine fin_r1 hK0 rfl ?_
    try obtain rfl := Option.some.inj h
    exact hP _ hS
theorem slices_ContainsFunc_impl_Hello_w {a0 : List Hello} {g1 : Hello → Option Bool} {f1 : FuncId} {c1 : List AV} {r : (Bool)} (h : slices_ContainsFunc_impl_Hello a0 g1 = some r) {F : List It} {H : Heap} (hg1 : ∀ {x0 : Hello} {r : Bool}, g1 x0 = some r → ∀ (L : List It) (n : Nat), L.drop n = F → ∀ (H : Heap), Own H L → ∀ (P : AV → Heap → Prop), (∀ H', Own H' L → P (.bool r) H') → ACall C f1 ([.agg [.int .i64 x0.Kind, .int .i64 x0.X, .int .i64 x0.Y]] ++ c1) H P) (hS : Own H (F)) {P : AV → Heap → Prop} (hP : ∀ H', Own H' (F) → P (.bool r) H') : ACall C 161 [.fz (a0.map e_Hello), .fn f1 c1] H P := by
  refine acall_of gC (res := [.tmp 4]) (n := 9) rfl rfl rfl rfl fun K0 hK0 => ?_
  simp only [W, Nat.reduceSub, Nat.reduceAdd, List.replicate]
  unfold slices_ContainsFunc_impl_Hello at h
  refine w_seq fun K1 hK1 => ?_
  refine w_reg gC ?_
  try simp only [W, Nat.reduceAdd]
  refine seq_n hK1 ?_
  refine w_seq fun K2 hK2 => ?_
  refine w_reg gC ?_
  try simp only [W, Nat.reduceAdd]
  refine w_call h fun b3 hb3 h => ?_
  refine slices_IndexFunc_impl_Hello_w hb3 hg1 hS fun H hS => ?_
  try simp only [W, EE]
  refine seq_n hK2 ?_
  refine w_ret ?_
  refine fin_r1 hK0 rfl ?_
  try obtain rfl := Option.some.inj h
  exact hP _ hS
theorem impl_GoodGreet_2_w {a0 : Hello} {a1 : Greet} {i1 : Nat} {w1 : Nat} {r : (Bool)} (h : impl_GoodGreet_2 a0 a1 = some r) {F : List It} {H : Heap} (hm1 : ⟨.ptr i1 w1 0 0, 11, [.agg [.int .i64 a1.StateA, .int .i64 a1.StateB, .int .i64 a1.X, .int .i64 a1.Y, .int .i64 a1.OfX, .int .i64 a1.OfY, .int .i64 a1.LastX, .int .i64 a1.LastY, .fz (a1.Line.map e_Hello), .fz (a1.OpenedA.map e_Hello), .fz (a1.OpenedB.map e_Hello)]]⟩ ∈ F) (hS : Own H (F)) {P : AV → Heap → Prop} (hP : ∀ H', Own H' (F) → P (.bool r) H') : ACall C 164 [.agg [.int .i64 a0.Kind, .int .i64 a0.X, .int .i64 a0.Y], .ptr i1 w1 0 0] H P := by
  refine acall_of gC (res := [.tmp 3]) (n := 12) rfl rfl rfl rfl fun K0 hK0 => ?_
  simp only [W, Nat.reduceSub, Nat.reduceAdd, List.replicate]
  unfold impl_GoodGreet_2 at h
  refine w_seq fun K1 hK1 => ?_
  refine w_reg gC ?_
  try simp only [W, Nat.reduceAdd]
  refine w_box hS rfl rfl rfl rfl fun ip2 wp2 H hS => ?_
  try simp only [W]
  refine seq_n hK1 ?_
  refine w_seq fun K4 hK4 => ?_
  refine w_reg gC ?_
  try simp only [W, EE, Nat.reduceAdd, Nat.reduceBEq, hS.var 0 rfl]
  refine w_grdT h (fun hc h => ?_) (fun hc h => ?_)
  · try simp only [W, hc]
    refine seq_n hK4 ?_
    refine w_ret ?_
    refine fin_r1 hK0 rfl ?_
    try obtain rfl := Option.some.inj h
    exact hP _ (hS.sel 1 [] (by decide))
  · try simp only [W, EE, reduceIte, Nat.reduceAdd, Nat.reduceLeDiff, hS.var 0 rfl, hc]
    refine w_call h fun b5 hb5 h => ?_
    refine impl_Greet_isHello_w hb5 (List.mem_cons_of_mem _ (hm1)) hS fun H hS => ?_
    try simp only [W, reduceIte, Bool.false_eq_true]
    refine seq_n hK4 ?_
    refine w_ret ?_
    refine fin_r1 hK0 rfl ?_
    try obtain rfl := Option.some.inj h
    exact hP _ (hS.sel 1 [] (by decide))
theorem impl_Greet_isGiven_wq {a0 : Greet} {a1 : Int} {a2 : Int} {r : (Bool)} (h : impl_Greet_isGiven a0 a1 a2 = some r) {F : List It} {H : Heap} (hS : Own H (F)) {P : AV → Heap → Prop} (hP : ∀ H', Own H' (F) → P (.bool r) H') : ACall C 159 [.fe (.agg [.int .i64 a0.StateA, .int .i64 a0.StateB, .int .i64 a0.X, .int .i64 a0.Y, .int .i64 a0.OfX, .int .i64 a0.OfY, .int .i64 a0.LastX, .int .i64 a0.LastY, .fz (a0.Line.map e_Hello), .fz (a0.OpenedA.map e_Hello), .fz (a0.OpenedB.map e_Hello)]) 0, .int .i64 a1, .int .i64 a2] H P := by
  refine acall_of gC (res := [.tmp 6]) (n := 21) rfl rfl rfl rfl fun K0 hK0 => ?_
  simp only [W, Nat.reduceSub, Nat.reduceAdd, List.replicate]
  unfold impl_Greet_isGiven at h
  refine w_seq fun K1 hK1 => ?_
  refine w_reg gC ?_
  try simp only [W, Nat.reduceAdd]
  refine seq_n hK1 ?_
  refine w_seq fun K2 hK2 => ?_
  refine w_reg gC ?_
  try simp only [W, EE, Nat.reduceAdd, Nat.reduceBEq]
  refine w_call h fun b3 hb3 h => ?_
  refine impl_in_w hb3 hS fun H hS => ?_
  try simp only [W]
  refine w_grdT h (fun hc h => ?_) (fun hc h => ?_)
  · try simp only [W, EE, Nat.reduceAdd, Nat.reduceBEq, hc]
    refine w_call h fun b4 hb4 h => ?_
    refine impl_in_w hb4 hS fun H hS => ?_
    try simp only [W, reduceIte]
    refine seq_n hK2 ?_
    refine w_ret ?_
    refine fin_r1 hK0 rfl ?_
    try obtain rfl := Option.some.inj h
    exact hP _ hS
  · try simp only [W, hc]
    refine seq_n hK2 ?_
    refine w_ret ?_
    refine fin_r1 hK0 rfl ?_
    try obtain rfl := Option.some.inj h
    exact hP _ hS
theorem impl_Greet_isHello_wq {a0 : Greet} {a1 : Hello} {r : (Bool)} (h : impl_Greet_isHello a0 a1 = some r) {F : List It} {H : Heap} (hS : Own H (F)) {P : AV → Heap → Prop} (hP : ∀ H', Own H' (F) → P (.bool r) H') : ACall C 163 [.fe (.agg [.int .i64 a0.StateA, .int .i64 a0.StateB, .int .i64 a0.X, .int .i64 a0.Y, .int .i64 a0.OfX, .int .i64 a0.OfY, .int .i64 a0.LastX, .int .i64 a0.LastY, .fz (a0.Line.map e_Hello), .fz (a0.OpenedA.map e_Hello), .fz (a0.OpenedB.map e_Hello)]) 0, .agg [.int .i64 a1.Kind, .int .i64 a1.X, .int .i64 a1.Y]] H P := by
  refine acall_of gC (res := [.tmp 4]) (n := 36) rfl rfl rfl rfl fun K0 hK0 => ?_
  simp only [W, Nat.reduceSub, Nat.reduceAdd, List.replicate]
  unfold impl_Greet_isHello at h
  refine w_seq fun K1 hK1 => ?_
  refine w_reg gC ?_
  try simp only [W, Nat.reduceAdd]
  refine w_box hS rfl rfl rfl rfl fun ip2 wp2 H hS => ?_
  try simp only [W]
  refine seq_n hK1 ?_
  refine w_seq fun K4 hK4 => ?_
  refine w_seq fun K5 hK5 => ?_
  refine w_reg gC ?_
  try simp only [W, EE, Nat.reduceAdd, Nat.reduceBEq, hS.var 0 rfl]
  refine seq_n hK5 ?_
  refine w_if ?_
  simp only [W]
  refine w_cnd h (fun hc h => ?_) (fun hc h => ?_)
  · refine w_seq fun K6 hK6 => ?_
    refine w_draw0 gC (by kernel_rfl) ?_
    try simp only [W, EE, Nat.reduceAdd, Nat.reduceBEq, hS.var 0 rfl]
    refine w_callS (rsh := [[.sc]]) (ys := [.int .i64 a1.X, .int .i64 1, .int .i64 a0.LastX]) h rfl (by rfl) fun b7 hb7 h => ⟨.bool b7, impl_in_w hb7 (Own.nil _) fun H hS => TV_ok rfl (TV_p rfl (TV_n rfl)), ⟨rfl, rfl, fun _ => rfl⟩, ?_⟩
    try simp only [W]
    refine w_grdT h (fun hc h => ?_) (fun hc h => ?_)
    · try simp only [W, EE, reduceIte, Nat.reduceAdd, Nat.reduceBEq, hS.var 0 rfl, hc]
      refine seq_n hK6 ?_
      refine w_ret ?_
      refine seq_r hK4 ?_
      refine fin_r1 hK0 rfl ?_
      try obtain rfl := Option.some.inj h
      exact hP _ (hS.sel 1 [] (by decide))
    · try simp only [W, hc]
      refine seq_n hK6 ?_
      refine w_ret ?_
      refine seq_r hK4 ?_
      refine fin_r1 hK0 rfl ?_
      try obtain rfl := Option.some.inj h
      exact hP _ (hS.sel 1 [] (by decide))
  · refine w_skip ?_
    refine seq_n hK4 ?_
    refine w_seq fun K8 hK8 => ?_
    refine w_reg gC ?_
    try simp only [W, EE, Nat.reduceAdd, Nat.reduceBEq, hS.var 0 rfl]
    refine w_grdT h (fun hc h => ?_) (fun hc h => ?_)
    · try simp only [W, EE, Nat.reduceAdd, Nat.reduceBEq, hS.var 0 rfl, hc]
      refine w_callS (rsh := [[.sc]]) (ys := [.fe (.agg [.int .i64 a0.StateA, .int .i64 a0.StateB, .int .i64 a0.X, .int .i64 a0.Y, .int .i64 a0.OfX, .int .i64 a0.OfY, .int .i64 a0.LastX, .int .i64 a0.LastY, .fz (a0.Line.map e_Hello), .fz (a0.OpenedA.map e_Hello), .fz (a0.OpenedB.map e_Hello)]) 0, .int .i64 a1.X, .int .i64 a1.Y]) h rfl (by rfl) fun b9 hb9 h => ⟨.bool b9, impl_Greet_isGiven_wq hb9 (Own.nil _) fun H hS => TV_ok rfl (TV_p rfl (TV_n rfl)), ⟨rfl, rfl, fun _ => rfl⟩, ?_⟩
      try simp only [W, reduceIte]
      refine seq_n hK8 ?_
      refine w_ret ?_
      refine fin_r1 hK0 rfl ?_
      try obtain rfl := Option.some.inj h
      exact hP _ (hS.sel 1 [] (by decide))
    · try simp only [W, EE, reduceIte, Nat.reduceAdd, Nat.reduceBEq, Bool.false_eq_true, hS.var 0 rfl, hc]
      refine w_grdT h (fun hc h => ?_) (fun hc h => ?_)
      · try simp only [W, EE, Nat.reduceAdd, Nat.reduceBEq, hS.var 0 rfl, hc]
        refine w_callS (rsh := [[.sc]]) (ys := [.fe (.agg [.int .i64 a0.StateA, .int .i64 a0.StateB, .int .i64 a0.X, .int .i64 a0.Y, .int .i64 a0.OfX, .int .i64 a0.OfY, .int .i64 a0.LastX, .int .i64 a0.LastY, .fz (a0.Line.map e_Hello), .fz (a0.OpenedA.map e_Hello), .fz (a0.OpenedB.map e_Hello)]) 0, .int .i64 a1.X, .int .i64 a1.Y]) h rfl (by rfl) fun b10 hb10 h => ⟨.bool b10, impl_Greet_isGiven_wq hb10 (Own.nil _) fun H hS => TV_ok rfl (TV_p rfl (TV_n rfl)), ⟨rfl, rfl, fun _ => rfl⟩, ?_⟩
        try simp only [W, reduceIte]
        refine seq_n hK8 ?_
        refine w_ret ?_
        refine fin_r1 hK0 rfl ?_
        try obtain rfl := Option.some.inj h
        exact hP _ (hS.sel 1 [] (by decide))
      · try simp only [W, hc]
        refine seq_n hK8 ?_
        refine w_ret ?_
        refine fin_r1 hK0 rfl ?_
        try obtain rfl := Option.some.inj h
        exact hP _ (hS.sel 1 [] (by decide))
theorem impl_GoodGreet_2_wq {a0 : Hello} {a1 : Greet} {r : (Bool)} (h : impl_GoodGreet_2 a0 a1 = some r) {F : List It} {H : Heap} (hS : Own H (F)) {P : AV → Heap → Prop} (hP : ∀ H', Own H' (F) → P (.bool r) H') : ACall C 164 [.agg [.int .i64 a0.Kind, .int .i64 a0.X, .int .i64 a0.Y], .fe (.agg [.int .i64 a1.StateA, .int .i64 a1.StateB, .int .i64 a1.X, .int .i64 a1.Y, .int .i64 a1.OfX, .int .i64 a1.OfY, .int .i64 a1.LastX, .int .i64 a1.LastY, .fz (a1.Line.map e_Hello), .fz (a1.OpenedA.map e_Hello), .fz (a1.OpenedB.map e_Hello)]) 0] H P := by
  refine acall_of gC (res := [.tmp 3]) (n := 12) rfl rfl rfl rfl fun K0 hK0 => ?_
  simp only [W, Nat.reduceSub, Nat.reduceAdd, List.replicate]
  unfold impl_GoodGreet_2 at h
  refine w_seq fun K1 hK1 => ?_
  refine w_reg gC ?_
  try simp only [W, Nat.reduceAdd]
  refine w_box hS rfl rfl rfl rfl fun ip2 wp2 H hS => ?_
  try simp only [W]
  refine seq_n hK1 ?_
  refine w_seq fun K4 hK4 => ?_
  refine w_reg gC ?_
  try simp only [W, EE, Nat.reduceAdd, Nat.reduceBEq, hS.var 0 rfl]
  refine w_grdT h (fun hc h => ?_) (fun hc h => ?_)
  · try simp only [W, hc]
    refine seq_n hK4 ?_
    refine w_ret ?_
    refine fin_r1 hK0 rfl ?_
    try obtain rfl := Option.some.inj h
    exact hP _ (hS.sel 1 [] (by decide))
  · try simp only [W, EE, reduceIte, Nat.reduceAdd, Nat.reduceLeDiff, hS.var 0 rfl, hc]
    refine w_callS (rsh := [[.sc]]) (ys := [.fe (.agg [.int .i64 a1.StateA, .int .i64 a1.StateB, .int .i64 a1.X, .int .i64 a1.Y, .int .i64 a1.OfX, .int .i64 a1.OfY, .int .i64 a1.LastX, .int .i64 a1.LastY, .fz (a1.Line.map e_Hello), .fz (a1.OpenedA.map e_Hello), .fz (a1.OpenedB.map e_Hello)]) 0, .agg [.int .i64 a0.Kind, .int .i64 a0.X, .int .i64 a0.Y]]) h rfl (by rfl) fun b5 hb5 h => ⟨.bool b5, impl_Greet_isHello_wq hb5 (Own.nil _) fun H hS => TV_ok rfl (TV_p rfl (TV_n rfl)), ⟨rfl, rfl, fun _ => rfl⟩, ?_⟩
    try simp only [W, reduceIte, Bool.false_eq_true]
    refine seq_n hK4 ?_
    refine w_ret ?_
    refine fin_r1 hK0 rfl ?_
    try obtain rfl := Option.some.inj h
    exact hP _ (hS.sel 1 [] (by decide))
theorem impl_GoodGreet_w {a0 : Greet} {r : (Bool)} (h : impl_GoodGreet a0 = some r) {F : List It} {H : Heap} (hS : Own H (F)) {P : AV → Heap → Prop} (hP : ∀ H', Own H' (F) → P (.bool r) H') : ACall C 60 [.agg [.int .i64 a0.StateA, .int .i64 a0.StateB, .int .i64 a0.X, .int .i64 a0.Y, .int .i64 a0.OfX, .int .i64 a0.OfY, .int .i64 a0.LastX, .int .i64 a0.LastY, .fz (a0.Line.map e_Hello), .fz (a0.OpenedA.map e_Hello), .fz (a0.OpenedB.map e_Hello)]] H P := by
  refine acall_of gC (res := [.tmp 2]) (n := 108) rfl rfl rfl rfl fun K0 hK0 => ?_
  simp only [W, Nat.reduceSub, Nat.reduceAdd, List.replicate]
  unfold impl_GoodGreet at h
  refine w_seq fun K1 hK1 => ?_
  refine w_reg gC ?_
  try simp only [W, Nat.reduceAdd]
  refine w_box hS rfl rfl rfl rfl fun ip2 wp2 H hS => ?_
  try simp only [W]
  refine seq_n hK1 ?_
  refine w_seq fun K4 hK4 => ?_
  refine w_seq fun K5 hK5 => ?_
  obtain ⟨y7, h, g8⟩ := Option.bind_eq_some_iff.1 h
  refine w_join gC (fun s H => ∃ x6 : Bool, y7 = (x6) ∧ s = (u::.ptr ip2 wp2 0 0::u::u::u::u::u::u::u::u::u::u::u::u::u::u::u::u::u::u::u::u::u::u::u::u::u::u::u::u::u::u::u::.bool x6::u::u::u::u::u::u::u::u::u::u::u::u::u::u::u::u::u::u::u::u::u::u::u::u::u::u::u::u::u::u::u::u::u::u::u::u::u::u::u::u::u::u::u::u::u::u::u::u::u::u::u::u::u::u::u::u::u::u::u::u::u::u::u::u::u::u::u::u::u::u::u::u::u::u::[]) ∧ Own H (⟨.ptr ip2 wp2 0 0, 11, [.agg [.int .i64 a0.StateA, .int .i64 a0.StateB, .int .i64 a0.X, .int .i64 a0.Y, .int .i64 a0.OfX, .int .i64 a0.OfY, .int .i64 a0.LastX, .int .i64 a0.LastY, .fz (a0.Line.map e_Hello), .fz (a0.OpenedA.map e_Hello), .fz (a0.OpenedB.map e_Hello)]]⟩::F)) (fun K9 hK9 => ?_) (fun s H hq => ?_)
  · refine w_seq fun K10 hK10 => ?_
    refine w_reg gC ?_
    try simp only [W, EE, Nat.reduceAdd, Nat.reduceBEq, hS.var 0 rfl]
    refine w_call h fun b11 hb11 h => ?_
    refine impl_in_w hb11 hS fun H hS => ?_
    try simp only [W]
    refine w_grdT h (fun hc h => ?_) (fun hc h => ?_)
    · try simp only [W, hc]
      refine seq_n hK10 ?_
      refine w_killE (s' := (u::.ptr ip2 wp2 0 0::u::u::u::u::u::u::u::u::u::u::u::u::u::u::u::u::u::u::u::u::u::u::u::u::u::u::u::u::u::u::u::.bool true::u::u::u::u::u::u::u::u::u::u::u::u::u::u::u::u::u::u::u::u::u::u::u::u::u::u::u::u::u::u::u::u::u::u::u::u::u::u::u::u::u::u::u::u::u::u::u::u::u::u::u::u::u::u::u::u::u::u::u::u::u::u::u::u::u::u::u::u::u::u::u::u::u::u::[])) rfl ?_
      exact cut_n hK9 ⟨_, (Option.some.inj h).symm, rfl, hS⟩
    · try simp only [W, EE, Nat.reduceAdd, Nat.reduceBEq, hS.var 0 rfl, hc]
      refine w_call h fun b12 hb12 h => ?_
      refine impl_in_w hb12 hS fun H hS => ?_
      try simp only [W, reduceIte, Bool.false_eq_true]
      refine w_grdT h (fun hc h => ?_) (fun hc h => ?_)
      · try simp only [W, hc]
        refine seq_n hK10 ?_
        refine w_killE (s' := (u::.ptr ip2 wp2 0 0::u::u::u::u::u::u::u::u::u::u::u::u::u::u::u::u::u::u::u::u::u::u::u::u::u::u::u::u::u::u::u::.bool true::u::u::u::u::u::u::u::u::u::u::u::u::u::u::u::u::u::u::u::u::u::u::u::u::u::u::u::u::u::u::u::u::u::u::u::u::u::u::u::u::u::u::u::u::u::u::u::u::u::u::u::u::u::u::u::u::u::u::u::u::u::u::u::u::u::u::u::u::u::u::u::u::u::u::[])) rfl ?_
        exact cut_n hK9 ⟨_, (Option.some.inj h).symm, rfl, hS⟩
      · try simp only [W, EE, reduceIte, Nat.reduceAdd, Nat.reduceBEq, Bool.false_eq_true, hS.var 0 rfl, hc]
        refine w_grdT h (fun hc h => ?_) (fun hc h => ?_)
        · try simp only [W, hc]
          refine seq_n hK10 ?_
          refine w_killE (s' := (u::.ptr ip2 wp2 0 0::u::u::u::u::u::u::u::u::u::u::u::u::u::u::u::u::u::u::u::u::u::u::u::u::u::u::u::u::u::u::u::.bool true::u::u::u::u::u::u::u::u::u::u::u::u::u::u::u::u::u::u::u::u::u::u::u::u::u::u::u::u::u::u::u::u::u::u::u::u::u::u::u::u::u::u::u::u::u::u::u::u::u::u::u::u::u::u::u::u::u::u::u::u::u::u::u::u::u::u::u::u::u::u::u::u::u::u::[])) rfl ?_
          exact cut_n hK9 ⟨_, (Option.some.inj h).symm, rfl, hS⟩
        · try simp only [W, EE, reduceIte, Nat.reduceAdd, Nat.reduceBEq, Bool.false_eq_true, hS.var 0 rfl, hc]
          refine w_grdT h (fun hc h => ?_) (fun hc h => ?_)
          · try simp only [W, hc]
            refine seq_n hK10 ?_
            refine w_killE (s' := (u::.ptr ip2 wp2 0 0::u::u::u::u::u::u::u::u::u::u::u::u::u::u::u::u::u::u::u::u::u::u::u::u::u::u::u::u::u::u::u::.bool true::u::u::u::u::u::u::u::u::u::u::u::u::u::u::u::u::u::u::u::u::u::u::u::u::u::u::u::u::u::u::u::u::u::u::u::u::u::u::u::u::u::u::u::u::u::u::u::u::u::u::u::u::u::u::u::u::u::u::u::u::u::u::u::u::u::u::u::u::u::u::u::u::u::u::[])) rfl ?_
            exact cut_n hK9 ⟨_, (Option.some.inj h).symm, rfl, hS⟩
          · try simp only [W, EE, reduceIte, Nat.reduceAdd, Nat.reduceBEq, Bool.false_eq_true, hS.var 0 rfl, hc]
            refine seq_n hK10 ?_
            refine w_killE (s' := (u::.ptr ip2 wp2 0 0::u::u::u::u::u::u::u::u::u::u::u::u::u::u::u::u::u::u::u::u::u::u::u::u::u::u::u::u::u::u::u::.bool (decide (300 < (a0.OpenedB.length : Int)))::u::u::u::u::u::u::u::u::u::u::u::u::u::u::u::u::u::u::u::u::u::u::u::u::u::u::u::u::u::u::u::u::u::u::u::u::u::u::u::u::u::u::u::u::u::u::u::u::u::u::u::u::u::u::u::u::u::u::u::u::u::u::u::u::u::u::u::u::u::u::u::u::u::u::[])) rfl ?_
            exact cut_n hK9 ⟨_, (Option.some.inj h).symm, rfl, hS⟩
  · obtain ⟨x6, ey, rfl, hS⟩ := hq; obtain rfl := ey.symm
    replace h := g8
    try dsimp only at h
    refine seq_n hK5 ?_
    refine w_if ?_
    simp only [W]
    refine w_cnd h (fun hc h => ?_) (fun hc h => ?_)
    · refine w_seq fun K13 hK13 => ?_
      refine w_reg gC ?_
      try simp only [W, Nat.reduceAdd]
      refine seq_n hK13 ?_
      refine w_ret ?_
      refine seq_r hK4 ?_
      refine fin_r1 hK0 rfl ?_
      try obtain rfl := Option.some.inj h
      exact hP _ (hS.sel 1 [] (by decide))
    · refine w_skip ?_
      refine seq_n hK4 ?_
      refine w_seq fun K14 hK14 => ?_
      refine w_reg gC ?_
      try simp only [W, Nat.reduceAdd]
      refine seq_n hK14 ?_
      refine w_seq fun K15 hK15 => ?_
      refine w_seq fun K16 hK16 => ?_
      refine w_reg gC ?_
      try simp only [W, EE, Nat.reduceAdd, Nat.reduceBEq, hS.var 0 rfl]
      refine seq_n hK16 ?_
      obtain ⟨y19, h, g20⟩ := Option.bind_eq_some_iff.1 h
      refine w_join gC (fun s H => ∃ x18 : Bool, y19 = (x18) ∧ s = (u::.ptr ip2 wp2 0 0::u::.bool x18::.bool false::u::u::u::u::u::u::u::u::u::u::u::u::u::u::u::u::u::u::u::u::u::u::u::u::u::u::u::u::u::u::u::u::u::u::u::u::u::u::u::u::u::u::u::u::u::u::u::u::u::u::u::u::u::u::u::u::u::u::u::u::u::u::u::u::u::u::u::u::u::u::u::u::u::u::u::u::u::u::u::u::u::u::u::u::u::u::u::u::u::u::u::u::u::u::u::u::u::u::u::u::u::u::u::[]) ∧ Own H (⟨.ptr ip2 wp2 0 0, 11, [.agg [.int .i64 a0.StateA, .int .i64 a0.StateB, .int .i64 a0.X, .int .i64 a0.Y, .int .i64 a0.OfX, .int .i64 a0.OfY, .int .i64 a0.LastX, .int .i64 a0.LastY, .fz (a0.Line.map e_Hello), .fz (a0.OpenedA.map e_Hello), .fz (a0.OpenedB.map e_Hello)]]⟩::F)) (fun K21 hK21 => ?_) (fun s H hq => ?_)
      · refine w_blk fun K17 hK17 => ?_
        refine w_seq fun K22 hK22 => ?_
        refine w_reg gC ?_
        try simp only [W, EE, Nat.reduceAdd]
        refine seq_n hK22 ?_
        obtain ⟨y24, h, g25⟩ := Option.bind_eq_some_iff.1 h
        refine w_join gC (fun s H => ∃ x23 : Bool, y24 = (x23) ∧ s = (u::.ptr ip2 wp2 0 0::u::.bool x23::.bool false::u::u::u::u::u::u::u::u::u::u::u::u::u::u::u::u::u::u::u::u::u::u::u::u::u::u::u::u::u::u::u::u::u::u::u::u::u::u::u::u::u::u::u::u::u::u::u::u::u::u::u::u::u::u::u::u::u::u::u::u::u::u::u::u::u::u::u::u::u::u::u::u::u::u::u::u::u::u::u::u::u::u::u::u::u::u::u::u::u::u::u::u::u::u::u::u::u::u::u::u::u::u::u::[]) ∧ Own H (⟨.ptr ip2 wp2 0 0, 11, [.agg [.int .i64 a0.StateA, .int .i64 a0.StateB, .int .i64 a0.X, .int .i64 a0.Y, .int .i64 a0.OfX, .int .i64 a0.OfY, .int .i64 a0.LastX, .int .i64 a0.LastY, .fz (a0.Line.map e_Hello), .fz (a0.OpenedA.map e_Hello), .fz (a0.OpenedB.map e_Hello)]]⟩::F)) (fun K26 hK26 => ?_) (fun s H hq => ?_)
        · refine w_seq fun K27 hK27 => ?_
          refine w_if ?_
          simp only [W]
          refine w_cnd h (fun hc h => ?_) (fun hc h => ?_)
          · obtain ⟨y29, h, g30⟩ := Option.bind_eq_some_iff.1 h
            refine w_join gC (fun s H => ∃ x28 : Bool, y29 = (x28) ∧ s = (u::.ptr ip2 wp2 0 0::u::.bool x28::.bool false::u::u::u::u::u::u::u::u::u::u::u::u::u::u::u::u::u::u::u::u::u::u::u::u::u::u::u::u::u::u::u::u::u::u::u::u::u::u::u::u::u::u::u::u::u::u::u::u::u::u::u::u::u::u::u::u::u::u::u::u::u::u::u::u::u::u::u::u::u::u::u::u::u::u::u::u::u::u::u::u::u::u::u::u::u::u::u::u::u::u::u::u::u::u::u::u::u::u::u::u::u::u::u::[]) ∧ Own H (⟨.ptr ip2 wp2 0 0, 11, [.agg [.int .i64 a0.StateA, .int .i64 a0.StateB, .int .i64 a0.X, .int .i64 a0.Y, .int .i64 a0.OfX, .int .i64 a0.OfY, .int .i64 a0.LastX, .int .i64 a0.LastY, .fz (a0.Line.map e_Hello), .fz (a0.OpenedA.map e_Hello), .fz (a0.OpenedB.map e_Hello)]]⟩::F)) (fun K31 hK31 => ?_) (fun s H hq => ?_)
            · refine w_seq fun K32 hK32 => ?_
              refine w_reg gC ?_
              try simp only [W, EE, Nat.reduceAdd, Nat.reduceBEq, hS.var 0 rfl]
              refine w_grdT h (fun hc h => ?_) (fun hc h => ?_)
              · try simp only [W, EE, reduceIte, Nat.reduceAdd, Nat.reduceBEq, hS.var 0 rfl, hc]
                refine seq_n hK32 ?_
                refine w_killE (s' := (u::.ptr ip2 wp2 0 0::u::.bool (a0.OfY == 0)::.bool false::u::u::u::u::u::u::u::u::u::u::u::u::u::u::u::u::u::u::u::u::u::u::u::u::u::u::u::u::u::u::u::u::u::u::u::u::u::u::u::u::u::u::u::u::u::u::u::u::u::u::u::u::u::u::u::u::u::u::u::u::u::u::u::u::u::u::u::u::u::u::u::u::u::u::u::u::u::u::u::u::u::u::u::u::u::u::u::u::u::u::u::u::u::u::u::u::u::u::u::u::u::u::u::[])) rfl ?_
                exact cut_n hK31 ⟨_, (Option.some.inj h).symm, rfl, hS⟩
              · try simp only [W, hc]
                refine seq_n hK32 ?_
                refine w_killE (s' := (u::.ptr ip2 wp2 0 0::u::.bool false::.bool false::u::u::u::u::u::u::u::u::u::u::u::u::u::u::u::u::u::u::u::u::u::u::u::u::u::u::u::u::u::u::u::u::u::u::u::u::u::u::u::u::u::u::u::u::u::u::u::u::u::u::u::u::u::u::u::u::u::u::u::u::u::u::u::u::u::u::u::u::u::u::u::u::u::u::u::u::u::u::u::u::u::u::u::u::u::u::u::u::u::u::u::u::u::u::u::u::u::u::u::u::u::u::u::[])) rfl ?_
                exact cut_n hK31 ⟨_, (Option.some.inj h).symm, rfl, hS⟩
            · obtain ⟨x28, ey, rfl, hS⟩ := hq; obtain rfl := ey.symm
              replace h := g30
              try dsimp only at h
              refine seq_n hK27 ?_
              refine w_killE (s' := (u::.ptr ip2 wp2 0 0::u::.bool x28::.bool false::u::u::u::u::u::u::u::u::u::u::u::u::u::u::u::u::u::u::u::u::u::u::u::u::u::u::u::u::u::u::u::u::u::u::u::u::u::u::u::u::u::u::u::u::u::u::u::u::u::u::u::u::u::u::u::u::u::u::u::u::u::u::u::u::u::u::u::u::u::u::u::u::u::u::u::u::u::u::u::u::u::u::u::u::u::u::u::u::u::u::u::u::u::u::u::u::u::u::u::u::u::u::u::[])) rfl ?_
              exact cut_n hK26 ⟨_, (Option.some.inj h).symm, rfl, hS⟩
          · refine w_seq fun K33 hK33 => ?_
            refine w_reg gC ?_
            try simp only [W, EE, Nat.reduceAdd]
            refine seq_n hK33 ?_
            obtain ⟨y35, h, g36⟩ := Option.bind_eq_some_iff.1 h
            refine w_join gC (fun s H => ∃ x34 : Bool, y35 = (x34) ∧ s = (u::.ptr ip2 wp2 0 0::u::.bool x34::.bool false::u::u::u::u::u::u::u::u::u::u::u::u::u::u::u::u::u::u::u::u::u::u::u::u::u::u::u::u::u::u::u::u::u::u::u::u::u::u::u::u::u::u::u::u::u::u::u::u::u::u::u::u::u::u::u::u::u::u::u::u::u::u::u::u::u::u::u::u::u::u::u::u::u::u::u::u::u::u::u::u::u::u::u::u::u::u::u::u::u::u::u::u::u::u::u::u::u::u::u::u::u::u::u::[]) ∧ Own H (⟨.ptr ip2 wp2 0 0, 11, [.agg [.int .i64 a0.StateA, .int .i64 a0.StateB, .int .i64 a0.X, .int .i64 a0.Y, .int .i64 a0.OfX, .int .i64 a0.OfY, .int .i64 a0.LastX, .int .i64 a0.LastY, .fz (a0.Line.map e_Hello), .fz (a0.OpenedA.map e_Hello), .fz (a0.OpenedB.map e_Hello)]]⟩::F)) (fun K37 hK37 => ?_) (fun s H hq => ?_)
            · refine w_seq fun K38 hK38 => ?_
              refine w_if ?_
              simp only [W]
              refine w_cnd h (fun hc h => ?_) (fun hc h => ?_)
              · obtain ⟨y40, h, g41⟩ := Option.bind_eq_some_iff.1 h
                refine w_join gC (fun s H => ∃ x39 : Bool, y40 = (x39) ∧ s = (u::.ptr ip2 wp2 0 0::u::.bool x39::.bool false::u::u::u::u::u::u::u::u::u::u::u::u::u::u::u::u::u::u::u::u::u::u::u::u::u::u::u::u::u::u::u::u::u::u::u::u::u::u::u::u::u::u::u::u::u::u::u::u::u::u::u::u::u::u::u::u::u::u::u::u::u::u::u::u::u::u::u::u::u::u::u::u::u::u::u::u::u::u::u::u::u::u::u::u::u::u::u::u::u::u::u::u::u::u::u::u::u::u::u::u::u::u::u::[]) ∧ Own H (⟨.ptr ip2 wp2 0 0, 11, [.agg [.int .i64 a0.StateA, .int .i64 a0.StateB, .int .i64 a0.X, .int .i64 a0.Y, .int .i64 a0.OfX, .int .i64 a0.OfY, .int .i64 a0.LastX, .int .i64 a0.LastY, .fz (a0.Line.map e_Hello), .fz (a0.OpenedA.map e_Hello), .fz (a0.OpenedB.map e_Hello)]]⟩::F)) (fun K42 hK42 => ?_) (fun s H hq => ?_)
                · refine w_seq fun K43 hK43 => ?_
                  refine w_reg gC ?_
                  try simp only [W, EE, Nat.reduceAdd, Nat.reduceBEq, hS.var 0 rfl]
                  refine w_call h fun b44 hb44 h => ?_
                  refine impl_in_w hb44 hS fun H hS => ?_
                  try simp only [W]
                  refine w_grdT h (fun hc h => ?_) (fun hc h => ?_)
                  · try simp only [W, EE, reduceIte, Nat.reduceAdd, Nat.reduceBEq, hS.var 0 rfl, hc]
                    refine seq_n hK43 ?_
                    refine w_killE (s' := (u::.ptr ip2 wp2 0 0::u::.bool (a0.OfY == 0)::.bool false::u::u::u::u::u::u::u::u::u::u::u::u::u::u::u::u::u::u::u::u::u::u::u::u::u::u::u::u::u::u::u::u::u::u::u::u::u::u::u::u::u::u::u::u::u::u::u::u::u::u::u::u::u::u::u::u::u::u::u::u::u::u::u::u::u::u::u::u::u::u::u::u::u::u::u::u::u::u::u::u::u::u::u::u::u::u::u::u::u::u::u::u::u::u::u::u::u::u::u::u::u::u::u::[])) rfl ?_
                    exact cut_n hK42 ⟨_, (Option.some.inj h).symm, rfl, hS⟩
                  · try simp only [W, hc]
                    refine seq_n hK43 ?_
                    refine w_killE (s' := (u::.ptr ip2 wp2 0 0::u::.bool false::.bool false::u::u::u::u::u::u::u::u::u::u::u::u::u::u::u::u::u::u::u::u::u::u::u::u::u::u::u::u::u::u::u::u::u::u::u::u::u::u::u::u::u::u::u::u::u::u::u::u::u::u::u::u::u::u::u::u::u::u::u::u::u::u::u::u::u::u::u::u::u::u::u::u::u::u::u::u::u::u::u::u::u::u::u::u::u::u::u::u::u::u::u::u::u::u::u::u::u::u::u::u::u::u::u::[])) rfl ?_
                    exact cut_n hK42 ⟨_, (Option.some.inj h).symm, rfl, hS⟩
                · obtain ⟨x39, ey, rfl, hS⟩ := hq; obtain rfl := ey.symm
                  replace h := g41
                  try dsimp only at h
                  refine seq_n hK38 ?_
                  refine w_killE (s' := (u::.ptr ip2 wp2 0 0::u::.bool x39::.bool false::u::u::u::u::u::u::u::u::u::u::u::u::u::u::u::u::u::u::u::u::u::u::u::u::u::u::u::u::u::u::u::u::u::u::u::u::u::u::u::u::u::u::u::u::u::u::u::u::u::u::u::u::u::u::u::u::u::u::u::u::u::u::u::u::u::u::u::u::u::u::u::u::u::u::u::u::u::u::u::u::u::u::u::u::u::u::u::u::u::u::u::u::u::u::u::u::u::u::u::u::u::u::u::[])) rfl ?_
                  exact cut_n hK37 ⟨_, (Option.some.inj h).symm, rfl, hS⟩
              · refine w_seq fun K45 hK45 => ?_
                refine w_reg gC ?_
                try simp only [W, EE, Nat.reduceAdd]
                refine seq_n hK45 ?_
                obtain ⟨y47, h, g48⟩ := Option.bind_eq_some_iff.1 h
                refine w_join gC (fun s H => ∃ x46 : Bool, y47 = (x46) ∧ s = (u::.ptr ip2 wp2 0 0::u::.bool x46::.bool false::u::u::u::u::u::u::u::u::u::u::u::u::u::u::u::u::u::u::u::u::u::u::u::u::u::u::u::u::u::u::u::u::u::u::u::u::u::u::u::u::u::u::u::u::u::u::u::u::u::u::u::u::u::u::u::u::u::u::u::u::u::u::u::u::u::u::u::u::u::u::u::u::u::u::u::u::u::u::u::u::u::u::u::u::u::u::u::u::u::u::u::u::u::u::u::u::u::u::u::u::u::u::u::[]) ∧ Own H (⟨.ptr ip2 wp2 0 0, 11, [.agg [.int .i64 a0.StateA, .int .i64 a0.StateB, .int .i64 a0.X, .int .i64 a0.Y, .int .i64 a0.OfX, .int .i64 a0.OfY, .int .i64 a0.LastX, .int .i64 a0.LastY, .fz (a0.Line.map e_Hello), .fz (a0.OpenedA.map e_Hello), .fz (a0.OpenedB.map e_Hello)]]⟩::F)) (fun K49 hK49 => ?_) (fun s H hq => ?_)
                · refine w_seq fun K50 hK50 => ?_
                  refine w_if ?_
                  simp only [W]
                  refine w_cnd h (fun hc h => ?_) (fun hc h => ?_)
                  · refine w_reg gC ?_
                    try simp only [W, EE, Nat.reduceAdd, Nat.reduceBEq, hS.var 0 rfl]
                    refine w_call h fun b51 hb51 h => ?_
                    refine impl_Greet_isGiven_w hb51 (List.mem_of_getElem? (i := 0) rfl) hS fun H hS => ?_
                    try simp only [W]
                    refine seq_n hK50 ?_
                    refine w_killE (s' := (u::.ptr ip2 wp2 0 0::u::.bool b51::.bool false::u::u::u::u::u::u::u::u::u::u::u::u::u::u::u::u::u::u::u::u::u::u::u::u::u::u::u::u::u::u::u::u::u::u::u::u::u::u::u::u::u::u::u::u::u::u::u::u::u::u::u::u::u::u::u::u::u::u::u::u::u::u::u::u::u::u::u::u::u::u::u::u::u::u::u::u::u::u::u::u::u::u::u::u::u::u::u::u::u::u::u::u::u::u::u::u::u::u::u::u::u::u::u::[])) rfl ?_
                    exact cut_n hK49 ⟨_, (Option.some.inj h).symm, rfl, hS⟩
                  · refine w_skip ?_
                    refine seq_n hK50 ?_
                    refine w_killE (s' := (u::.ptr ip2 wp2 0 0::u::.bool false::.bool false::u::u::u::u::u::u::u::u::u::u::u::u::u::u::u::u::u::u::u::u::u::u::u::u::u::u::u::u::u::u::u::u::u::u::u::u::u::u::u::u::u::u::u::u::u::u::u::u::u::u::u::u::u::u::u::u::u::u::u::u::u::u::u::u::u::u::u::u::u::u::u::u::u::u::u::u::u::u::u::u::u::u::u::u::u::u::u::u::u::u::u::u::u::u::u::u::u::u::u::u::u::u::u::[])) rfl ?_
                    exact cut_n hK49 ⟨_, (Option.some.inj h).symm, rfl, hS⟩
                · obtain ⟨x46, ey, rfl, hS⟩ := hq; obtain rfl := ey.symm
                  replace h := g48
                  try dsimp only at h
                  refine seq_n hK38 ?_
                  refine w_killE (s' := (u::.ptr ip2 wp2 0 0::u::.bool x46::.bool false::u::u::u::u::u::u::u::u::u::u::u::u::u::u::u::u::u::u::u::u::u::u::u::u::u::u::u::u::u::u::u::u::u::u::u::u::u::u::u::u::u::u::u::u::u::u::u::u::u::u::u::u::u::u::u::u::u::u::u::u::u::u::u::u::u::u::u::u::u::u::u::u::u::u::u::u::u::u::u::u::u::u::u::u::u::u::u::u::u::u::u::u::u::u::u::u::u::u::u::u::u::u::u::[])) rfl ?_
                  exact cut_n hK37 ⟨_, (Option.some.inj h).symm, rfl, hS⟩
            · obtain ⟨x34, ey, rfl, hS⟩ := hq; obtain rfl := ey.symm
              replace h := g36
              try dsimp only at h
              refine seq_n hK27 ?_
              refine w_killE (s' := (u::.ptr ip2 wp2 0 0::u::.bool x34::.bool false::u::u::u::u::u::u::u::u::u::u::u::u::u::u::u::u::u::u::u::u::u::u::u::u::u::u::u::u::u::u::u::u::u::u::u::u::u::u::u::u::u::u::u::u::u::u::u::u::u::u::u::u::u::u::u::u::u::u::u::u::u::u::u::u::u::u::u::u::u::u::u::u::u::u::u::u::u::u::u::u::u::u::u::u::u::u::u::u::u::u::u::u::u::u::u::u::u::u::u::u::u::u::u::[])) rfl ?_
              exact cut_n hK26 ⟨_, (Option.some.inj h).symm, rfl, hS⟩
        · obtain ⟨x23, ey, rfl, hS⟩ := hq; obtain rfl := ey.symm
          replace h := g25
          try dsimp only at h
          refine blk_n hK17 ?_
          exact cut_n hK21 ⟨_, (Option.some.inj h).symm, rfl, hS⟩
      · obtain ⟨x18, ey, rfl, hS⟩ := hq; obtain rfl := ey.symm
        replace h := g20
        try dsimp only at h
        refine seq_n hK15 ?_
        refine w_seq fun K52 hK52 => ?_
        refine w_seq fun K53 hK53 => ?_
        refine w_reg gC ?_
        try simp only [W, EE, Nat.reduceAdd, Nat.reduceBEq, hS.var 0 rfl]
        refine seq_n hK53 ?_
        obtain ⟨y56, h, g57⟩ := Option.bind_eq_some_iff.1 h
        refine w_join gC (fun s H => ∃ x55 : Bool, y56 = (x55) ∧ s = (u::.ptr ip2 wp2 0 0::u::.bool x18::.bool x55::u::u::u::u::u::u::u::u::u::u::u::u::u::u::u::u::u::u::u::u::u::u::u::u::u::u::u::u::u::u::u::u::u::u::u::u::u::u::u::u::u::u::u::u::u::u::u::u::u::u::u::u::u::u::u::u::u::u::u::u::u::u::u::u::u::u::u::u::u::u::u::u::u::u::u::u::u::u::u::u::u::u::u::u::u::u::u::u::u::u::u::u::u::u::u::u::u::u::u::u::u::u::u::[]) ∧ Own H (⟨.ptr ip2 wp2 0 0, 11, [.agg [.int .i64 a0.StateA, .int .i64 a0.StateB, .int .i64 a0.X, .int .i64 a0.Y, .int .i64 a0.OfX, .int .i64 a0.OfY, .int .i64 a0.LastX, .int .i64 a0.LastY, .fz (a0.Line.map e_Hello), .fz (a0.OpenedA.map e_Hello), .fz (a0.OpenedB.map e_Hello)]]⟩::F)) (fun K58 hK58 => ?_) (fun s H hq => ?_)
        · refine w_blk fun K54 hK54 => ?_
          refine w_seq fun K59 hK59 => ?_
          refine w_reg gC ?_
          try simp only [W, EE, Nat.reduceAdd]
          refine seq_n hK59 ?_
          obtain ⟨y61, h, g62⟩ := Option.bind_eq_some_iff.1 h
          refine w_join gC (fun s H => ∃ x60 : Bool, y61 = (x60) ∧ s = (u::.ptr ip2 wp2 0 0::u::.bool x18::.bool x60::u::u::u::u::u::u::u::u::u::u::u::u::u::u::u::u::u::u::u::u::u::u::u::u::u::u::u::u::u::u::u::u::u::u::u::u::u::u::u::u::u::u::u::u::u::u::u::u::u::u::u::u::u::u::u::u::u::u::u::u::u::u::u::u::u::u::u::u::u::u::u::u::u::u::u::u::u::u::u::u::u::u::u::u::u::u::u::u::u::u::u::u::u::u::u::u::u::u::u::u::u::u::u::[]) ∧ Own H (⟨.ptr ip2 wp2 0 0, 11, [.agg [.int .i64 a0.StateA, .int .i64 a0.StateB, .int .i64 a0.X, .int .i64 a0.Y, .int .i64 a0.OfX, .int .i64 a0.OfY, .int .i64 a0.LastX, .int .i64 a0.LastY, .fz (a0.Line.map e_Hello), .fz (a0.OpenedA.map e_Hello), .fz (a0.OpenedB.map e_Hello)]]⟩::F)) (fun K63 hK63 => ?_) (fun s H hq => ?_)
          · refine w_seq fun K64 hK64 => ?_
            refine w_if ?_
            simp only [W]
            refine w_cnd h (fun hc h => ?_) (fun hc h => ?_)
            · obtain ⟨y66, h, g67⟩ := Option.bind_eq_some_iff.1 h
              refine w_join gC (fun s H => ∃ x65 : Bool, y66 = (x65) ∧ s = (u::.ptr ip2 wp2 0 0::u::.bool x18::.bool x65::u::u::u::u::u::u::u::u::u::u::u::u::u::u::u::u::u::u::u::u::u::u::u::u::u::u::u::u::u::u::u::u::u::u::u::u::u::u::u::u::u::u::u::u::u::u::u::u::u::u::u::u::u::u::u::u::u::u::u::u::u::u::u::u::u::u::u::u::u::u::u::u::u::u::u::u::u::u::u::u::u::u::u::u::u::u::u::u::u::u::u::u::u::u::u::u::u::u::u::u::u::u::u::[]) ∧ Own H (⟨.ptr ip2 wp2 0 0, 11, [.agg [.int .i64 a0.StateA, .int .i64 a0.StateB, .int .i64 a0.X, .int .i64 a0.Y, .int .i64 a0.OfX, .int .i64 a0.OfY, .int .i64 a0.LastX, .int .i64 a0.LastY, .fz (a0.Line.map e_Hello), .fz (a0.OpenedA.map e_Hello), .fz (a0.OpenedB.map e_Hello)]]⟩::F)) (fun K68 hK68 => ?_) (fun s H hq => ?_)
              · refine w_seq fun K69 hK69 => ?_
                refine w_reg gC ?_
                try simp only [W, EE, Nat.reduceAdd, Nat.reduceBEq, hS.var 0 rfl]
                refine w_grdT h (fun hc h => ?_) (fun hc h => ?_)
                · try simp only [W, EE, reduceIte, Nat.reduceAdd, Nat.reduceBEq, hS.var 0 rfl, hc]
                  refine seq_n hK69 ?_
                  refine w_killE (s' := (u::.ptr ip2 wp2 0 0::u::.bool x18::.bool (a0.Y == 0)::u::u::u::u::u::u::u::u::u::u::u::u::u::u::u::u::u::u::u::u::u::u::u::u::u::u::u::u::u::u::u::u::u::u::u::u::u::u::u::u::u::u::u::u::u::u::u::u::u::u::u::u::u::u::u::u::u::u::u::u::u::u::u::u::u::u::u::u::u::u::u::u::u::u::u::u::u::u::u::u::u::u::u::u::u::u::u::u::u::u::u::u::u::u::u::u::u::u::u::u::u::u::u::[])) rfl ?_
                  exact cut_n hK68 ⟨_, (Option.some.inj h).symm, rfl, hS⟩
                · try simp only [W, hc]
                  refine seq_n hK69 ?_
                  refine w_killE (s' := (u::.ptr ip2 wp2 0 0::u::.bool x18::.bool false::u::u::u::u::u::u::u::u::u::u::u::u::u::u::u::u::u::u::u::u::u::u::u::u::u::u::u::u::u::u::u::u::u::u::u::u::u::u::u::u::u::u::u::u::u::u::u::u::u::u::u::u::u::u::u::u::u::u::u::u::u::u::u::u::u::u::u::u::u::u::u::u::u::u::u::u::u::u::u::u::u::u::u::u::u::u::u::u::u::u::u::u::u::u::u::u::u::u::u::u::u::u::u::[])) rfl ?_
                  exact cut_n hK68 ⟨_, (Option.some.inj h).symm, rfl, hS⟩
              · obtain ⟨x65, ey, rfl, hS⟩ := hq; obtain rfl := ey.symm
                replace h := g67
                try dsimp only at h
                refine seq_n hK64 ?_
                refine w_killE (s' := (u::.ptr ip2 wp2 0 0::u::.bool x18::.bool x65::u::u::u::u::u::u::u::u::u::u::u::u::u::u::u::u::u::u::u::u::u::u::u::u::u::u::u::u::u::u::u::u::u::u::u::u::u::u::u::u::u::u::u::u::u::u::u::u::u::u::u::u::u::u::u::u::u::u::u::u::u::u::u::u::u::u::u::u::u::u::u::u::u::u::u::u::u::u::u::u::u::u::u::u::u::u::u::u::u::u::u::u::u::u::u::u::u::u::u::u::u::u::u::[])) rfl ?_
                exact cut_n hK63 ⟨_, (Option.some.inj h).symm, rfl, hS⟩
            · refine w_seq fun K70 hK70 => ?_
              refine w_seq fun K71 hK71 => ?_
              refine w_reg gC ?_
              try simp only [W, EE, Nat.reduceAdd]
              refine seq_n hK71 ?_
              obtain ⟨y73, h, g74⟩ := Option.bind_eq_some_iff.1 h
              refine w_join gC (fun s H => ∃ x72 : Bool, y73 = (x72) ∧ s = (u::.ptr ip2 wp2 0 0::u::.bool x18::.bool false::u::u::u::u::u::u::u::u::u::u::u::u::u::u::u::u::u::u::u::u::u::u::u::u::u::u::u::u::u::u::u::u::u::u::u::u::u::u::u::u::u::u::u::u::u::u::u::u::u::u::u::u::u::u::u::u::u::u::u::u::u::u::u::u::u::u::u::u::u::u::u::u::.bool x72::u::u::u::u::u::u::u::u::u::u::u::u::u::u::u::u::u::u::u::u::u::u::u::u::u::u::u::u::u::u::[]) ∧ Own H (⟨.ptr ip2 wp2 0 0, 11, [.agg [.int .i64 a0.StateA, .int .i64 a0.StateB, .int .i64 a0.X, .int .i64 a0.Y, .int .i64 a0.OfX, .int .i64 a0.OfY, .int .i64 a0.LastX, .int .i64 a0.LastY, .fz (a0.Line.map e_Hello), .fz (a0.OpenedA.map e_Hello), .fz (a0.OpenedB.map e_Hello)]]⟩::F)) (fun K75 hK75 => ?_) (fun s H hq => ?_)
              · refine w_seq fun K76 hK76 => ?_
                refine w_if ?_
                simp only [W]
                refine w_cnd h (fun hc h => ?_) (fun hc h => ?_)
                · refine w_skip ?_
                  refine seq_n hK76 ?_
                  refine w_killE (s' := (u::.ptr ip2 wp2 0 0::u::.bool x18::.bool false::u::u::u::u::u::u::u::u::u::u::u::u::u::u::u::u::u::u::u::u::u::u::u::u::u::u::u::u::u::u::u::u::u::u::u::u::u::u::u::u::u::u::u::u::u::u::u::u::u::u::u::u::u::u::u::u::u::u::u::u::u::u::u::u::u::u::u::u::u::u::u::u::.bool (a0.StateB == 1)::u::u::u::u::u::u::u::u::u::u::u::u::u::u::u::u::u::u::u::u::u::u::u::u::u::u::u::u::u::u::[])) rfl ?_
                  exact cut_n hK75 ⟨_, (Option.some.inj h).symm, rfl, hS⟩
                · refine w_reg gC ?_
                  try simp only [W, EE, Nat.reduceAdd]
                  refine seq_n hK76 ?_
                  refine w_killE (s' := (u::.ptr ip2 wp2 0 0::u::.bool x18::.bool false::u::u::u::u::u::u::u::u::u::u::u::u::u::u::u::u::u::u::u::u::u::u::u::u::u::u::u::u::u::u::u::u::u::u::u::u::u::u::u::u::u::u::u::u::u::u::u::u::u::u::u::u::u::u::u::u::u::u::u::u::u::u::u::u::u::u::u::u::u::u::u::u::.bool (a0.StateB == 2)::u::u::u::u::u::u::u::u::u::u::u::u::u::u::u::u::u::u::u::u::u::u::u::u::u::u::u::u::u::u::[])) rfl ?_
                  exact cut_n hK75 ⟨_, (Option.some.inj h).symm, rfl, hS⟩
              · obtain ⟨x72, ey, rfl, hS⟩ := hq; obtain rfl := ey.symm
                replace h := g74
                try dsimp only at h
                refine seq_n hK70 ?_
                obtain ⟨y78, h, g79⟩ := Option.bind_eq_some_iff.1 h
                refine w_join gC (fun s H => ∃ x77 : Bool, y78 = (x77) ∧ s = (u::.ptr ip2 wp2 0 0::u::.bool x18::.bool x77::u::u::u::u::u::u::u::u::u::u::u::u::u::u::u::u::u::u::u::u::u::u::u::u::u::u::u::u::u::u::u::u::u::u::u::u::u::u::u::u::u::u::u::u::u::u::u::u::u::u::u::u::u::u::u::u::u::u::u::u::u::u::u::u::u::u::u::u::u::u::u::u::.bool x72::u::u::u::u::u::u::u::u::u::u::u::u::u::u::u::u::u::u::u::u::u::u::u::u::u::u::u::u::u::u::[]) ∧ Own H (⟨.ptr ip2 wp2 0 0, 11, [.agg [.int .i64 a0.StateA, .int .i64 a0.StateB, .int .i64 a0.X, .int .i64 a0.Y, .int .i64 a0.OfX, .int .i64 a0.OfY, .int .i64 a0.LastX, .int .i64 a0.LastY, .fz (a0.Line.map e_Hello), .fz (a0.OpenedA.map e_Hello), .fz (a0.OpenedB.map e_Hello)]]⟩::F)) (fun K80 hK80 => ?_) (fun s H hq => ?_)
                · refine w_seq fun K81 hK81 => ?_
                  refine w_if ?_
                  simp only [W]
                  refine w_cnd h (fun hc h => ?_) (fun hc h => ?_)
                  · refine w_reg gC ?_
                    try simp only [W, EE, Nat.reduceAdd, Nat.reduceBEq, hS.var 0 rfl]
                    refine w_call h fun b82 hb82 h => ?_
                    refine impl_Greet_isGiven_w hb82 (List.mem_of_getElem? (i := 0) rfl) hS fun H hS => ?_
                    try simp only [W]
                    refine seq_n hK81 ?_
                    refine w_killE (s' := (u::.ptr ip2 wp2 0 0::u::.bool x18::.bool b82::u::u::u::u::u::u::u::u::u::u::u::u::u::u::u::u::u::u::u::u::u::u::u::u::u::u::u::u::u::u::u::u::u::u::u::u::u::u::u::u::u::u::u::u::u::u::u::u::u::u::u::u::u::u::u::u::u::u::u::u::u::u::u::u::u::u::u::u::u::u::u::u::.bool x72::u::u::u::u::u::u::u::u::u::u::u::u::u::u::u::u::u::u::u::u::u::u::u::u::u::u::u::u::u::u::[])) rfl ?_
                    exact cut_n hK80 ⟨_, (Option.some.inj h).symm, rfl, hS⟩
                  · refine w_skip ?_
                    refine seq_n hK81 ?_
                    refine w_killE (s' := (u::.ptr ip2 wp2 0 0::u::.bool x18::.bool false::u::u::u::u::u::u::u::u::u::u::u::u::u::u::u::u::u::u::u::u::u::u::u::u::u::u::u::u::u::u::u::u::u::u::u::u::u::u::u::u::u::u::u::u::u::u::u::u::u::u::u::u::u::u::u::u::u::u::u::u::u::u::u::u::u::u::u::u::u::u::u::u::.bool x72::u::u::u::u::u::u::u::u::u::u::u::u::u::u::u::u::u::u::u::u::u::u::u::u::u::u::u::u::u::u::[])) rfl ?_
                    exact cut_n hK80 ⟨_, (Option.some.inj h).symm, rfl, hS⟩
                · obtain ⟨x77, ey, rfl, hS⟩ := hq; obtain rfl := ey.symm
                  replace h := g79
                  try dsimp only at h
                  refine seq_n hK64 ?_
                  refine w_killE (s' := (u::.ptr ip2 wp2 0 0::u::.bool x18::.bool x77::u::u::u::u::u::u::u::u::u::u::u::u::u::u::u::u::u::u::u::u::u::u::u::u::u::u::u::u::u::u::u::u::u::u::u::u::u::u::u::u::u::u::u::u::u::u::u::u::u::u::u::u::u::u::u::u::u::u::u::u::u::u::u::u::u::u::u::u::u::u::u::u::u::u::u::u::u::u::u::u::u::u::u::u::u::u::u::u::u::u::u::u::u::u::u::u::u::u::u::u::u::u::u::[])) rfl ?_
                  exact cut_n hK63 ⟨_, (Option.some.inj h).symm, rfl, hS⟩
          · obtain ⟨x60, ey, rfl, hS⟩ := hq; obtain rfl := ey.symm
            replace h := g62
            try dsimp only at h
            refine blk_n hK54 ?_
            exact cut_n hK58 ⟨_, (Option.some.inj h).symm, rfl, hS⟩
        · obtain ⟨x55, ey, rfl, hS⟩ := hq; obtain rfl := ey.symm
          replace h := g57
          try dsimp only at h
          refine seq_n hK52 ?_
          refine w_seq fun K83 hK83 => ?_
          refine w_reg gC ?_
          try simp only [W, EE, Nat.reduceAdd, Nat.reduceBEq, hS.var 0 rfl, List.contains_cons, Nat.reduceBEq, Bool.or_self]
          refine w_lit (el := ([a0.OpenedA, a0.OpenedB] : List (List Hello)).map (fzl e_Hello)) hS rfl rfl rfl rfl rfl rfl rfl fun v84 H qv84 hS => ?_
          try simp only [W]
          refine w_callO (rsh := [[.sl [.sc, .sc, .sc]]]) (ys := [.fz (([a0.OpenedA, a0.OpenedB] : List (List Hello)).map (fzl e_Hello))]) h rfl (pv_c (sn_ow hS 0 rfl qv84 (fun _ => rfl)) pv_n) fun b86 hb86 h => ⟨.own 3 (b86.map e_Hello), slices_Concat_impl_Hello_w hb86 (Own.nil _) fun v87 qv87 H hS => TV_ok rfl (TV_o 0 hS rfl qv87 (fun _ _ => by simp [takeE, takeT, takeC, plainA, e_Hello]) fun H hS => TV_n rfl), (noFz_o _ (fun _ => rfl) _), ?_⟩
          refine thaw_1 ?_
          refine TH_o hS (fun _ _ => rfl) (fun _ => rfl) fun v89 H qv89 hS => ?_
          refine TH_n ?_
          try simp only [List.headD_cons]
          try simp only [W]
          refine seq_n hK83 ?_
          refine w_seq fun K90 hK90 => ?_
          refine w_reg gC ?_
          try simp only [W, Nat.reduceAdd]
          refine w_grdT h (fun hc h => ?_) (fun hc h => ?_)
          · try simp only [W, reduceIte, hc]
            refine w_grdT h (fun hc h => ?_) (fun hc h => ?_)
            · try simp only [W, EE, Nat.reduceAdd, Nat.reduceBEq, hS.var 2 rfl, hc]
              refine w_call h fun b91 hb91 h => ?_
              refine slices_ContainsFunc_impl_Hello_w hb91 (fun h _ n hL _ hS _ hP => impl_GoodGreet_1_w h (memd hL (List.mem_of_getElem? (i := 2) rfl)) hS hP) hS fun H hS => ?_
              try simp only [W, reduceIte]
              refine w_grdT h (fun hc h => ?_) (fun hc h => ?_)
              · try simp only [W, hc]
                refine w_callS (rsh := [[.sc]]) (ys := [.fz (b86.map e_Hello), .fn 164 [.fe (.agg [.int .i64 a0.StateA, .int .i64 a0.StateB, .int .i64 a0.X, .int .i64 a0.Y, .int .i64 a0.OfX, .int .i64 a0.OfY, .int .i64 a0.LastX, .int .i64 a0.LastY, .fz (a0.Line.map e_Hello), .fz (a0.OpenedA.map e_Hello), .fz (a0.OpenedB.map e_Hello)]) 0]]) h rfl (pv_c (sn_ow hS 0 rfl qv89 (fun _ => rfl)) (pv_c (sn_fn (sm_c (sn_pt hS 2 rfl rfl) (sm_n _))) pv_n)) fun b92 hb92 h => ⟨.bool b92, slices_ContainsFunc_impl_Hello_w hb92 (fun h _ n hL _ hS _ hP => impl_GoodGreet_2_wq h hS hP) (Own.nil _) fun H hS => TV_ok rfl (TV_p rfl (TV_n rfl)), ⟨rfl, rfl, fun _ => rfl⟩, ?_⟩
                try simp only [W, reduceIte]
                refine seq_n hK90 ?_
                refine w_ret ?_
                refine fin_r1 hK0 rfl ?_
                try obtain rfl := Option.some.inj h
                exact hP _ (hS.sel 3 [] (by decide))
              · try simp only [W, hc]
                refine seq_n hK90 ?_
                refine w_ret ?_
                refine fin_r1 hK0 rfl ?_
                try obtain rfl := Option.some.inj h
                exact hP _ (hS.sel 3 [] (by decide))
            · try simp only [W, hc]
              refine seq_n hK90 ?_
              refine w_ret ?_
              refine fin_r1 hK0 rfl ?_
              try obtain rfl := Option.some.inj h
              exact hP _ (hS.sel 3 [] (by decide))
          · try simp only [W, hc]
            refine seq_n hK90 ?_
            refine w_ret ?_
            refine fin_r1 hK0 rfl ?_
            try obtain rfl := Option.some.inj h
            exact hP _ (hS.sel 3 [] (by decide))
theorem slices_Index_impl_Hello_w {a0 : List Hello} {a1 : Hello} {r : (Int)} (h : slices_Index_impl_Hello a0 a1 = some r) {F : List It} {H : Heap} (hS : Own H (F)) {P : AV → Heap → Prop} (hP : ∀ H', Own H' (F) → P (.int .i64 r) H') : ACall C 244 [.fz (a0.map e_Hello), .agg [.int .i64 a1.Kind, .int .i64 a1.X, .int .i64 a1.Y]] H P := by
  refine acall_of gC (res := [.tmp 4]) (n := 19) rfl rfl rfl rfl fun K0 hK0 => ?_
  simp only [W, Nat.reduceSub, Nat.reduceAdd, List.replicate]
  unfold slices_Index_impl_Hello at h
  refine w_seq fun K1 hK1 => ?_
  refine w_reg gC ?_
  try simp only [W, Nat.reduceAdd]
  refine w_box hS rfl rfl rfl rfl fun ip2 wp2 H hS => ?_
  try simp only [W]
  refine seq_n hK1 ?_
  refine w_seq fun K4 hK4 => ?_
  refine w_seq fun K5 hK5 => ?_
  refine w_reg gC ?_
  try simp only [W, EE, Nat.reduceAdd]
  refine seq_n hK5 ?_
  obtain ⟨y7, hw8, g14⟩ := Option.bind_eq_some_iff.1 h
  refine w_join gC (fun s H => y7 = LR.next () ∧ s = [u, u, u, u, u, u, u, u, u, u, u, u, u, u, u, u, u, u, u] ∧ Own H (F)) (fun K9 hK9 => ?_) (fun s H hq => ?_)
  · refine w_blk fun K10 hK10 => ?_
    refine w_loop gC hw8 (fun x s H => s = [.fz (a0.map e_Hello), u, u, .ptr ip2 wp2 0 0, u, u, u, .int .i64 (a0.length : Int), .int .i64 x, u, u, u, u, u, u, u, u, u, u] ∧ Own H (⟨.ptr ip2 wp2 0 0, 3, [.agg [.int .i64 a1.Kind, .int .i64 a1.X, .int .i64 a1.Y]]⟩::F)) ⟨rfl, hS⟩ (fun x6 y13 s H h hd12 hi K11 hK11 => ?_)
    skip
    try dsimp only at hi
    obtain ⟨rfl, hS⟩ := hi
    simp only [slices_Index_impl_Hello_l0] at h
    refine w_seq fun K15 hK15 => ?_
    refine w_reg gC ?_
    try simp only [W, EE, Nat.reduceAdd]
    refine seq_n hK15 ?_
    refine w_seq fun K16 hK16 => ?_
    refine w_if ?_
    simp only [W]
    refine w_cnd h (fun hc h => ?_) (fun hc h => ?_)
    · refine w_skip ?_
      refine seq_n hK16 ?_
      refine w_seq fun K17 hK17 => ?_
      refine w_blk fun K18 hK18 => ?_
      refine w_seq fun K19 hK19 => ?_
      refine w_reg gC ?_
      try simp only [W, Nat.reduceAdd]
      refine seq_n hK19 ?_
      refine w_seq fun K20 hK20 => ?_
      refine w_draw0 gC (by kernel_rfl) ?_
      try simp only [W, EE, reduceIte, Nat.reduceAdd, Nat.reduceLeDiff, hS.var 0 rfl]
      refine w_fz rfl rfl rfl (fun _ => rfl) h fun b21 hb21 h => ?_
      try simp only [W, EE, EN, reduceIte, Nat.reduceAdd, Nat.reduceLeDiff, Bool.false_eq_true]
      refine seq_n hK20 ?_
      refine w_if ?_
      simp only [W]
      refine w_cnd h (fun hc h => ?_) (fun hc h => ?_)
      · refine w_seq fun K22 hK22 => ?_
        refine w_reg gC ?_
        try simp only [W, Nat.reduceAdd]
        refine seq_n hK22 ?_
        refine w_ret ?_
        refine blk_r hK18 ?_
        refine seq_r hK17 ?_
        try obtain rfl := Option.some.inj h
        obtain rfl := hd12 _ rfl
        have h : (some (LR.done x6) : Option (LR Unit (Int))) = some (LR.done x6) := rfl
        refine lp_r hK11 ?_
        refine blk_r hK10 ?_
        try obtain rfl := Option.some.inj h
        obtain rfl := Option.some.inj g14
        have h : (some x6 : Option (Int)) = some x6 := rfl
        refine cut_r hK9 ?_
        refine seq_r hK4 ?_
        refine fin_r1 hK0 rfl ?_
        try obtain rfl := Option.some.inj h
        exact hP _ (hS.sel 1 [] (by decide))
      · refine w_skip ?_
        refine blk_n0 hK18 ?_
        refine seq_n hK17 ?_
        refine w_reg gC ?_
        try simp only [W, EE, Nat.reduceAdd]
        exact lp_n hK11 h ⟨rfl, hS⟩
    · refine w_exit ?_
      refine seq_x hK16 ?_
      try obtain rfl := Option.some.inj h
      obtain rfl := hd12 _ rfl
      have h : (some (LR.next ()) : Option (LR Unit (Int))) = some (LR.next ()) := rfl
      refine lp_x hK11 ?_
      refine blk_e hK10 ?_
      exact cut_n hK9 ⟨(Option.some.inj h).symm, rfl, (hS.sel 1 [] (by decide))⟩
  · obtain ⟨rfl, rfl, hS⟩ := hq
    replace h := g14
    try dsimp only at h
    refine seq_n hK4 ?_
    refine w_seq fun K29 hK29 => ?_
    refine w_reg gC ?_
    try simp only [W, Nat.reduceAdd]
    refine seq_n hK29 ?_
    refine w_ret ?_
    refine fin_r1 hK0 rfl ?_
    try obtain rfl := Option.some.inj h
    exact hP _ hS
theorem slices_Contains_impl_Hello_w {a0 : List Hello} {a1 : Hello} {r : (Bool)} (h : slices_Contains_impl_Hello a0 a1 = some r) {F : List It} {H : Heap} (hS : Own H (F)) {P : AV → Heap → Prop} (hP : ∀ H', Own H' (F) → P (.bool r) H') : ACall C 165 [.fz (a0.map e_Hello), .agg [.int .i64 a1.Kind, .int .i64 a1.X, .int .i64 a1.Y]] H P := by
  refine acall_of gC (res := [.tmp 4]) (n := 9) rfl rfl rfl rfl fun K0 hK0 => ?_
  simp only [W, Nat.reduceSub, Nat.reduceAdd, List.replicate]
  unfold slices_Contains_impl_Hello at h
  refine w_seq fun K1 hK1 => ?_
  refine w_reg gC ?_
  try simp only [W, Nat.reduceAdd]
  refine w_box hS rfl rfl rfl rfl fun ip2 wp2 H hS => ?_
  try simp only [W]
  refine seq_n hK1 ?_
  refine w_seq fun K4 hK4 => ?_
  refine w_reg gC ?_
  try simp only [W, EE, reduceIte, Nat.reduceAdd, Nat.reduceLeDiff, hS.var 0 rfl]
  refine w_call h fun b5 hb5 h => ?_
  refine slices_Index_impl_Hello_w hb5 hS fun H hS => ?_
  try simp only [W, EE]
  refine seq_n hK4 ?_
  refine w_ret ?_
  refine fin_r1 hK0 rfl ?_
  try obtain rfl := Option.some.inj h
  exact hP _ (hS.sel 1 [] (by decide))
theorem impl_HasHello_w {a0 : List Hello} {a1 : Hello} {r : (Bool × Bool)} (h : impl_HasHello a0 a1 = some r) {F : List It} {H : Heap} (hS : Own H (F)) {P : AV → Heap → Prop} (hP : ∀ H', Own H' (F) → P (.tup [.bool r.1, .bool r.2]) H') : ACall C 61 [.fz (a0.map e_Hello), .agg [.int .i64 a1.Kind, .int .i64 a1.X, .int .i64 a1.Y]] H P := by
  refine acall_of gC (res := [.tmp 4, .tmp 5]) (n := 12) rfl rfl rfl rfl fun K0 hK0 => ?_
  simp only [W, Nat.reduceSub, Nat.reduceAdd, List.replicate]
  unfold impl_HasHello at h
  refine w_seq fun K1 hK1 => ?_
  refine w_reg gC ?_
  try simp only [W, Nat.reduceAdd]
  refine w_box hS rfl rfl rfl rfl fun ip2 wp2 H hS => ?_
  try simp only [W]
  refine seq_n hK1 ?_
  refine w_seq fun K4 hK4 => ?_
  refine w_seq fun K5 hK5 => ?_
  refine w_reg gC ?_
  try simp only [W, EE, Nat.reduceAdd]
  refine seq_n hK5 ?_
  refine w_if ?_
  simp only [W]
  refine w_cnd h (fun hc h => ?_) (fun hc h => ?_)
  · refine w_seq fun K6 hK6 => ?_
    refine w_reg gC ?_
    try simp only [W, Nat.reduceAdd]
    refine seq_n hK6 ?_
    refine w_ret ?_
    refine seq_r hK4 ?_
    refine fin_r2 hK0 rfl rfl ?_
    try obtain rfl := Option.some.inj h
    exact hP _ (hS.sel 1 [] (by decide))
  · refine w_skip ?_
    refine seq_n hK4 ?_
    refine w_seq fun K7 hK7 => ?_
    refine w_reg gC ?_
    try simp only [W, EE, reduceIte, Nat.reduceAdd, Nat.reduceLeDiff, hS.var 0 rfl]
    refine w_call h fun b8 hb8 h => ?_
    refine slices_Contains_impl_Hello_w hb8 hS fun H hS => ?_
    try simp only [W]
    refine seq_n hK7 ?_
    refine w_ret ?_
    refine fin_r2 hK0 rfl rfl ?_
    try obtain rfl := Option.some.inj h
    exact hP _ (hS.sel 1 [] (by decide))
theorem impl_SettleGreet_w {a0 : Greet} {r : (Greet × Bool)} (h : impl_SettleGreet a0 = some r) {F : List It} {H : Heap} (hS : Own H (F)) {P : AV → Heap → Prop} (hP : ∀ v118 : AV, isSl v118 → ∀ v120 : AV, isSl v120 → ∀ v122 : AV, isSl v122 → ∀ H', Own H' (⟨v118, 3, r.1.Line.map e_Hello⟩::⟨v120, 3, r.1.OpenedA.map e_Hello⟩::⟨v122, 3, r.1.OpenedB.map e_Hello⟩::F) → P (.tup [.agg [.int .i64 r.1.StateA, .int .i64 r.1.StateB, .int .i64 r.1.X, .int .i64 r.1.Y, .int .i64 r.1.OfX, .int .i64 r.1.OfY, .int .i64 r.1.LastX, .int .i64 r.1.LastY, v118, v120, v122], .bool r.2]) H') : ACall C 62 [.agg [.int .i64 a0.StateA, .int .i64 a0.StateB, .int .i64 a0.X, .int .i64 a0.Y, .int .i64 a0.OfX, .int .i64 a0.OfY, .int .i64 a0.LastX, .int .i64 a0.LastY, .fz (a0.Line.map e_Hello), .fz (a0.OpenedA.map e_Hello), .fz (a0.OpenedB.map e_Hello)]] H P := by
  refine acall_of gC (res := [.cell 2 85, .tmp 3]) (n := 40) rfl rfl rfl rfl fun K0 hK0 => ?_
  simp only [W, Nat.reduceSub, Nat.reduceAdd, List.replicate]
  unfold impl_SettleGreet at h
  refine w_seq fun K1 hK1 => ?_
  refine w_reg gC ?_
  try simp only [W, Nat.reduceAdd]
  refine w_box hS rfl rfl rfl rfl fun ip2 wp2 H hS => ?_
  try simp only [W]
  refine w_alloc hS rfl rfl fun ip4 wp4 H hS => ?_
  try simp only [W]
  refine seq_n hK1 ?_
  refine w_seq fun K6 hK6 => ?_
  refine w_reg gC ?_
  try simp only [W, EE, reduceIte, Nat.reduceAdd, Nat.reduceLeDiff, hS.var 1 rfl]
  refine w_call h fun b7 hb7 h => ?_
  refine impl_Greet_copied_w hb7 hS fun v8 qv8 v10 qv10 v12 qv12 H hS => ?_
  try simp only [W]
  refine w_alloc hS rfl rfl fun ip14 wp14 H hS => ?_
  try simp only [W]
  refine w_stv (a := .agg [.int .i64 b7.StateA, .int .i64 b7.StateB, .int .i64 b7.X, .int .i64 b7.Y, .int .i64 b7.OfX, .int .i64 b7.OfY, .int .i64 b7.LastX, .int .i64 b7.LastY, v8, v10, v12]) (y' := .agg [.int .i64 b7.StateA, .int .i64 b7.StateB, .int .i64 b7.X, .int .i64 b7.Y, .int .i64 b7.OfX, .int .i64 b7.OfY, .int .i64 b7.LastX, .int .i64 b7.LastY, v8, v10, v12]) 0 hS rfl rfl rfl rfl rfl (by simp only [storA, List.all_cons, List.all_nil, qv8.stor, qv10.stor, qv12.stor]; rfl) rfl rfl fun H hS => ?_
  try simp only [W]
  refine seq_n hK6 ?_
  refine w_seq fun K16 hK16 => ?_
  refine w_seq fun K17 hK17 => ?_
  obtain ⟨y33, h, g34⟩ := Option.bind_eq_some_iff.1 h
  refine w_join gC (fun s H => ∃ x18 : Bool, ∃ x19 : Int, ∃ x20 : Int, ∃ x21 : Int, ∃ x22 : Int, ∃ x23 : Int, ∃ x24 : Int, ∃ x25 : Int, ∃ x26 : Int, ∃ x27 : List Hello, ∃ x29 : List Hello, ∃ x31 : List Hello, y33 = (x18, x19, x20, x21, x22, x23, x24, x25, x26, x27, x29, x31) ∧ ∃ v28 : AV, isSl v28 ∧ ∃ v30 : AV, isSl v30 ∧ ∃ v32 : AV, isSl v32 ∧ s = [u, u, .ptr ip4 wp4 0 0, u, .ptr ip14 wp14 0 0, u, u, u, u, u, u, u, u, u, u, u, u, u, u, u, u, .bool x18, u, u, u, u, u, u, u, u, u, u, u, u, u, u, u, u, u, u] ∧ Own H (⟨v28, 3, x27.map e_Hello⟩::⟨v30, 3, x29.map e_Hello⟩::⟨v32, 3, x31.map e_Hello⟩::⟨.ptr ip4 wp4 0 0, 11, [.agg [.int .i64 0, .int .i64 0, .int .i64 0, .int .i64 0, .int .i64 0, .int .i64 0, .int .i64 0, .int .i64 0, .nil, .nil, .nil]]⟩::⟨.ptr ip14 wp14 0 0, 11, [.agg [.int .i64 x19, .int .i64 x20, .int .i64 x21, .int .i64 x22, .int .i64 x23, .int .i64 x24, .int .i64 x25, .int .i64 x26, v28, v30, v32]]⟩::F)) (fun K35 hK35 => ?_) (fun s H hq => ?_)
  · refine w_seq fun K36 hK36 => ?_
    refine w_reg gC ?_
    try simp only [W, EE, reduceIte, Nat.reduceAdd, Nat.reduceLeDiff, hS.var 5 rfl]
    refine w_call h fun b37 hb37 h => ?_
    refine impl_GoodGreet_w hb37 hS fun H hS => ?_
    try simp only [W]
    refine w_grdT h (fun hc h => ?_) (fun hc h => ?_)
    · try simp only [W, hc]
      refine seq_n hK36 ?_
      refine w_kill ?_
      exact cut_n hK35 ⟨_, _, _, _, _, _, _, _, _, _, _, _, (Option.some.inj h).symm, _, qv8, _, qv10, _, qv12, rfl, (hS.sel 6 [1, 2, 3, 4, 0] (by decide))⟩
    · try simp only [W, EE, hc]
      refine w_bld rfl rfl rfl rfl rfl ?_
      try simp only [W]
      refine w_call h fun b38 hb38 h => ?_
      obtain ⟨b39, b40⟩ := b38
      try dsimp only at h
      refine impl_Greet_step_w hb38 hS qv8 qv10 qv12 fun v41 qv41 v42 qv42 v43 qv43 H hS => ?_
      try simp only [W, reduceIte, Bool.false_eq_true]
      refine w_grdT h (fun hc h => ?_) (fun hc h => ?_)
      · try simp only [W, hc]
        refine seq_n hK36 ?_
        refine w_kill ?_
        exact cut_n hK35 ⟨_, _, _, _, _, _, _, _, _, _, _, _, (Option.some.inj h).symm, _, qv41, _, qv42, _, qv43, rfl, (hS.sel 6 [1, 2, 3, 4, 0] (by decide))⟩
      · try simp only [W, EE, hc]
        refine w_bld rfl rfl rfl rfl rfl ?_
        try simp only [W]
        refine w_call h fun b44 hb44 h => ?_
        obtain ⟨b45, b46⟩ := b44
        try dsimp only at h
        refine impl_Greet_step_w hb44 hS qv41 qv42 qv43 fun v47 qv47 v48 qv48 v49 qv49 H hS => ?_
        try simp only [W, reduceIte, Bool.false_eq_true]
        refine seq_n hK36 ?_
        refine w_kill ?_
        exact cut_n hK35 ⟨_, _, _, _, _, _, _, _, _, _, _, _, (Option.some.inj h).symm, _, qv47, _, qv48, _, qv49, rfl, (hS.sel 6 [1, 2, 3, 4, 0] (by decide))⟩
  · obtain ⟨x18, x19, x20, x21, x22, x23, x24, x25, x26, x27, x29, x31, rfl, v28, qv28, v30, qv30, v32, qv32, rfl, hS⟩ := hq
    replace h := g34
    try dsimp only at h
    refine seq_n hK17 ?_
    refine w_if ?_
    simp only [W]
    refine w_cnd h (fun hc h => ?_) (fun hc h => ?_)
    · refine w_seq fun K50 hK50 => ?_
      refine w_reg gC ?_
      try simp only [W, EE, Nat.reduceAdd]
      refine w_bld rfl rfl rfl rfl rfl ?_
      try simp only [W]
      refine w_stv (a := .agg [.int .i64 0, .int .i64 0, .int .i64 0, .int .i64 0, .int .i64 0, .int .i64 0, .int .i64 0, .int .i64 0, .nil, .nil, .nil]) (y' := .agg [.int .i64 0, .int .i64 0, .int .i64 0, .int .i64 0, .int .i64 0, .int .i64 0, .int .i64 0, .int .i64 0, .nil, .nil, .nil]) 3 hS rfl rfl rfl rfl rfl rfl rfl rfl fun H hS => ?_
      try simp only [W]
      refine seq_n hK50 ?_
      refine w_ret ?_
      refine seq_r hK16 ?_
      refine fin_r hK0 (res_c rfl rfl (hS.var 3 rfl) rfl (res_tc rfl rfl)) ?_
      try obtain rfl := Option.some.inj h
      exact hP _ isSl_nil _ isSl_nil _ isSl_nil _ ((((hS.nil_ 3).nil_ 3).nil_ 3).sel 8 [0, 1, 2] (by decide))
    · refine w_skip ?_
      refine seq_n hK16 ?_
      refine w_seq fun K51 hK51 => ?_
      refine w_reg gC ?_
      try simp only [W, EE, Nat.reduceAdd, Nat.reduceBEq, hS.var 4 rfl]
      refine w_stv (a := .nil) (y' := .agg [.int .i64 x19, .int .i64 x20, .int .i64 x21, .int .i64 x22, .int .i64 x23, .int .i64 x24, .int .i64 x25, .int .i64 x26, .nil, v30, v32]) 4 hS rfl rfl rfl rfl rfl rfl rfl rfl fun H hS => ?_
      try simp only [W]
      refine seq_n hK51 ?_
      refine w_seq fun K52 hK52 => ?_
      refine w_seq fun K53 hK53 => ?_
      refine w_reg gC ?_
      try simp only [W, EE, Nat.reduceAdd]
      refine w_bld rfl rfl rfl rfl rfl ?_
      try simp only [W, EE]
      refine w_bld rfl rfl rfl rfl rfl ?_
      try simp only [W, EE]
      refine w_bld rfl rfl rfl rfl rfl ?_
      try simp only [W, EE]
      refine w_bld rfl rfl rfl rfl rfl ?_
      try simp only [W]
      refine w_lit (el := ([(⟨1, 0⟩ : GreetStep), (⟨2, 0⟩ : GreetStep), (⟨2, 0⟩ : GreetStep), (⟨2, 0⟩ : GreetStep)] : List GreetStep).map e_GreetStep) hS rfl rfl rfl rfl rfl rfl rfl fun v54 H qv54 hS => ?_
      try simp only [W, EE]
      refine w_len 0 hS rfl qv54 rfl ?_
      try simp only [W, EN, Nat.reduceAdd]
      refine seq_n hK53 ?_
      obtain ⟨y86, hw87, g93⟩ := Option.bind_eq_some_iff.1 h
      refine w_join gC (fun s H => ∃ x72 : Int, ∃ x73 : Int, ∃ x74 : Int, ∃ x75 : Int, ∃ x76 : Int, ∃ x77 : Int, ∃ x78 : Int, ∃ x79 : Int, ∃ x80 : List Hello, ∃ x82 : List Hello, ∃ x84 : List Hello, y86 = LR.next (x72, x73, x74, x75, x76, x77, x78, x79, x80, x82, x84) ∧ ∃ v81 : AV, isSl v81 ∧ ∃ v83 : AV, isSl v83 ∧ ∃ v85 : AV, isSl v85 ∧ s = [u, u, .ptr ip4 wp4 0 0, u, .ptr ip14 wp14 0 0, u, u, u, u, u, u, u, u, u, u, u, u, u, u, u, u, u, u, u, u, u, u, u, u, u, u, u, u, u, u, u, u, u, u, u] ∧ Own H (⟨v81, 3, x80.map e_Hello⟩::⟨v83, 3, x82.map e_Hello⟩::⟨v85, 3, x84.map e_Hello⟩::⟨.ptr ip4 wp4 0 0, 11, [.agg [.int .i64 0, .int .i64 0, .int .i64 0, .int .i64 0, .int .i64 0, .int .i64 0, .int .i64 0, .int .i64 0, .nil, .nil, .nil]]⟩::⟨.ptr ip14 wp14 0 0, 11, [.agg [.int .i64 x72, .int .i64 x73, .int .i64 x74, .int .i64 x75, .int .i64 x76, .int .i64 x77, .int .i64 x78, .int .i64 x79, v81, v83, v85]]⟩::F)) (fun K88 hK88 => ?_) (fun s H hq => ?_)
      · refine w_blk fun K89 hK89 => ?_
        refine w_loop gC hw87 (fun x s H => match x with | (x56, x57, x58, x59, x60, x61, x62, x63, x64, x65, x68, x70) => ∃ v66 : AV, isSl v66 ∧ ∃ v69 : AV, isSl v69 ∧ ∃ v71 : AV, isSl v71 ∧ s = [u, u, .ptr ip4 wp4 0 0, u, .ptr ip14 wp14 0 0, u, u, u, u, u, u, u, u, u, u, u, u, u, u, u, u, u, u, u, u, u, u, u, v54, .int .i64 (([(⟨1, 0⟩ : GreetStep), (⟨2, 0⟩ : GreetStep), (⟨2, 0⟩ : GreetStep), (⟨2, 0⟩ : GreetStep)] : List GreetStep).length : Int), .int .i64 x56, u, u, u, u, u, u, u, u, u] ∧ Own H (⟨v54, 2, ([(⟨1, 0⟩ : GreetStep), (⟨2, 0⟩ : GreetStep), (⟨2, 0⟩ : GreetStep), (⟨2, 0⟩ : GreetStep)] : List GreetStep).map e_GreetStep⟩::⟨v66, 3, x65.map e_Hello⟩::⟨v69, 3, x68.map e_Hello⟩::⟨v71, 3, x70.map e_Hello⟩::⟨.ptr ip4 wp4 0 0, 11, [.agg [.int .i64 0, .int .i64 0, .int .i64 0, .int .i64 0, .int .i64 0, .int .i64 0, .int .i64 0, .int .i64 0, .nil, .nil, .nil]]⟩::⟨.ptr ip14 wp14 0 0, 11, [.agg [.int .i64 x57, .int .i64 x58, .int .i64 x59, .int .i64 x60, .int .i64 x61, .int .i64 x62, .int .i64 x63, .int .i64 x64, v66, v69, v71]]⟩::F)) ⟨_, isSl_nil, _, qv30, _, qv32, rfl, ((hS.nil_ 3).sel 7 [1, 0, 3, 4, 5, 6] (by decide))⟩ (fun x y92 s H h hd91 hi K90 hK90 => ?_)
        obtain ⟨x56, x57, x58, x59, x60, x61, x62, x63, x64, x65, x68, x70⟩ := x
        try dsimp only at hi
        obtain ⟨v66, qv66, v69, qv69, v71, qv71, rfl, hS⟩ := hi
        simp only [impl_SettleGreet_l0] at h
        refine w_seq fun K94 hK94 => ?_
        refine w_reg gC ?_
        try simp only [W, EE, Nat.reduceAdd]
        refine seq_n hK94 ?_
        refine w_seq fun K95 hK95 => ?_
        refine w_if ?_
        simp only [W]
        refine w_cnd h (fun hc h => ?_) (fun hc h => ?_)
        · refine w_skip ?_
          refine seq_n hK95 ?_
          refine w_seq fun K96 hK96 => ?_
          refine w_blk fun K97 hK97 => ?_
          refine w_seq fun K98 hK98 => ?_
          refine w_reg gC ?_
          try simp only [W, EE, Nat.reduceAdd]
          refine w_ow 0 hS rfl rfl rfl rfl rfl h (fun b99 in100 wn100 on100 hb99 h en100 => ?_) qv54.ne
          obtain ⟨kn100, hbn100, hen100⟩ := hS.elem 0 rfl en100 hb99
          try simp only [W, EE, EN, reduceIte, Nat.reduceAdd, Nat.reduceLeDiff, hbn100, hen100]
          refine w_alloc hS rfl rfl fun ip101 wp101 H hS => ?_
          try simp only [W]
          refine w_stv (a := .agg [.int .i64 b99.Kind, .int .i64 b99.K]) (y' := .agg [.int .i64 b99.Kind, .int .i64 b99.K]) 0 hS rfl rfl rfl rfl rfl rfl rfl rfl fun H hS => ?_
          try simp only [W]
          refine seq_n hK98 ?_
          refine w_seq fun K103 hK103 => ?_
          refine w_reg gC ?_
          try simp only [W, EE, reduceIte, Nat.reduceAdd, Nat.reduceLeDiff, hS.var 0 rfl]
          refine w_call h fun b104 hb104 h => ?_
          obtain ⟨b105, b106⟩ := b104
          try dsimp only at h
          refine impl_Greet_step_w hb104 (hS.sel 7 [6, 2, 3, 4, 0, 1, 5] (by decide)) qv66 qv69 qv71 fun v107 qv107 v108 qv108 v109 qv109 H hS => ?_
          try simp only [W]
          refine seq_n hK103 ?_
          refine w_if ?_
          simp only [W]
          refine w_cnd h (fun hc h => ?_) (fun hc h => ?_)
          · refine w_seq fun K110 hK110 => ?_
            refine w_reg gC ?_
            try simp only [W, EE, Nat.reduceAdd]
            refine w_bld rfl rfl rfl rfl rfl ?_
            try simp only [W]
            refine w_stv (a := .agg [.int .i64 0, .int .i64 0, .int .i64 0, .int .i64 0, .int .i64 0, .int .i64 0, .int .i64 0, .int .i64 0, .nil, .nil, .nil]) (y' := .agg [.int .i64 0, .int .i64 0, .int .i64 0, .int .i64 0, .int .i64 0, .int .i64 0, .int .i64 0, .int .i64 0, .nil, .nil, .nil]) 6 hS rfl rfl rfl rfl rfl rfl rfl rfl fun H hS => ?_
            try simp only [W]
            refine seq_n hK110 ?_
            refine w_ret ?_
            refine blk_r hK97 ?_
            refine seq_r hK96 ?_
            try obtain rfl := Option.some.inj h
            obtain rfl := hd91 _ rfl
            have h : (some (LR.done ((⟨0, 0, 0, 0, 0, 0, 0, 0, [], [], []⟩ : Greet), false)) : Option (LR (Int × Int × Int × Int × Int × Int × Int × Int × (List Hello) × (List Hello) × (List Hello)) (Greet × Bool))) = some (LR.done ((⟨0, 0, 0, 0, 0, 0, 0, 0, [], [], []⟩ : Greet), false)) := rfl
            refine lp_r hK90 ?_
            refine blk_r hK89 ?_
            try obtain rfl := Option.some.inj h
            obtain rfl := Option.some.inj g93
            have h : (some ((⟨0, 0, 0, 0, 0, 0, 0, 0, [], [], []⟩ : Greet), false) : Option (Greet × Bool)) = some ((⟨0, 0, 0, 0, 0, 0, 0, 0, [], [], []⟩ : Greet), false) := rfl
            refine cut_r hK88 ?_
            refine seq_r hK52 ?_
            refine fin_r hK0 (res_c rfl rfl (hS.var 6 rfl) rfl (res_tc rfl rfl)) ?_
            try obtain rfl := Option.some.inj h
            exact hP _ isSl_nil _ isSl_nil _ isSl_nil _ ((((hS.nil_ 3).nil_ 3).nil_ 3).sel 10 [0, 1, 2] (by decide))
          · refine w_skip ?_
            refine blk_n0 hK97 ?_
            refine seq_n hK96 ?_
            refine w_reg gC ?_
            try simp only [W, EE, Nat.reduceAdd]
            exact lp_n hK90 h ⟨_, qv107, _, qv108, _, qv109, rfl, (hS.sel 7 [5, 1, 2, 3, 6, 0] (by decide))⟩
        · refine w_exit ?_
          refine seq_x hK95 ?_
          try obtain rfl := Option.some.inj h
          obtain rfl := hd91 _ rfl
          have h : (some (LR.next (x57, x58, x59, x60, x61, x62, x63, x64, x65, x68, x70)) : Option (LR (Int × Int × Int × Int × Int × Int × Int × Int × (List Hello) × (List Hello) × (List Hello)) (Greet × Bool))) = some (LR.next (x57, x58, x59, x60, x61, x62, x63, x64, x65, x68, x70)) := rfl
          refine lp_x hK90 ?_
          refine blk_e hK89 ?_
          exact cut_n hK88 ⟨_, _, _, _, _, _, _, _, _, _, _, (Option.some.inj h).symm, _, qv66, _, qv69, _, qv71, rfl, (hS.sel 6 [1, 2, 3, 4, 5] (by decide))⟩
      · obtain ⟨x72, x73, x74, x75, x76, x77, x78, x79, x80, x82, x84, rfl, v81, qv81, v83, qv83, v85, qv85, rfl, hS⟩ := hq
        replace h := g93
        try dsimp only at h
        refine seq_n hK52 ?_
        refine w_seq fun K117 hK117 => ?_
        refine w_reg gC ?_
        try simp only [W, EE, reduceIte, Nat.reduceAdd, Nat.reduceLeDiff, hS.var 4 rfl]
        refine w_stv (a := .agg [.int .i64 x72, .int .i64 x73, .int .i64 x74, .int .i64 x75, .int .i64 x76, .int .i64 x77, .int .i64 x78, .int .i64 x79, v81, v83, v85]) (y' := .agg [.int .i64 x72, .int .i64 x73, .int .i64 x74, .int .i64 x75, .int .i64 x76, .int .i64 x77, .int .i64 x78, .int .i64 x79, v81, v83, v85]) 3 hS rfl rfl rfl rfl rfl (by simp only [storA, List.all_cons, List.all_nil, qv81.stor, qv83.stor, qv85.stor]; rfl) rfl rfl fun H hS => ?_
        try simp only [W]
        refine seq_n hK117 ?_
        refine w_ret ?_
        refine fin_r hK0 (res_c rfl rfl (hS.var 3 rfl) rfl (res_tc rfl rfl)) ?_
        try obtain rfl := Option.some.inj h
        exact hP _ qv81 _ qv83 _ qv85 _ (hS.sel 5 [0, 1, 2] (by decide))
theorem impl_BothOpen_w {a0 : Greet} {r : (Bool × Bool)} (h : impl_BothOpen a0 = some r) {F : List It} {H : Heap} (hS : Own H (F)) {P : AV → Heap → Prop} (hP : ∀ H', Own H' (F) → P (.tup [.bool r.1, .bool r.2]) H') : ACall C 63 [.agg [.int .i64 a0.StateA, .int .i64 a0.StateB, .int .i64 a0.X, .int .i64 a0.Y, .int .i64 a0.OfX, .int .i64 a0.OfY, .int .i64 a0.LastX, .int .i64 a0.LastY, .fz (a0.Line.map e_Hello), .fz (a0.OpenedA.map e_Hello), .fz (a0.OpenedB.map e_Hello)]] H P := by
  refine acall_of gC (res := [.tmp 2, .tmp 3]) (n := 29) rfl rfl rfl rfl fun K0 hK0 => ?_
  simp only [W, Nat.reduceSub, Nat.reduceAdd, List.replicate]
  unfold impl_BothOpen at h
  refine w_seq fun K1 hK1 => ?_
  refine w_reg gC ?_
  try simp only [W, Nat.reduceAdd]
  refine w_box hS rfl rfl rfl rfl fun ip2 wp2 H hS => ?_
  try simp only [W]
  refine seq_n hK1 ?_
  refine w_seq fun K4 hK4 => ?_
  refine w_seq fun K5 hK5 => ?_
  refine w_reg gC ?_
  try simp only [W, EE, reduceIte, Nat.reduceAdd, Nat.reduceLeDiff, hS.var 0 rfl]
  refine w_call h fun b6 hb6 h => ?_
  refine impl_GoodGreet_w hb6 hS fun H hS => ?_
  try simp only [W]
  refine seq_n hK5 ?_
  refine w_if ?_
  simp only [W]
  refine w_cnd h (fun hc h => ?_) (fun hc h => ?_)
  · refine w_seq fun K7 hK7 => ?_
    refine w_reg gC ?_
    try simp only [W, Nat.reduceAdd]
    refine seq_n hK7 ?_
    refine w_ret ?_
    refine seq_r hK4 ?_
    refine fin_r2 hK0 rfl rfl ?_
    try obtain rfl := Option.some.inj h
    exact hP _ (hS.sel 1 [] (by decide))
  · refine w_skip ?_
    refine seq_n hK4 ?_
    refine w_seq fun K8 hK8 => ?_
    refine w_reg gC ?_
    try simp only [W, EE, Nat.reduceAdd, Nat.reduceBEq, hS.var 0 rfl]
    refine w_grdT h (fun hc h => ?_) (fun hc h => ?_)
    · try simp only [W, EE, reduceIte, Nat.reduceAdd, Nat.reduceBEq, hS.var 0 rfl, hc]
      refine w_grdT h (fun hc h => ?_) (fun hc h => ?_)
      · try simp only [W, EE, reduceIte, Nat.reduceAdd, Nat.reduceBEq, hS.var 0 rfl, hc]
        refine w_grdT h (fun hc h => ?_) (fun hc h => ?_)
        · try simp only [W, EE, reduceIte, Nat.reduceAdd, Nat.reduceBEq, hS.var 0 rfl, hc]
          refine seq_n hK8 ?_
          refine w_ret ?_
          refine fin_r2 hK0 rfl rfl ?_
          try obtain rfl := Option.some.inj h
          exact hP _ (hS.sel 1 [] (by decide))
        · try simp only [W, hc]
          refine seq_n hK8 ?_
          refine w_ret ?_
          refine fin_r2 hK0 rfl rfl ?_
          try obtain rfl := Option.some.inj h
          exact hP _ (hS.sel 1 [] (by decide))
      · try simp only [W, hc]
        refine seq_n hK8 ?_
        refine w_ret ?_
        refine fin_r2 hK0 rfl rfl ?_
        try obtain rfl := Option.some.inj h
        exact hP _ (hS.sel 1 [] (by decide))
    · try simp only [W, hc]
      refine seq_n hK8 ?_
      refine w_ret ?_
      refine fin_r2 hK0 rfl rfl ?_
      try obtain rfl := Option.some.inj h
      exact hP _ (hS.sel 1 [] (by decide))
end Go.VxW
