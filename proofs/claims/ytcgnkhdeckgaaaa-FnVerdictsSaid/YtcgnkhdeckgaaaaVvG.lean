import Derived.Test.YtcgnkhdeckgaaaaVvG1
import Derived.Test.YtcgnkhdeckgaaaaProg
import Derived.Test.YtcgnkhdeckgaaaaVaE
import Derived.KernelRfl
open Go Go.VS
set_option maxRecDepth 8000
set_option maxHeartbeats 4000000
namespace Go.VxW
theorem spec_l16Step_w {a0 : Court} {a1 : CourtStep} {m1 : AV} {m2 : AV} {r : (Court × Bool)} (h : spec_l16Step a0 a1 = some r) {F : List It} {H : Heap} (hS : Own H (⟨m1, 4, a0.Cases.map e_Case⟩ :: ⟨m2, 3, a0.Line.map e_Slip⟩ :: F)) (qm1 : isSl m1) (qm2 : isSl m2) {P : AV → Heap → Prop} (hP : ∀ v153 : AV, isSl v153 → ∀ v155 : AV, isSl v155 → ∀ H', Own H' (⟨v153, 4, r.1.Cases.map e_Case⟩ :: ⟨v155, 3, r.1.Line.map e_Slip⟩ :: F) → P (.tup [.agg [.int .i64 r.1.Now, v153, v155], .bool r.2]) H') : ACall C 144 [.agg [.int .i64 a0.Now, m1, m2], .agg [.int .i64 a1.Kind, .int .i64 a1.K]] H P := by
  refine acall_of gC (res := [.cell 4 68, .tmp 5]) (n := 173) rfl rfl rfl rfl fun K0 hK0 => ?_
  simp only [W, Nat.reduceSub, Nat.reduceAdd, List.replicate]
  unfold spec_l16Step at h
  refine w_seq fun K1 hK1 => ?_
  refine w_reg gC ?_
  try simp only [W, Nat.reduceAdd]
  refine w_box hS rfl rfl rfl (by simp only [W, storA, List.all_cons, List.all_nil, qm1.stor, qm2.stor]; rfl) fun ip2 wp2 H hS => ?_
  try simp only [W]
  refine w_box hS rfl rfl rfl rfl fun ip4 wp4 H hS => ?_
  try simp only [W]
  refine w_alloc hS rfl rfl fun ip6 wp6 H hS => ?_
  try simp only [W]
  refine seq_n hK1 ?_
  refine w_seq fun K8 hK8 => ?_
  refine w_seq fun K9 hK9 => ?_
  refine w_reg gC ?_
  try simp only [W, EE, Nat.reduceAdd, Nat.reduceBEq, hS.var 1 rfl]
  refine seq_n hK9 ?_
  refine w_blk fun K10 hK10 => ?_
  refine w_seq fun K11 hK11 => ?_
  refine w_reg gC ?_
  try simp only [W, EE, Nat.reduceAdd]
  refine seq_n hK11 ?_
  refine w_if ?_
  simp only [W]
  refine w_cnd h (fun hc h => ?_) (fun hc h => ?_)
  · refine w_seq fun K12 hK12 => ?_
    refine w_seq fun K13 hK13 => ?_
    obtain ⟨y15, h, g16⟩ := Option.bind_eq_some_iff.1 h
    refine w_join gC (fun s H => ∃ x14 : Bool, y15 = (x14) ∧ s = (u :: u :: .ptr ip2 wp2 0 0 :: u :: .ptr ip6 wp6 0 0 :: u :: u :: u :: u :: u :: u :: u :: u :: u :: u :: u :: u :: u :: u :: u :: u :: u :: .bool x14 :: u :: u :: u :: u :: u :: u :: u :: u :: u :: u :: u :: u :: u :: u :: u :: u :: u :: u :: u :: u :: u :: u :: u :: u :: u :: u :: u :: u :: u :: u :: u :: u :: u :: u :: u :: u :: u :: u :: u :: u :: u :: u :: u :: u :: u :: u :: u :: u :: u :: u :: u :: u :: u :: u :: u :: u :: u :: u :: u :: u :: u :: u :: u :: u :: u :: u :: u :: u :: u :: u :: u :: u :: u :: u :: u :: u :: u :: u :: u :: u :: u :: u :: u :: u :: u :: u :: u :: u :: u :: u :: u :: u :: u :: u :: u :: u :: u :: u :: u :: u :: u :: u :: u :: u :: u :: u :: u :: u :: u :: u :: u :: u :: u :: u :: u :: u :: u :: u :: u :: u :: u :: u :: u :: u :: u :: u :: u :: u :: u :: u :: u :: u :: u :: u :: u :: u :: u :: u :: u :: u :: u :: u :: u :: u :: u :: u :: u :: u :: u :: u :: []) ∧ Own H (⟨m1, 4, a0.Cases.map e_Case⟩ :: ⟨m2, 3, a0.Line.map e_Slip⟩ :: ⟨.ptr ip2 wp2 0 0, 3, [.agg [.int .i64 a0.Now, m1, m2]]⟩ :: ⟨.ptr ip6 wp6 0 0, 3, [.agg [.int .i64 0, .nil, .nil]]⟩ :: F)) (fun K17 hK17 => ?_) (fun s H hq => ?_)
    · refine w_seq fun K18 hK18 => ?_
      refine w_reg gC ?_
      try simp only [W, EE, Nat.reduceAdd, Nat.reduceBEq, hS.var 1 rfl]
      refine w_grdT h (fun hc h => ?_) (fun hc h => ?_)
      · try simp only [W, hc]
        refine seq_n hK18 ?_
        refine w_killE (s' := (u :: u :: .ptr ip2 wp2 0 0 :: u :: .ptr ip6 wp6 0 0 :: u :: u :: u :: u :: u :: u :: u :: u :: u :: u :: u :: u :: u :: u :: u :: u :: u :: .bool true :: u :: u :: u :: u :: u :: u :: u :: u :: u :: u :: u :: u :: u :: u :: u :: u :: u :: u :: u :: u :: u :: u :: u :: u :: u :: u :: u :: u :: u :: u :: u :: u :: u :: u :: u :: u :: u :: u :: u :: u :: u :: u :: u :: u :: u :: u :: u :: u :: u :: u :: u :: u :: u :: u :: u :: u :: u :: u :: u :: u :: u :: u :: u :: u :: u :: u :: u :: u :: u :: u :: u :: u :: u :: u :: u :: u :: u :: u :: u :: u :: u :: u :: u :: u :: u :: u :: u :: u :: u :: u :: u :: u :: u :: u :: u :: u :: u :: u :: u :: u :: u :: u :: u :: u :: u :: u :: u :: u :: u :: u :: u :: u :: u :: u :: u :: u :: u :: u :: u :: u :: u :: u :: u :: u :: u :: u :: u :: u :: u :: u :: u :: u :: u :: u :: u :: u :: u :: u :: u :: u :: u :: u :: u :: u :: u :: u :: u :: u :: u :: u :: [])) rfl ?_
        exact cut_n hK17 ⟨_, (Option.some.inj h).symm, rfl, (hS.sel 5 [3, 4, 2, 0] (by decide))⟩
      · try simp only [W, EE, reduceIte, Nat.reduceAdd, Nat.reduceBEq, Bool.false_eq_true, hS.var 2 rfl, hc]
        refine seq_n hK18 ?_
        refine w_killE (s' := (u :: u :: .ptr ip2 wp2 0 0 :: u :: .ptr ip6 wp6 0 0 :: u :: u :: u :: u :: u :: u :: u :: u :: u :: u :: u :: u :: u :: u :: u :: u :: u :: .bool (a0.Now == 200) :: u :: u :: u :: u :: u :: u :: u :: u :: u :: u :: u :: u :: u :: u :: u :: u :: u :: u :: u :: u :: u :: u :: u :: u :: u :: u :: u :: u :: u :: u :: u :: u :: u :: u :: u :: u :: u :: u :: u :: u :: u :: u :: u :: u :: u :: u :: u :: u :: u :: u :: u :: u :: u :: u :: u :: u :: u :: u :: u :: u :: u :: u :: u :: u :: u :: u :: u :: u :: u :: u :: u :: u :: u :: u :: u :: u :: u :: u :: u :: u :: u :: u :: u :: u :: u :: u :: u :: u :: u :: u :: u :: u :: u :: u :: u :: u :: u :: u :: u :: u :: u :: u :: u :: u :: u :: u :: u :: u :: u :: u :: u :: u :: u :: u :: u :: u :: u :: u :: u :: u :: u :: u :: u :: u :: u :: u :: u :: u :: u :: u :: u :: u :: u :: u :: u :: u :: u :: u :: u :: u :: u :: u :: u :: u :: u :: u :: u :: u :: u :: u :: [])) rfl ?_
        exact cut_n hK17 ⟨_, (Option.some.inj h).symm, rfl, (hS.sel 5 [3, 4, 2, 0] (by decide))⟩
    · obtain ⟨x14, ey, rfl, hS⟩ := hq; obtain rfl := ey.symm
      replace h := g16
      try dsimp only at h
      refine seq_n hK13 ?_
      refine w_if ?_
      simp only [W]
      refine w_cnd h (fun hc h => ?_) (fun hc h => ?_)
      · refine w_seq fun K19 hK19 => ?_
        refine w_reg gC ?_
        try simp only [W, EE, reduceIte, Nat.reduceAdd, Nat.reduceLeDiff, hS.var 2 rfl]
        refine w_stv (a := .agg [.int .i64 a0.Now, m1, m2]) (y' := .agg [.int .i64 a0.Now, m1, m2]) 3 hS rfl rfl rfl rfl rfl (by simp only [storA, List.all_cons, List.all_nil, qm1.stor, qm2.stor]; rfl) rfl rfl fun H hS => ?_
        try simp only [W]
        refine seq_n hK19 ?_
        refine w_ret ?_
        refine seq_r hK12 ?_
        refine blk_r hK10 ?_
        refine seq_r hK8 ?_
        refine fin_r hK0 (res_c rfl rfl (hS.var 3 rfl) rfl (res_tc rfl rfl)) ?_
        try obtain rfl := Option.some.inj h
        exact hP _ qm1 _ qm2 _ (hS.sel 4 [0, 1] (by decide))
      · refine w_skip ?_
        refine seq_n hK12 ?_
        refine w_seq fun K20 hK20 => ?_
        refine w_reg gC ?_
        try simp only [W, EE, Nat.reduceAdd, Nat.reduceBEq, hS.var 2 rfl]
        refine w_stv (a := .int .i64 (IntKind.i64.wrap (a0.Now + 1))) (y' := .agg [.int .i64 (IntKind.i64.wrap (a0.Now + 1)), m1, m2]) 2 hS rfl rfl rfl rfl rfl rfl rfl rfl fun H hS => ?_
        try simp only [W]
        refine seq_n hK20 ?_
        refine w_seq fun K21 hK21 => ?_
        refine w_seq fun K22 hK22 => ?_
        refine w_reg gC ?_
        try simp only [W, EE, Nat.reduceAdd, Nat.reduceBEq, hS.var 2 rfl]
        refine w_len 0 hS rfl qm1 rfl ?_
        try simp only [W]
        refine seq_n hK22 ?_
        obtain ⟨y26, hw27, g33⟩ := Option.bind_eq_some_iff.1 h
        refine w_join gC (fun s H => ∃ x25 : List Case, y26 = (x25) ∧ s = (u :: u :: .ptr ip2 wp2 0 0 :: u :: .ptr ip6 wp6 0 0 :: u :: u :: u :: u :: u :: u :: u :: u :: u :: u :: u :: u :: u :: u :: u :: u :: u :: u :: u :: u :: u :: u :: u :: u :: u :: u :: u :: u :: u :: u :: u :: u :: u :: u :: u :: u :: u :: u :: u :: u :: u :: u :: u :: u :: u :: u :: u :: u :: u :: u :: u :: u :: u :: u :: u :: u :: u :: u :: u :: u :: u :: u :: u :: u :: u :: u :: u :: u :: u :: u :: u :: u :: u :: u :: u :: u :: u :: u :: u :: u :: u :: u :: u :: u :: u :: u :: u :: u :: u :: u :: u :: u :: u :: u :: u :: u :: u :: u :: u :: u :: u :: u :: u :: u :: u :: u :: u :: u :: u :: u :: u :: u :: u :: u :: u :: u :: u :: u :: u :: u :: u :: u :: u :: u :: u :: u :: u :: u :: u :: u :: u :: u :: u :: u :: u :: u :: u :: u :: u :: u :: u :: u :: u :: u :: u :: u :: u :: u :: u :: u :: u :: u :: u :: u :: u :: u :: u :: u :: u :: u :: u :: u :: u :: u :: u :: u :: u :: u :: []) ∧ Own H (⟨m1, 4, x25.map e_Case⟩ :: ⟨m2, 3, a0.Line.map e_Slip⟩ :: ⟨.ptr ip2 wp2 0 0, 3, [.agg [.int .i64 (IntKind.i64.wrap (a0.Now + 1)), m1, m2]]⟩ :: ⟨.ptr ip6 wp6 0 0, 3, [.agg [.int .i64 0, .nil, .nil]]⟩ :: F)) (fun K28 hK28 => ?_) (fun s H hq => ?_)
        · refine w_blk fun K29 hK29 => ?_
          refine w_loop gC hw27 (fun x s H => match x with | (x23, x24) => s = (u :: u :: .ptr ip2 wp2 0 0 :: u :: .ptr ip6 wp6 0 0 :: u :: u :: u :: u :: u :: u :: u :: u :: u :: u :: u :: u :: u :: u :: u :: u :: u :: u :: u :: u :: u :: u :: u :: u :: m1 :: .int .i64 (a0.Cases.length : Int) :: .int .i64 x24 :: u :: u :: u :: u :: u :: u :: u :: u :: u :: u :: u :: u :: u :: u :: u :: u :: u :: u :: u :: u :: u :: u :: u :: u :: u :: u :: u :: u :: u :: u :: u :: u :: u :: u :: u :: u :: u :: u :: u :: u :: u :: u :: u :: u :: u :: u :: u :: u :: u :: u :: u :: u :: u :: u :: u :: u :: u :: u :: u :: u :: u :: u :: u :: u :: u :: u :: u :: u :: u :: u :: u :: u :: u :: u :: u :: u :: u :: u :: u :: u :: u :: u :: u :: u :: u :: u :: u :: u :: u :: u :: u :: u :: u :: u :: u :: u :: u :: u :: u :: u :: u :: u :: u :: u :: u :: u :: u :: u :: u :: u :: u :: u :: u :: u :: u :: u :: u :: u :: u :: u :: u :: u :: u :: u :: u :: u :: u :: u :: u :: u :: u :: u :: u :: u :: u :: u :: u :: u :: u :: u :: u :: []) ∧ Own H (⟨m1, 4, x23.map e_Case⟩ :: ⟨m2, 3, a0.Line.map e_Slip⟩ :: ⟨.ptr ip2 wp2 0 0, 3, [.agg [.int .i64 (IntKind.i64.wrap (a0.Now + 1)), m1, m2]]⟩ :: ⟨.ptr ip6 wp6 0 0, 3, [.agg [.int .i64 0, .nil, .nil]]⟩ :: F)) ⟨rfl, hS⟩ (fun x y32 s H h hd31 hi K30 hK30 => ?_)
          obtain ⟨x23, x24⟩ := x
          try dsimp only at hi
          obtain ⟨rfl, hS⟩ := hi
          simp only [spec_l16Step_l0] at h
          refine w_seq fun K34 hK34 => ?_
          refine w_reg gC ?_
          try simp only [W, EE, Nat.reduceAdd]
          refine seq_n hK34 ?_
          refine w_seq fun K35 hK35 => ?_
          refine w_if ?_
          simp only [W]
          refine w_cnd h (fun hc h => ?_) (fun hc h => ?_)
          · refine w_skip ?_
            refine seq_n hK35 ?_
            refine w_seq fun K36 hK36 => ?_
            obtain ⟨y39, h, g40⟩ := Option.bind_eq_some_iff.1 h
            refine w_join gC (fun s H => ∃ x38 : List Case, y39 = (x38) ∧ s = (u :: u :: .ptr ip2 wp2 0 0 :: u :: .ptr ip6 wp6 0 0 :: u :: u :: u :: u :: u :: u :: u :: u :: u :: u :: u :: u :: u :: u :: u :: u :: u :: u :: u :: u :: u :: u :: u :: u :: m1 :: .int .i64 (a0.Cases.length : Int) :: .int .i64 x24 :: u :: u :: u :: u :: u :: u :: u :: u :: u :: u :: u :: u :: u :: u :: u :: u :: u :: u :: u :: u :: u :: u :: u :: u :: u :: u :: u :: u :: u :: u :: u :: u :: u :: u :: u :: u :: u :: u :: u :: u :: u :: u :: u :: u :: u :: u :: u :: u :: u :: u :: u :: u :: u :: u :: u :: u :: u :: u :: u :: u :: u :: u :: u :: u :: u :: u :: u :: u :: u :: u :: u :: u :: u :: u :: u :: u :: u :: u :: u :: u :: u :: u :: u :: u :: u :: u :: u :: u :: u :: u :: u :: u :: u :: u :: u :: u :: u :: u :: u :: u :: u :: u :: u :: u :: u :: u :: u :: u :: u :: u :: u :: u :: u :: u :: u :: u :: u :: u :: u :: u :: u :: u :: u :: u :: u :: u :: u :: u :: u :: u :: u :: u :: u :: u :: u :: u :: u :: u :: u :: u :: u :: []) ∧ Own H (⟨m1, 4, x38.map e_Case⟩ :: ⟨m2, 3, a0.Line.map e_Slip⟩ :: ⟨.ptr ip2 wp2 0 0, 3, [.agg [.int .i64 (IntKind.i64.wrap (a0.Now + 1)), m1, m2]]⟩ :: ⟨.ptr ip6 wp6 0 0, 3, [.agg [.int .i64 0, .nil, .nil]]⟩ :: F)) (fun K41 hK41 => ?_) (fun s H hq => ?_)
            · refine w_blk fun K37 hK37 => ?_
              refine w_seq fun K42 hK42 => ?_
              refine w_reg gC ?_
              try simp only [W, EE, Nat.reduceAdd]
              refine w_ow 0 hS rfl rfl rfl rfl rfl h (fun b43 in44 wn44 on44 hb43 h en44 => ?_) qm1.ne
              obtain ⟨kn44, hbn44, hen44⟩ := hS.elem 0 rfl en44 hb43
              try simp only [W, EE, EN, reduceIte, Nat.reduceAdd, Nat.reduceLeDiff, hbn44, hen44]
              refine w_alloc hS rfl rfl fun ip45 wp45 H hS => ?_
              try simp only [W]
              refine w_stv (a := .agg [.int .i64 b43.End, .bool b43.Asks, .int .i64 b43.Final, .int .i64 b43.Said]) (y' := .agg [.int .i64 b43.End, .bool b43.Asks, .int .i64 b43.Final, .int .i64 b43.Said]) 0 hS rfl rfl rfl rfl rfl rfl rfl rfl fun H hS => ?_
              try simp only [W]
              refine seq_n hK42 ?_
              refine w_seq fun K47 hK47 => ?_
              obtain ⟨y49, h, g50⟩ := Option.bind_eq_some_iff.1 h
              refine w_join gC (fun s H => ∃ x48 : Bool, y49 = (x48) ∧ s = (u :: u :: .ptr ip2 wp2 0 0 :: u :: .ptr ip6 wp6 0 0 :: u :: .int .i64 x24 :: u :: u :: u :: u :: u :: u :: u :: u :: u :: u :: u :: u :: u :: u :: u :: u :: u :: u :: u :: u :: u :: u :: m1 :: .int .i64 (a0.Cases.length : Int) :: .int .i64 x24 :: u :: u :: u :: u :: u :: u :: u :: u :: u :: u :: u :: u :: u :: .bool x48 :: u :: u :: u :: u :: u :: u :: u :: u :: u :: u :: u :: u :: u :: u :: u :: u :: u :: u :: u :: u :: u :: u :: u :: u :: u :: u :: u :: u :: u :: u :: u :: u :: u :: u :: u :: u :: u :: u :: u :: u :: u :: u :: u :: u :: u :: u :: u :: u :: u :: u :: u :: u :: u :: u :: u :: u :: u :: u :: u :: u :: u :: u :: u :: u :: u :: u :: u :: u :: u :: u :: u :: u :: u :: u :: u :: u :: u :: u :: u :: u :: u :: u :: u :: u :: u :: u :: u :: u :: u :: u :: u :: u :: u :: u :: u :: u :: u :: u :: u :: u :: u :: u :: u :: u :: u :: u :: u :: u :: u :: u :: u :: u :: u :: u :: u :: u :: u :: u :: u :: u :: u :: u :: u :: u :: u :: u :: u :: []) ∧ Own H (⟨m1, 4, x23.map e_Case⟩ :: ⟨m2, 3, a0.Line.map e_Slip⟩ :: ⟨.ptr ip2 wp2 0 0, 3, [.agg [.int .i64 (IntKind.i64.wrap (a0.Now + 1)), m1, m2]]⟩ :: ⟨.ptr ip6 wp6 0 0, 3, [.agg [.int .i64 0, .nil, .nil]]⟩ :: F)) (fun K51 hK51 => ?_) (fun s H hq => ?_)
              · refine w_seq fun K52 hK52 => ?_
                refine w_reg gC ?_
                try simp only [W, EE, Nat.reduceAdd, Nat.reduceBEq, hS.var 0 rfl]
                refine w_grdT h (fun hc h => ?_) (fun hc h => ?_)
                · try simp only [W, EE, reduceIte, Nat.reduceAdd, Nat.reduceBEq, hS.var 3 rfl, hS.var 0 rfl, hc]
                  refine seq_n hK52 ?_
                  refine w_killE (s' := (u :: u :: .ptr ip2 wp2 0 0 :: u :: .ptr ip6 wp6 0 0 :: u :: .int .i64 x24 :: u :: u :: u :: u :: u :: u :: u :: u :: u :: u :: u :: u :: u :: u :: u :: u :: u :: u :: u :: u :: u :: u :: m1 :: .int .i64 (a0.Cases.length : Int) :: .int .i64 x24 :: u :: u :: u :: u :: u :: u :: u :: u :: u :: u :: u :: u :: u :: .bool (decide (b43.End < (IntKind.i64.wrap (a0.Now + 1)))) :: u :: u :: u :: u :: u :: u :: u :: u :: u :: u :: u :: u :: u :: u :: u :: u :: u :: u :: u :: u :: u :: u :: u :: u :: u :: u :: u :: u :: u :: u :: u :: u :: u :: u :: u :: u :: u :: u :: u :: u :: u :: u :: u :: u :: u :: u :: u :: u :: u :: u :: u :: u :: u :: u :: u :: u :: u :: u :: u :: u :: u :: u :: u :: u :: u :: u :: u :: u :: u :: u :: u :: u :: u :: u :: u :: u :: u :: u :: u :: u :: u :: u :: u :: u :: u :: u :: u :: u :: u :: u :: u :: u :: u :: u :: u :: u :: u :: u :: u :: u :: u :: u :: u :: u :: u :: u :: u :: u :: u :: u :: u :: u :: u :: u :: u :: u :: u :: u :: u :: u :: u :: u :: u :: u :: u :: u :: u :: [])) rfl ?_
                  exact cut_n hK51 ⟨_, (Option.some.inj h).symm, rfl, (hS.sel 5 [1, 2, 3, 4] (by decide))⟩
                · try simp only [W, hc]
                  refine seq_n hK52 ?_
                  refine w_killE (s' := (u :: u :: .ptr ip2 wp2 0 0 :: u :: .ptr ip6 wp6 0 0 :: u :: .int .i64 x24 :: u :: u :: u :: u :: u :: u :: u :: u :: u :: u :: u :: u :: u :: u :: u :: u :: u :: u :: u :: u :: u :: u :: m1 :: .int .i64 (a0.Cases.length : Int) :: .int .i64 x24 :: u :: u :: u :: u :: u :: u :: u :: u :: u :: u :: u :: u :: u :: .bool false :: u :: u :: u :: u :: u :: u :: u :: u :: u :: u :: u :: u :: u :: u :: u :: u :: u :: u :: u :: u :: u :: u :: u :: u :: u :: u :: u :: u :: u :: u :: u :: u :: u :: u :: u :: u :: u :: u :: u :: u :: u :: u :: u :: u :: u :: u :: u :: u :: u :: u :: u :: u :: u :: u :: u :: u :: u :: u :: u :: u :: u :: u :: u :: u :: u :: u :: u :: u :: u :: u :: u :: u :: u :: u :: u :: u :: u :: u :: u :: u :: u :: u :: u :: u :: u :: u :: u :: u :: u :: u :: u :: u :: u :: u :: u :: u :: u :: u :: u :: u :: u :: u :: u :: u :: u :: u :: u :: u :: u :: u :: u :: u :: u :: u :: u :: u :: u :: u :: u :: u :: u :: u :: u :: u :: u :: u :: u :: [])) rfl ?_
                  exact cut_n hK51 ⟨_, (Option.some.inj h).symm, rfl, (hS.sel 5 [1, 2, 3, 4] (by decide))⟩
              · obtain ⟨x48, ey, rfl, hS⟩ := hq; obtain rfl := ey.symm
                replace h := g50
                try dsimp only at h
                refine seq_n hK47 ?_
                obtain ⟨y54, h, g55⟩ := Option.bind_eq_some_iff.1 h
                refine w_join gC (fun s H => ∃ x53 : List Case, y54 = (x53) ∧ s = (u :: u :: .ptr ip2 wp2 0 0 :: u :: .ptr ip6 wp6 0 0 :: u :: u :: u :: u :: u :: u :: u :: u :: u :: u :: u :: u :: u :: u :: u :: u :: u :: u :: u :: u :: u :: u :: u :: u :: m1 :: .int .i64 (a0.Cases.length : Int) :: .int .i64 x24 :: u :: u :: u :: u :: u :: u :: u :: u :: u :: u :: u :: u :: u :: u :: u :: u :: u :: u :: u :: u :: u :: u :: u :: u :: u :: u :: u :: u :: u :: u :: u :: u :: u :: u :: u :: u :: u :: u :: u :: u :: u :: u :: u :: u :: u :: u :: u :: u :: u :: u :: u :: u :: u :: u :: u :: u :: u :: u :: u :: u :: u :: u :: u :: u :: u :: u :: u :: u :: u :: u :: u :: u :: u :: u :: u :: u :: u :: u :: u :: u :: u :: u :: u :: u :: u :: u :: u :: u :: u :: u :: u :: u :: u :: u :: u :: u :: u :: u :: u :: u :: u :: u :: u :: u :: u :: u :: u :: u :: u :: u :: u :: u :: u :: u :: u :: u :: u :: u :: u :: u :: u :: u :: u :: u :: u :: u :: u :: u :: u :: u :: u :: u :: u :: u :: u :: u :: u :: u :: u :: u :: u :: []) ∧ Own H (⟨m1, 4, x53.map e_Case⟩ :: ⟨m2, 3, a0.Line.map e_Slip⟩ :: ⟨.ptr ip2 wp2 0 0, 3, [.agg [.int .i64 (IntKind.i64.wrap (a0.Now + 1)), m1, m2]]⟩ :: ⟨.ptr ip6 wp6 0 0, 3, [.agg [.int .i64 0, .nil, .nil]]⟩ :: F)) (fun K56 hK56 => ?_) (fun s H hq => ?_)
                · refine w_seq fun K57 hK57 => ?_
                  refine w_if ?_
                  simp only [W]
                  refine w_cnd h (fun hc h => ?_) (fun hc h => ?_)
                  · refine w_reg gC ?_
                    try simp only [W, EE, Nat.reduceAdd, Nat.reduceBEq, hS.var 2 rfl]
                    refine w_ow 0 hS rfl rfl rfl rfl rfl h (fun b58 in59 wn59 on59 hb58 h en59 => ?_) qm1.ne
                    obtain ⟨kn59, hbn59, hen59⟩ := hS.elem 0 rfl en59 hb58
                    try simp only [W, EE, Nat.reduceAdd, Nat.reduceBEq, hbn59]
                    refine w_ste (a := .int .i64 2) (y' := (⟨b58.End, b58.Asks, b58.Final, 2⟩ : Case)) 0 hS rfl en59 hb58 rfl rfl rfl rfl rfl rfl rfl fun H hS => ?_
                    try simp only [W]
                    refine seq_n hK57 ?_
                    refine w_killE (s' := (u :: u :: .ptr ip2 wp2 0 0 :: u :: .ptr ip6 wp6 0 0 :: u :: u :: u :: u :: u :: u :: u :: u :: u :: u :: u :: u :: u :: u :: u :: u :: u :: u :: u :: u :: u :: u :: u :: u :: m1 :: .int .i64 (a0.Cases.length : Int) :: .int .i64 x24 :: u :: u :: u :: u :: u :: u :: u :: u :: u :: u :: u :: u :: u :: u :: u :: u :: u :: u :: u :: u :: u :: u :: u :: u :: u :: u :: u :: u :: u :: u :: u :: u :: u :: u :: u :: u :: u :: u :: u :: u :: u :: u :: u :: u :: u :: u :: u :: u :: u :: u :: u :: u :: u :: u :: u :: u :: u :: u :: u :: u :: u :: u :: u :: u :: u :: u :: u :: u :: u :: u :: u :: u :: u :: u :: u :: u :: u :: u :: u :: u :: u :: u :: u :: u :: u :: u :: u :: u :: u :: u :: u :: u :: u :: u :: u :: u :: u :: u :: u :: u :: u :: u :: u :: u :: u :: u :: u :: u :: u :: u :: u :: u :: u :: u :: u :: u :: u :: u :: u :: u :: u :: u :: u :: u :: u :: u :: u :: u :: u :: u :: u :: u :: u :: u :: u :: u :: u :: u :: u :: u :: u :: [])) rfl ?_
                    exact cut_n hK56 ⟨_, (Option.some.inj h).symm, rfl, hS⟩
                  · refine w_skip ?_
                    refine seq_n hK57 ?_
                    refine w_killE (s' := (u :: u :: .ptr ip2 wp2 0 0 :: u :: .ptr ip6 wp6 0 0 :: u :: u :: u :: u :: u :: u :: u :: u :: u :: u :: u :: u :: u :: u :: u :: u :: u :: u :: u :: u :: u :: u :: u :: u :: m1 :: .int .i64 (a0.Cases.length : Int) :: .int .i64 x24 :: u :: u :: u :: u :: u :: u :: u :: u :: u :: u :: u :: u :: u :: u :: u :: u :: u :: u :: u :: u :: u :: u :: u :: u :: u :: u :: u :: u :: u :: u :: u :: u :: u :: u :: u :: u :: u :: u :: u :: u :: u :: u :: u :: u :: u :: u :: u :: u :: u :: u :: u :: u :: u :: u :: u :: u :: u :: u :: u :: u :: u :: u :: u :: u :: u :: u :: u :: u :: u :: u :: u :: u :: u :: u :: u :: u :: u :: u :: u :: u :: u :: u :: u :: u :: u :: u :: u :: u :: u :: u :: u :: u :: u :: u :: u :: u :: u :: u :: u :: u :: u :: u :: u :: u :: u :: u :: u :: u :: u :: u :: u :: u :: u :: u :: u :: u :: u :: u :: u :: u :: u :: u :: u :: u :: u :: u :: u :: u :: u :: u :: u :: u :: u :: u :: u :: u :: u :: u :: u :: u :: u :: [])) rfl ?_
                    exact cut_n hK56 ⟨_, (Option.some.inj h).symm, rfl, hS⟩
                · obtain ⟨x53, ey, rfl, hS⟩ := hq; obtain rfl := ey.symm
                  replace h := g55
                  try dsimp only at h
                  refine blk_n hK37 ?_
                  exact cut_n hK41 ⟨_, (Option.some.inj h).symm, rfl, hS⟩
            · obtain ⟨x38, ey, rfl, hS⟩ := hq; obtain rfl := ey.symm
              replace h := g40
              try dsimp only at h
              refine seq_n hK36 ?_
              refine w_reg gC ?_
              try simp only [W, EE, Nat.reduceAdd]
              exact lp_n hK30 h ⟨rfl, hS⟩
          · refine w_exit ?_
            refine seq_x hK35 ?_
            try obtain rfl := Option.some.inj h
            obtain rfl := hd31 _ rfl
            have h : (some (x23) : Option ((List Case))) = some (x23) := rfl
            refine lp_x hK30 ?_
            refine blk_e hK29 ?_
            exact cut_n hK28 ⟨_, (Option.some.inj h).symm, rfl, hS⟩
        · obtain ⟨x25, ey, rfl, hS⟩ := hq; obtain rfl := ey.symm
          replace h := g33
          try dsimp only at h
          refine seq_n hK21 ?_
          refine w_seq fun K62 hK62 => ?_
          refine w_reg gC ?_
          try simp only [W, EE, reduceIte, Nat.reduceAdd, Nat.reduceLeDiff, hS.var 2 rfl]
          refine w_stv (a := .agg [.int .i64 (IntKind.i64.wrap (a0.Now + 1)), m1, m2]) (y' := .agg [.int .i64 (IntKind.i64.wrap (a0.Now + 1)), m1, m2]) 3 hS rfl rfl rfl rfl rfl (by simp only [storA, List.all_cons, List.all_nil, qm1.stor, qm2.stor]; rfl) rfl rfl fun H hS => ?_
          try simp only [W]
          refine seq_n hK62 ?_
          refine w_ret ?_
          refine blk_r hK10 ?_
          refine seq_r hK8 ?_
          refine fin_r hK0 (res_c rfl rfl (hS.var 3 rfl) rfl (res_tc rfl rfl)) ?_
          try obtain rfl := Option.some.inj h
          exact hP _ qm1 _ qm2 _ (hS.sel 4 [0, 1] (by decide))
  · refine w_seq fun K63 hK63 => ?_
    refine w_seq fun K64 hK64 => ?_
    refine w_reg gC ?_
    try simp only [W, EE, Nat.reduceAdd]
    refine seq_n hK64 ?_
    obtain ⟨y66, h, g67⟩ := Option.bind_eq_some_iff.1 h
    refine w_join gC (fun s H => ∃ x65 : Bool, y66 = (x65) ∧ s = (u :: u :: .ptr ip2 wp2 0 0 :: .ptr ip4 wp4 0 0 :: .ptr ip6 wp6 0 0 :: u :: u :: u :: u :: u :: u :: u :: u :: u :: u :: u :: u :: u :: u :: u :: u :: u :: u :: u :: u :: u :: u :: u :: u :: u :: u :: u :: u :: u :: u :: u :: u :: u :: u :: u :: u :: u :: u :: u :: u :: u :: u :: u :: u :: u :: u :: u :: u :: .bool x65 :: u :: u :: u :: u :: u :: u :: u :: u :: u :: u :: u :: u :: u :: u :: u :: u :: u :: u :: u :: u :: u :: u :: u :: u :: u :: u :: u :: u :: u :: u :: u :: u :: u :: u :: u :: u :: u :: u :: u :: u :: u :: u :: u :: u :: u :: u :: u :: u :: u :: u :: u :: u :: u :: u :: u :: u :: u :: u :: u :: u :: u :: u :: u :: u :: u :: u :: u :: u :: u :: u :: u :: u :: u :: u :: u :: u :: u :: u :: u :: u :: u :: u :: u :: u :: u :: u :: u :: u :: u :: u :: u :: u :: u :: u :: u :: u :: u :: u :: u :: u :: u :: u :: u :: u :: u :: u :: u :: u :: u :: u :: u :: u :: u :: u :: u :: u :: u :: u :: u :: []) ∧ Own H (⟨m1, 4, a0.Cases.map e_Case⟩ :: ⟨m2, 3, a0.Line.map e_Slip⟩ :: ⟨.ptr ip2 wp2 0 0, 3, [.agg [.int .i64 a0.Now, m1, m2]]⟩ :: ⟨.ptr ip4 wp4 0 0, 2, [.agg [.int .i64 a1.Kind, .int .i64 a1.K]]⟩ :: ⟨.ptr ip6 wp6 0 0, 3, [.agg [.int .i64 0, .nil, .nil]]⟩ :: F)) (fun K68 hK68 => ?_) (fun s H hq => ?_)
    · refine w_seq fun K69 hK69 => ?_
      refine w_if ?_
      simp only [W]
      refine w_cnd h (fun hc h => ?_) (fun hc h => ?_)
      · refine w_skip ?_
        refine seq_n hK69 ?_
        refine w_killE (s' := (u :: u :: .ptr ip2 wp2 0 0 :: .ptr ip4 wp4 0 0 :: .ptr ip6 wp6 0 0 :: u :: u :: u :: u :: u :: u :: u :: u :: u :: u :: u :: u :: u :: u :: u :: u :: u :: u :: u :: u :: u :: u :: u :: u :: u :: u :: u :: u :: u :: u :: u :: u :: u :: u :: u :: u :: u :: u :: u :: u :: u :: u :: u :: u :: u :: u :: u :: u :: .bool (a1.Kind == 1) :: u :: u :: u :: u :: u :: u :: u :: u :: u :: u :: u :: u :: u :: u :: u :: u :: u :: u :: u :: u :: u :: u :: u :: u :: u :: u :: u :: u :: u :: u :: u :: u :: u :: u :: u :: u :: u :: u :: u :: u :: u :: u :: u :: u :: u :: u :: u :: u :: u :: u :: u :: u :: u :: u :: u :: u :: u :: u :: u :: u :: u :: u :: u :: u :: u :: u :: u :: u :: u :: u :: u :: u :: u :: u :: u :: u :: u :: u :: u :: u :: u :: u :: u :: u :: u :: u :: u :: u :: u :: u :: u :: u :: u :: u :: u :: u :: u :: u :: u :: u :: u :: u :: u :: u :: u :: u :: u :: u :: u :: u :: u :: u :: u :: u :: u :: u :: u :: u :: u :: [])) rfl ?_
        exact cut_n hK68 ⟨_, (Option.some.inj h).symm, rfl, (hS.sel 5 [3, 4, 2, 1, 0] (by decide))⟩
      · refine w_reg gC ?_
        try simp only [W, EE, Nat.reduceAdd]
        refine seq_n hK69 ?_
        refine w_killE (s' := (u :: u :: .ptr ip2 wp2 0 0 :: .ptr ip4 wp4 0 0 :: .ptr ip6 wp6 0 0 :: u :: u :: u :: u :: u :: u :: u :: u :: u :: u :: u :: u :: u :: u :: u :: u :: u :: u :: u :: u :: u :: u :: u :: u :: u :: u :: u :: u :: u :: u :: u :: u :: u :: u :: u :: u :: u :: u :: u :: u :: u :: u :: u :: u :: u :: u :: u :: u :: .bool (a1.Kind == 2) :: u :: u :: u :: u :: u :: u :: u :: u :: u :: u :: u :: u :: u :: u :: u :: u :: u :: u :: u :: u :: u :: u :: u :: u :: u :: u :: u :: u :: u :: u :: u :: u :: u :: u :: u :: u :: u :: u :: u :: u :: u :: u :: u :: u :: u :: u :: u :: u :: u :: u :: u :: u :: u :: u :: u :: u :: u :: u :: u :: u :: u :: u :: u :: u :: u :: u :: u :: u :: u :: u :: u :: u :: u :: u :: u :: u :: u :: u :: u :: u :: u :: u :: u :: u :: u :: u :: u :: u :: u :: u :: u :: u :: u :: u :: u :: u :: u :: u :: u :: u :: u :: u :: u :: u :: u :: u :: u :: u :: u :: u :: u :: u :: u :: u :: u :: u :: u :: u :: u :: [])) rfl ?_
        exact cut_n hK68 ⟨_, (Option.some.inj h).symm, rfl, (hS.sel 5 [3, 4, 2, 1, 0] (by decide))⟩
    · obtain ⟨x65, ey, rfl, hS⟩ := hq; obtain rfl := ey.symm
      replace h := g67
      try dsimp only at h
      refine seq_n hK63 ?_
      refine w_seq fun K70 hK70 => ?_
      refine w_if ?_
      simp only [W]
      refine w_cnd h (fun hc h => ?_) (fun hc h => ?_)
      · refine w_seq fun K71 hK71 => ?_
        refine w_seq fun K72 hK72 => ?_
        obtain ⟨y74, h, g75⟩ := Option.bind_eq_some_iff.1 h
        refine w_join gC (fun s H => ∃ x73 : Bool, y74 = (x73) ∧ s = (u :: u :: .ptr ip2 wp2 0 0 :: .ptr ip4 wp4 0 0 :: .ptr ip6 wp6 0 0 :: u :: u :: u :: u :: u :: u :: u :: u :: u :: u :: u :: u :: u :: u :: u :: u :: u :: u :: u :: u :: u :: u :: u :: u :: u :: u :: u :: u :: u :: u :: u :: u :: u :: u :: u :: u :: u :: u :: u :: u :: u :: u :: u :: u :: u :: u :: u :: u :: u :: u :: u :: u :: u :: u :: u :: u :: u :: u :: u :: u :: u :: u :: u :: u :: u :: u :: u :: u :: u :: u :: u :: u :: u :: u :: u :: u :: u :: u :: u :: u :: u :: u :: u :: u :: u :: .bool x73 :: u :: u :: u :: u :: u :: u :: u :: u :: u :: u :: u :: u :: u :: u :: u :: u :: u :: u :: u :: u :: u :: u :: u :: u :: u :: u :: u :: u :: u :: u :: u :: u :: u :: u :: u :: u :: u :: u :: u :: u :: u :: u :: u :: u :: u :: u :: u :: u :: u :: u :: u :: u :: u :: u :: u :: u :: u :: u :: u :: u :: u :: u :: u :: u :: u :: u :: u :: u :: u :: u :: u :: u :: u :: u :: u :: u :: u :: u :: u :: u :: u :: u :: []) ∧ Own H (⟨m1, 4, a0.Cases.map e_Case⟩ :: ⟨m2, 3, a0.Line.map e_Slip⟩ :: ⟨.ptr ip2 wp2 0 0, 3, [.agg [.int .i64 a0.Now, m1, m2]]⟩ :: ⟨.ptr ip4 wp4 0 0, 2, [.agg [.int .i64 a1.Kind, .int .i64 a1.K]]⟩ :: ⟨.ptr ip6 wp6 0 0, 3, [.agg [.int .i64 0, .nil, .nil]]⟩ :: F)) (fun K76 hK76 => ?_) (fun s H hq => ?_)
        · refine w_seq fun K77 hK77 => ?_
          refine w_reg gC ?_
          try simp only [W, EE, Nat.reduceAdd, Nat.reduceBEq, hS.var 3 rfl]
          refine w_grdT h (fun hc h => ?_) (fun hc h => ?_)
          · try simp only [W, hc]
            refine seq_n hK77 ?_
            refine w_killE (s' := (u :: u :: .ptr ip2 wp2 0 0 :: .ptr ip4 wp4 0 0 :: .ptr ip6 wp6 0 0 :: u :: u :: u :: u :: u :: u :: u :: u :: u :: u :: u :: u :: u :: u :: u :: u :: u :: u :: u :: u :: u :: u :: u :: u :: u :: u :: u :: u :: u :: u :: u :: u :: u :: u :: u :: u :: u :: u :: u :: u :: u :: u :: u :: u :: u :: u :: u :: u :: u :: u :: u :: u :: u :: u :: u :: u :: u :: u :: u :: u :: u :: u :: u :: u :: u :: u :: u :: u :: u :: u :: u :: u :: u :: u :: u :: u :: u :: u :: u :: u :: u :: u :: u :: u :: u :: .bool true :: u :: u :: u :: u :: u :: u :: u :: u :: u :: u :: u :: u :: u :: u :: u :: u :: u :: u :: u :: u :: u :: u :: u :: u :: u :: u :: u :: u :: u :: u :: u :: u :: u :: u :: u :: u :: u :: u :: u :: u :: u :: u :: u :: u :: u :: u :: u :: u :: u :: u :: u :: u :: u :: u :: u :: u :: u :: u :: u :: u :: u :: u :: u :: u :: u :: u :: u :: u :: u :: u :: u :: u :: u :: u :: u :: u :: u :: u :: u :: u :: u :: u :: [])) rfl ?_
            exact cut_n hK76 ⟨_, (Option.some.inj h).symm, rfl, hS⟩
          · try simp only [W, EE, Nat.reduceAdd, Nat.reduceBEq, hS.var 2 rfl, hS.var 3 rfl, hc]
            refine w_len 0 hS rfl qm1 rfl ?_
            try simp only [W, EE, reduceIte, Bool.false_eq_true]
            refine w_grdT h (fun hc h => ?_) (fun hc h => ?_)
            · try simp only [W, hc]
              refine seq_n hK77 ?_
              refine w_killE (s' := (u :: u :: .ptr ip2 wp2 0 0 :: .ptr ip4 wp4 0 0 :: .ptr ip6 wp6 0 0 :: u :: u :: u :: u :: u :: u :: u :: u :: u :: u :: u :: u :: u :: u :: u :: u :: u :: u :: u :: u :: u :: u :: u :: u :: u :: u :: u :: u :: u :: u :: u :: u :: u :: u :: u :: u :: u :: u :: u :: u :: u :: u :: u :: u :: u :: u :: u :: u :: u :: u :: u :: u :: u :: u :: u :: u :: u :: u :: u :: u :: u :: u :: u :: u :: u :: u :: u :: u :: u :: u :: u :: u :: u :: u :: u :: u :: u :: u :: u :: u :: u :: u :: u :: u :: u :: .bool true :: u :: u :: u :: u :: u :: u :: u :: u :: u :: u :: u :: u :: u :: u :: u :: u :: u :: u :: u :: u :: u :: u :: u :: u :: u :: u :: u :: u :: u :: u :: u :: u :: u :: u :: u :: u :: u :: u :: u :: u :: u :: u :: u :: u :: u :: u :: u :: u :: u :: u :: u :: u :: u :: u :: u :: u :: u :: u :: u :: u :: u :: u :: u :: u :: u :: u :: u :: u :: u :: u :: u :: u :: u :: u :: u :: u :: u :: u :: u :: u :: u :: u :: [])) rfl ?_
              exact cut_n hK76 ⟨_, (Option.some.inj h).symm, rfl, hS⟩
            · try simp only [W, EE, Nat.reduceAdd, Nat.reduceBEq, hS.var 2 rfl, hS.var 3 rfl, hc]
              refine w_ow 0 hS rfl rfl rfl rfl rfl h (fun b78 in79 wn79 on79 hb78 h en79 => ?_) qm1.ne
              obtain ⟨kn79, hbn79, hen79⟩ := hS.elem 0 rfl en79 hb78
              try simp only [W, EE, EN, reduceIte, Nat.reduceAdd, Nat.reduceBEq, Bool.false_eq_true, hbn79, hen79]
              refine w_grdT h (fun hc h => ?_) (fun hc h => ?_)
              · try simp only [W, hc]
                refine seq_n hK77 ?_
                refine w_killE (s' := (u :: u :: .ptr ip2 wp2 0 0 :: .ptr ip4 wp4 0 0 :: .ptr ip6 wp6 0 0 :: u :: u :: u :: u :: u :: u :: u :: u :: u :: u :: u :: u :: u :: u :: u :: u :: u :: u :: u :: u :: u :: u :: u :: u :: u :: u :: u :: u :: u :: u :: u :: u :: u :: u :: u :: u :: u :: u :: u :: u :: u :: u :: u :: u :: u :: u :: u :: u :: u :: u :: u :: u :: u :: u :: u :: u :: u :: u :: u :: u :: u :: u :: u :: u :: u :: u :: u :: u :: u :: u :: u :: u :: u :: u :: u :: u :: u :: u :: u :: u :: u :: u :: u :: u :: u :: .bool true :: u :: u :: u :: u :: u :: u :: u :: u :: u :: u :: u :: u :: u :: u :: u :: u :: u :: u :: u :: u :: u :: u :: u :: u :: u :: u :: u :: u :: u :: u :: u :: u :: u :: u :: u :: u :: u :: u :: u :: u :: u :: u :: u :: u :: u :: u :: u :: u :: u :: u :: u :: u :: u :: u :: u :: u :: u :: u :: u :: u :: u :: u :: u :: u :: u :: u :: u :: u :: u :: u :: u :: u :: u :: u :: u :: u :: u :: u :: u :: u :: u :: u :: [])) rfl ?_
                exact cut_n hK76 ⟨_, (Option.some.inj h).symm, rfl, hS⟩
              · try simp only [W, EE, Nat.reduceAdd, Nat.reduceBEq, hS.var 3 rfl, hc]
                refine w_grdT h (fun hc h => ?_) (fun hc h => ?_)
                · try simp only [W, EE, Nat.reduceAdd, Nat.reduceBEq, hS.var 2 rfl, hS.var 3 rfl, hc]
                  refine w_ow 0 hS rfl rfl rfl rfl rfl h (fun b80 in81 wn81 on81 hb80 h en81 => ?_) qm1.ne
                  obtain ⟨kn81, hbn81, hen81⟩ := hS.elem 0 rfl en81 hb80
                  try simp only [W, EE, EN, reduceIte, Nat.reduceAdd, Nat.reduceBEq, Bool.false_eq_true, hbn81, hen81]
                  refine seq_n hK77 ?_
                  refine w_killE (s' := (u :: u :: .ptr ip2 wp2 0 0 :: .ptr ip4 wp4 0 0 :: .ptr ip6 wp6 0 0 :: u :: u :: u :: u :: u :: u :: u :: u :: u :: u :: u :: u :: u :: u :: u :: u :: u :: u :: u :: u :: u :: u :: u :: u :: u :: u :: u :: u :: u :: u :: u :: u :: u :: u :: u :: u :: u :: u :: u :: u :: u :: u :: u :: u :: u :: u :: u :: u :: u :: u :: u :: u :: u :: u :: u :: u :: u :: u :: u :: u :: u :: u :: u :: u :: u :: u :: u :: u :: u :: u :: u :: u :: u :: u :: u :: u :: u :: u :: u :: u :: u :: u :: u :: u :: u :: .bool b80.Asks :: u :: u :: u :: u :: u :: u :: u :: u :: u :: u :: u :: u :: u :: u :: u :: u :: u :: u :: u :: u :: u :: u :: u :: u :: u :: u :: u :: u :: u :: u :: u :: u :: u :: u :: u :: u :: u :: u :: u :: u :: u :: u :: u :: u :: u :: u :: u :: u :: u :: u :: u :: u :: u :: u :: u :: u :: u :: u :: u :: u :: u :: u :: u :: u :: u :: u :: u :: u :: u :: u :: u :: u :: u :: u :: u :: u :: u :: u :: u :: u :: u :: u :: [])) rfl ?_
                  exact cut_n hK76 ⟨_, (Option.some.inj h).symm, rfl, hS⟩
                · try simp only [W, reduceIte, Bool.false_eq_true, hc]
                  refine seq_n hK77 ?_
                  refine w_killE (s' := (u :: u :: .ptr ip2 wp2 0 0 :: .ptr ip4 wp4 0 0 :: .ptr ip6 wp6 0 0 :: u :: u :: u :: u :: u :: u :: u :: u :: u :: u :: u :: u :: u :: u :: u :: u :: u :: u :: u :: u :: u :: u :: u :: u :: u :: u :: u :: u :: u :: u :: u :: u :: u :: u :: u :: u :: u :: u :: u :: u :: u :: u :: u :: u :: u :: u :: u :: u :: u :: u :: u :: u :: u :: u :: u :: u :: u :: u :: u :: u :: u :: u :: u :: u :: u :: u :: u :: u :: u :: u :: u :: u :: u :: u :: u :: u :: u :: u :: u :: u :: u :: u :: u :: u :: u :: .bool false :: u :: u :: u :: u :: u :: u :: u :: u :: u :: u :: u :: u :: u :: u :: u :: u :: u :: u :: u :: u :: u :: u :: u :: u :: u :: u :: u :: u :: u :: u :: u :: u :: u :: u :: u :: u :: u :: u :: u :: u :: u :: u :: u :: u :: u :: u :: u :: u :: u :: u :: u :: u :: u :: u :: u :: u :: u :: u :: u :: u :: u :: u :: u :: u :: u :: u :: u :: u :: u :: u :: u :: u :: u :: u :: u :: u :: u :: u :: u :: u :: u :: u :: [])) rfl ?_
                  exact cut_n hK76 ⟨_, (Option.some.inj h).symm, rfl, hS⟩
        · obtain ⟨x73, ey, rfl, hS⟩ := hq; obtain rfl := ey.symm
          replace h := g75
          try dsimp only at h
          refine seq_n hK72 ?_
          refine w_if ?_
          simp only [W]
          refine w_cnd h (fun hc h => ?_) (fun hc h => ?_)
          · refine w_seq fun K82 hK82 => ?_
            refine w_reg gC ?_
            try simp only [W, EE, reduceIte, Nat.reduceAdd, Nat.reduceLeDiff, hS.var 2 rfl]
            refine w_stv (a := .agg [.int .i64 a0.Now, m1, m2]) (y' := .agg [.int .i64 a0.Now, m1, m2]) 4 hS rfl rfl rfl rfl rfl (by simp only [storA, List.all_cons, List.all_nil, qm1.stor, qm2.stor]; rfl) rfl rfl fun H hS => ?_
            try simp only [W]
            refine seq_n hK82 ?_
            refine w_ret ?_
            refine seq_r hK71 ?_
            refine seq_r hK70 ?_
            refine blk_r hK10 ?_
            refine seq_r hK8 ?_
            refine fin_r hK0 (res_c rfl rfl (hS.var 4 rfl) rfl (res_tc rfl rfl)) ?_
            try obtain rfl := Option.some.inj h
            exact hP _ qm1 _ qm2 _ (hS.sel 5 [0, 1] (by decide))
          · refine w_skip ?_
            refine seq_n hK71 ?_
            refine w_seq fun K83 hK83 => ?_
            refine w_seq fun K84 hK84 => ?_
            refine w_reg gC ?_
            try simp only [W, EE, Nat.reduceAdd, Nat.reduceBEq, hS.var 3 rfl]
            refine seq_n hK84 ?_
            refine w_if ?_
            simp only [W]
            refine w_cnd h (fun hc h => ?_) (fun hc h => ?_)
            · refine w_seq fun K85 hK85 => ?_
              refine w_reg gC ?_
              try simp only [W, EE, Nat.reduceAdd, Nat.reduceBEq, hS.var 2 rfl, hS.var 3 rfl]
              refine w_ow 0 hS rfl rfl rfl rfl rfl h (fun b86 in87 wn87 on87 hb86 h en87 => ?_) qm1.ne
              obtain ⟨kn87, hbn87, hen87⟩ := hS.elem 0 rfl en87 hb86
              try simp only [W, EE, Nat.reduceAdd, Nat.reduceBEq, hbn87]
              refine w_ste (a := .bool true) (y' := (⟨b86.End, true, b86.Final, b86.Said⟩ : Case)) 0 hS rfl en87 hb86 rfl rfl rfl rfl rfl rfl rfl fun H hS => ?_
              try simp only [W]
              refine seq_n hK85 ?_
              refine w_seq fun K88 hK88 => ?_
              refine w_reg gC ?_
              try simp only [W, EE, reduceIte, Nat.reduceAdd, Nat.reduceLeDiff, hS.var 2 rfl]
              refine w_stv (a := .agg [.int .i64 a0.Now, m1, m2]) (y' := .agg [.int .i64 a0.Now, m1, m2]) 4 hS rfl rfl rfl rfl rfl (by simp only [storA, List.all_cons, List.all_nil, qm1.stor, qm2.stor]; rfl) rfl rfl fun H hS => ?_
              try simp only [W]
              refine seq_n hK88 ?_
              refine w_ret ?_
              refine seq_r hK83 ?_
              refine seq_r hK70 ?_
              refine blk_r hK10 ?_
              refine seq_r hK8 ?_
              refine fin_r hK0 (res_c rfl rfl (hS.var 4 rfl) rfl (res_tc rfl rfl)) ?_
              try obtain rfl := Option.some.inj h
              exact hP _ qm1 _ qm2 _ (hS.sel 5 [0, 1] (by decide))
            · refine w_skip ?_
              refine seq_n hK83 ?_
              refine w_seq fun K89 hK89 => ?_
              refine w_reg gC ?_
              try simp only [W, Nat.reduceAdd]
              refine seq_n hK89 ?_
              refine w_seq fun K90 hK90 => ?_
              refine w_seq fun K91 hK91 => ?_
              refine w_reg gC ?_
              try simp only [W, EE, Nat.reduceAdd, Nat.reduceBEq, hS.var 2 rfl, hS.var 3 rfl]
              refine w_ow 0 hS rfl rfl rfl rfl rfl h (fun b92 in93 wn93 on93 hb92 h en93 => ?_) qm1.ne
              obtain ⟨kn93, hbn93, hen93⟩ := hS.elem 0 rfl en93 hb92
              try simp only [W, EE, EN, Nat.reduceAdd, Nat.reduceBEq, hbn93, hen93]
              refine seq_n hK91 ?_
              obtain ⟨y95, h, g96⟩ := Option.bind_eq_some_iff.1 h
              refine w_join gC (fun s H => ∃ x94 : Int, y95 = (x94) ∧ s = (u :: u :: .ptr ip2 wp2 0 0 :: .ptr ip4 wp4 0 0 :: .ptr ip6 wp6 0 0 :: u :: u :: u :: .int .i64 x94 :: u :: u :: u :: u :: u :: u :: u :: u :: u :: u :: u :: u :: u :: u :: u :: u :: u :: u :: u :: u :: u :: u :: u :: u :: u :: u :: u :: u :: u :: u :: u :: u :: u :: u :: u :: u :: u :: u :: u :: u :: u :: u :: u :: u :: u :: u :: u :: u :: u :: u :: u :: u :: u :: u :: u :: u :: u :: u :: u :: u :: u :: u :: u :: u :: u :: u :: u :: u :: u :: u :: u :: u :: u :: u :: u :: u :: u :: u :: u :: u :: u :: u :: u :: u :: u :: u :: u :: u :: u :: u :: u :: u :: u :: u :: u :: u :: u :: u :: u :: u :: u :: u :: u :: u :: u :: u :: u :: u :: u :: u :: u :: u :: u :: u :: u :: u :: u :: u :: u :: u :: u :: u :: u :: u :: u :: u :: u :: u :: u :: u :: u :: u :: u :: u :: u :: u :: u :: u :: u :: u :: u :: u :: u :: u :: u :: u :: u :: u :: u :: u :: u :: u :: u :: u :: u :: u :: u :: u :: u :: u :: u :: u :: u :: u :: []) ∧ Own H (⟨m1, 4, a0.Cases.map e_Case⟩ :: ⟨m2, 3, a0.Line.map e_Slip⟩ :: ⟨.ptr ip2 wp2 0 0, 3, [.agg [.int .i64 a0.Now, m1, m2]]⟩ :: ⟨.ptr ip4 wp4 0 0, 2, [.agg [.int .i64 a1.Kind, .int .i64 a1.K]]⟩ :: ⟨.ptr ip6 wp6 0 0, 3, [.agg [.int .i64 0, .nil, .nil]]⟩ :: F)) (fun K97 hK97 => ?_) (fun s H hq => ?_)
              · refine w_seq fun K98 hK98 => ?_
                refine w_if ?_
                simp only [W]
                refine w_cnd h (fun hc h => ?_) (fun hc h => ?_)
                · refine w_reg gC ?_
                  try simp only [W, Nat.reduceAdd]
                  refine seq_n hK98 ?_
                  refine w_killE (s' := (u :: u :: .ptr ip2 wp2 0 0 :: .ptr ip4 wp4 0 0 :: .ptr ip6 wp6 0 0 :: u :: u :: u :: .int .i64 2 :: u :: u :: u :: u :: u :: u :: u :: u :: u :: u :: u :: u :: u :: u :: u :: u :: u :: u :: u :: u :: u :: u :: u :: u :: u :: u :: u :: u :: u :: u :: u :: u :: u :: u :: u :: u :: u :: u :: u :: u :: u :: u :: u :: u :: u :: u :: u :: u :: u :: u :: u :: u :: u :: u :: u :: u :: u :: u :: u :: u :: u :: u :: u :: u :: u :: u :: u :: u :: u :: u :: u :: u :: u :: u :: u :: u :: u :: u :: u :: u :: u :: u :: u :: u :: u :: u :: u :: u :: u :: u :: u :: u :: u :: u :: u :: u :: u :: u :: u :: u :: u :: u :: u :: u :: u :: u :: u :: u :: u :: u :: u :: u :: u :: u :: u :: u :: u :: u :: u :: u :: u :: u :: u :: u :: u :: u :: u :: u :: u :: u :: u :: u :: u :: u :: u :: u :: u :: u :: u :: u :: u :: u :: u :: u :: u :: u :: u :: u :: u :: u :: u :: u :: u :: u :: u :: u :: u :: u :: u :: u :: u :: u :: u :: u :: [])) rfl ?_
                  exact cut_n hK97 ⟨_, (Option.some.inj h).symm, rfl, hS⟩
                · refine w_skip ?_
                  refine seq_n hK98 ?_
                  refine w_killE (s' := (u :: u :: .ptr ip2 wp2 0 0 :: .ptr ip4 wp4 0 0 :: .ptr ip6 wp6 0 0 :: u :: u :: u :: .int .i64 1 :: u :: u :: u :: u :: u :: u :: u :: u :: u :: u :: u :: u :: u :: u :: u :: u :: u :: u :: u :: u :: u :: u :: u :: u :: u :: u :: u :: u :: u :: u :: u :: u :: u :: u :: u :: u :: u :: u :: u :: u :: u :: u :: u :: u :: u :: u :: u :: u :: u :: u :: u :: u :: u :: u :: u :: u :: u :: u :: u :: u :: u :: u :: u :: u :: u :: u :: u :: u :: u :: u :: u :: u :: u :: u :: u :: u :: u :: u :: u :: u :: u :: u :: u :: u :: u :: u :: u :: u :: u :: u :: u :: u :: u :: u :: u :: u :: u :: u :: u :: u :: u :: u :: u :: u :: u :: u :: u :: u :: u :: u :: u :: u :: u :: u :: u :: u :: u :: u :: u :: u :: u :: u :: u :: u :: u :: u :: u :: u :: u :: u :: u :: u :: u :: u :: u :: u :: u :: u :: u :: u :: u :: u :: u :: u :: u :: u :: u :: u :: u :: u :: u :: u :: u :: u :: u :: u :: u :: u :: u :: u :: u :: u :: u :: u :: [])) rfl ?_
                  exact cut_n hK97 ⟨_, (Option.some.inj h).symm, rfl, hS⟩
              · obtain ⟨x94, ey, rfl, hS⟩ := hq; obtain rfl := ey.symm
                replace h := g96
                try dsimp only at h
                refine seq_n hK90 ?_
                refine w_seq fun K99 hK99 => ?_
                refine w_reg gC ?_
                try simp only [W, EE, reduceIte, Nat.reduceAdd, Nat.reduceLeDiff, Nat.reduceBEq, hS.var 2 rfl, hS.var 3 rfl]
                refine w_bld rfl rfl rfl rfl rfl ?_
                try simp only [W]
                refine w_call h fun b100 hb100 h => ?_
                refine spec_l16Write_w hb100 hS qm1 qm2 fun v101 qv101 v103 qv103 H hS => ?_
                try simp only [W]
                refine w_stv (a := .agg [.int .i64 b100.Now, v101, v103]) (y' := .agg [.int .i64 b100.Now, v101, v103]) 4 hS rfl rfl rfl rfl rfl (by simp only [storA, List.all_cons, List.all_nil, qv101.stor, qv103.stor]; rfl) rfl rfl fun H hS => ?_
                try simp only [W]
                refine seq_n hK99 ?_
                refine w_ret ?_
                refine seq_r hK70 ?_
                refine blk_r hK10 ?_
                refine seq_r hK8 ?_
                refine fin_r hK0 (res_c rfl rfl (hS.var 4 rfl) rfl (res_tc rfl rfl)) ?_
                try obtain rfl := Option.some.inj h
                exact hP _ qv101 _ qv103 _ (hS.sel 5 [0, 1] (by decide))
      · refine w_skip ?_
        refine seq_n hK70 ?_
        refine w_killE (s' := (u :: u :: .ptr ip2 wp2 0 0 :: .ptr ip4 wp4 0 0 :: .ptr ip6 wp6 0 0 :: u :: u :: u :: u :: u :: u :: u :: u :: u :: u :: u :: u :: u :: u :: u :: u :: u :: u :: u :: u :: u :: u :: u :: u :: u :: u :: u :: u :: u :: u :: u :: u :: u :: u :: u :: u :: u :: u :: u :: u :: u :: u :: u :: u :: u :: u :: u :: u :: .bool x65 :: u :: u :: u :: u :: u :: u :: u :: u :: u :: u :: u :: u :: u :: u :: u :: u :: u :: u :: u :: u :: u :: u :: u :: u :: u :: u :: u :: u :: u :: u :: u :: u :: u :: u :: u :: u :: u :: u :: u :: u :: u :: u :: u :: u :: u :: u :: u :: u :: u :: u :: u :: u :: u :: u :: u :: u :: u :: u :: u :: u :: u :: u :: u :: u :: u :: u :: u :: u :: u :: u :: u :: u :: u :: u :: u :: u :: u :: u :: u :: u :: u :: u :: u :: u :: u :: u :: u :: u :: u :: u :: u :: u :: u :: u :: u :: u :: u :: u :: u :: u :: u :: u :: u :: u :: u :: u :: u :: u :: u :: u :: u :: u :: u :: u :: u :: u :: u :: u :: u :: [])) rfl ?_
        refine blk_n0 hK10 ?_
        refine seq_n hK8 ?_
        refine w_seq fun K105 hK105 => ?_
        refine w_seq fun K106 hK106 => ?_
        obtain ⟨y108, h, g109⟩ := Option.bind_eq_some_iff.1 h
        refine w_join gC (fun s H => ∃ x107 : Bool, y108 = (x107) ∧ s = (u :: u :: .ptr ip2 wp2 0 0 :: .ptr ip4 wp4 0 0 :: .ptr ip6 wp6 0 0 :: u :: u :: u :: u :: u :: u :: u :: u :: u :: u :: u :: u :: u :: u :: u :: u :: u :: u :: u :: u :: u :: u :: u :: u :: u :: u :: u :: u :: u :: u :: u :: u :: u :: u :: u :: u :: u :: u :: u :: u :: u :: u :: u :: u :: u :: u :: u :: u :: u :: u :: u :: u :: u :: u :: u :: u :: u :: u :: u :: u :: u :: u :: u :: u :: u :: u :: u :: u :: u :: u :: u :: u :: u :: u :: u :: u :: u :: u :: u :: u :: u :: u :: u :: u :: u :: u :: u :: u :: u :: u :: u :: u :: u :: u :: u :: u :: u :: u :: u :: u :: u :: u :: u :: u :: u :: u :: u :: u :: u :: u :: u :: u :: u :: u :: u :: u :: u :: u :: u :: u :: u :: u :: u :: u :: u :: u :: .bool x107 :: u :: u :: u :: u :: u :: u :: u :: u :: u :: u :: u :: u :: u :: u :: u :: u :: u :: u :: u :: u :: u :: u :: u :: u :: u :: u :: u :: u :: u :: u :: u :: u :: u :: u :: u :: u :: u :: u :: u :: u :: u :: []) ∧ Own H (⟨m1, 4, a0.Cases.map e_Case⟩ :: ⟨m2, 3, a0.Line.map e_Slip⟩ :: ⟨.ptr ip2 wp2 0 0, 3, [.agg [.int .i64 a0.Now, m1, m2]]⟩ :: ⟨.ptr ip4 wp4 0 0, 2, [.agg [.int .i64 a1.Kind, .int .i64 a1.K]]⟩ :: ⟨.ptr ip6 wp6 0 0, 3, [.agg [.int .i64 0, .nil, .nil]]⟩ :: F)) (fun K110 hK110 => ?_) (fun s H hq => ?_)
        · refine w_seq fun K111 hK111 => ?_
          refine w_reg gC ?_
          try simp only [W, EE, Nat.reduceAdd, Nat.reduceBEq, hS.var 3 rfl]
          refine w_grdT h (fun hc h => ?_) (fun hc h => ?_)
          · try simp only [W, hc]
            refine seq_n hK111 ?_
            refine w_killE (s' := (u :: u :: .ptr ip2 wp2 0 0 :: .ptr ip4 wp4 0 0 :: .ptr ip6 wp6 0 0 :: u :: u :: u :: u :: u :: u :: u :: u :: u :: u :: u :: u :: u :: u :: u :: u :: u :: u :: u :: u :: u :: u :: u :: u :: u :: u :: u :: u :: u :: u :: u :: u :: u :: u :: u :: u :: u :: u :: u :: u :: u :: u :: u :: u :: u :: u :: u :: u :: u :: u :: u :: u :: u :: u :: u :: u :: u :: u :: u :: u :: u :: u :: u :: u :: u :: u :: u :: u :: u :: u :: u :: u :: u :: u :: u :: u :: u :: u :: u :: u :: u :: u :: u :: u :: u :: u :: u :: u :: u :: u :: u :: u :: u :: u :: u :: u :: u :: u :: u :: u :: u :: u :: u :: u :: u :: u :: u :: u :: u :: u :: u :: u :: u :: u :: u :: u :: u :: u :: u :: u :: u :: u :: u :: u :: u :: u :: .bool true :: u :: u :: u :: u :: u :: u :: u :: u :: u :: u :: u :: u :: u :: u :: u :: u :: u :: u :: u :: u :: u :: u :: u :: u :: u :: u :: u :: u :: u :: u :: u :: u :: u :: u :: u :: u :: u :: u :: u :: u :: u :: [])) rfl ?_
            exact cut_n hK110 ⟨_, (Option.some.inj h).symm, rfl, hS⟩
          · try simp only [W, EE, Nat.reduceAdd, Nat.reduceBEq, hS.var 2 rfl, hS.var 3 rfl, hc]
            refine w_len 1 hS rfl qm2 rfl ?_
            try simp only [W, EE, reduceIte, Bool.false_eq_true]
            refine w_grdT h (fun hc h => ?_) (fun hc h => ?_)
            · try simp only [W, hc]
              refine seq_n hK111 ?_
              refine w_killE (s' := (u :: u :: .ptr ip2 wp2 0 0 :: .ptr ip4 wp4 0 0 :: .ptr ip6 wp6 0 0 :: u :: u :: u :: u :: u :: u :: u :: u :: u :: u :: u :: u :: u :: u :: u :: u :: u :: u :: u :: u :: u :: u :: u :: u :: u :: u :: u :: u :: u :: u :: u :: u :: u :: u :: u :: u :: u :: u :: u :: u :: u :: u :: u :: u :: u :: u :: u :: u :: u :: u :: u :: u :: u :: u :: u :: u :: u :: u :: u :: u :: u :: u :: u :: u :: u :: u :: u :: u :: u :: u :: u :: u :: u :: u :: u :: u :: u :: u :: u :: u :: u :: u :: u :: u :: u :: u :: u :: u :: u :: u :: u :: u :: u :: u :: u :: u :: u :: u :: u :: u :: u :: u :: u :: u :: u :: u :: u :: u :: u :: u :: u :: u :: u :: u :: u :: u :: u :: u :: u :: u :: u :: u :: u :: u :: u :: u :: .bool true :: u :: u :: u :: u :: u :: u :: u :: u :: u :: u :: u :: u :: u :: u :: u :: u :: u :: u :: u :: u :: u :: u :: u :: u :: u :: u :: u :: u :: u :: u :: u :: u :: u :: u :: u :: u :: u :: u :: u :: u :: u :: [])) rfl ?_
              exact cut_n hK110 ⟨_, (Option.some.inj h).symm, rfl, hS⟩
            · try simp only [W, EE, Nat.reduceAdd, Nat.reduceBEq, hS.var 3 rfl, hc]
              refine w_call h fun b112 hb112 h => ?_
              refine spec_l1In_w hb112 hS fun H hS => ?_
              try simp only [W, reduceIte, Bool.false_eq_true]
              refine seq_n hK111 ?_
              refine w_killE (s' := (u :: u :: .ptr ip2 wp2 0 0 :: .ptr ip4 wp4 0 0 :: .ptr ip6 wp6 0 0 :: u :: u :: u :: u :: u :: u :: u :: u :: u :: u :: u :: u :: u :: u :: u :: u :: u :: u :: u :: u :: u :: u :: u :: u :: u :: u :: u :: u :: u :: u :: u :: u :: u :: u :: u :: u :: u :: u :: u :: u :: u :: u :: u :: u :: u :: u :: u :: u :: u :: u :: u :: u :: u :: u :: u :: u :: u :: u :: u :: u :: u :: u :: u :: u :: u :: u :: u :: u :: u :: u :: u :: u :: u :: u :: u :: u :: u :: u :: u :: u :: u :: u :: u :: u :: u :: u :: u :: u :: u :: u :: u :: u :: u :: u :: u :: u :: u :: u :: u :: u :: u :: u :: u :: u :: u :: u :: u :: u :: u :: u :: u :: u :: u :: u :: u :: u :: u :: u :: u :: u :: u :: u :: u :: u :: u :: u :: .bool (!b112) :: u :: u :: u :: u :: u :: u :: u :: u :: u :: u :: u :: u :: u :: u :: u :: u :: u :: u :: u :: u :: u :: u :: u :: u :: u :: u :: u :: u :: u :: u :: u :: u :: u :: u :: u :: u :: u :: u :: u :: u :: u :: [])) rfl ?_
              exact cut_n hK110 ⟨_, (Option.some.inj h).symm, rfl, hS⟩
        · obtain ⟨x107, ey, rfl, hS⟩ := hq; obtain rfl := ey.symm
          replace h := g109
          try dsimp only at h
          refine seq_n hK106 ?_
          refine w_if ?_
          simp only [W]
          refine w_cnd h (fun hc h => ?_) (fun hc h => ?_)
          · refine w_seq fun K113 hK113 => ?_
            refine w_reg gC ?_
            try simp only [W, EE, reduceIte, Nat.reduceAdd, Nat.reduceLeDiff, hS.var 2 rfl]
            refine w_stv (a := .agg [.int .i64 a0.Now, m1, m2]) (y' := .agg [.int .i64 a0.Now, m1, m2]) 4 hS rfl rfl rfl rfl rfl (by simp only [storA, List.all_cons, List.all_nil, qm1.stor, qm2.stor]; rfl) rfl rfl fun H hS => ?_
            try simp only [W]
            refine seq_n hK113 ?_
            refine w_ret ?_
            refine seq_r hK105 ?_
            refine fin_r hK0 (res_c rfl rfl (hS.var 4 rfl) rfl (res_tc rfl rfl)) ?_
            try obtain rfl := Option.some.inj h
            exact hP _ qm1 _ qm2 _ (hS.sel 5 [0, 1] (by decide))
          · refine w_skip ?_
            refine seq_n hK105 ?_
            refine w_seq fun K114 hK114 => ?_
            refine w_reg gC ?_
            try simp only [W, EE, Nat.reduceAdd, Nat.reduceBEq, hS.var 2 rfl, hS.var 3 rfl]
            refine w_ow 1 hS rfl rfl rfl rfl rfl h (fun b115 in116 wn116 on116 hb115 h en116 => ?_) qm2.ne
            obtain ⟨kn116, hbn116, hen116⟩ := hS.elem 1 rfl en116 hb115
            try simp only [W, EE, EN, reduceIte, Nat.reduceAdd, Nat.reduceLeDiff, hbn116, hen116]
            refine w_alloc hS rfl rfl fun ip117 wp117 H hS => ?_
            try simp only [W]
            refine w_stv (a := .agg [.int .i64 b115.Kind, .int .i64 b115.Case, .int .i64 b115.What]) (y' := .agg [.int .i64 b115.Kind, .int .i64 b115.Case, .int .i64 b115.What]) 0 hS rfl rfl rfl rfl rfl rfl rfl rfl fun H hS => ?_
            try simp only [W]
            refine seq_n hK114 ?_
            refine w_seq fun K119 hK119 => ?_
            refine w_seq fun K120 hK120 => ?_
            refine w_reg gC ?_
            try simp only [W, EE, Nat.reduceAdd, Nat.reduceBEq, hS.var 4 rfl]
            refine seq_n hK120 ?_
            refine w_if ?_
            simp only [W]
            refine w_cnd h (fun hc h => ?_) (fun hc h => ?_)
            · refine w_seq fun K121 hK121 => ?_
              refine w_seq fun K122 hK122 => ?_
              refine w_reg gC ?_
              try simp only [W, EE, Nat.reduceAdd, Nat.reduceBEq, hS.var 3 rfl]
              refine w_len 2 hS rfl qm2 rfl ?_
              try simp only [W, EE]
              refine seq_n hK122 ?_
              refine w_if ?_
              simp only [W]
              refine w_cnd h (fun hc h => ?_) (fun hc h => ?_)
              · refine w_seq fun K123 hK123 => ?_
                refine w_reg gC ?_
                try simp only [W, EE, reduceIte, Nat.reduceAdd, Nat.reduceLeDiff, hS.var 3 rfl]
                refine w_stv (a := .agg [.int .i64 a0.Now, m1, m2]) (y' := .agg [.int .i64 a0.Now, m1, m2]) 5 hS rfl rfl rfl rfl rfl (by simp only [storA, List.all_cons, List.all_nil, qm1.stor, qm2.stor]; rfl) rfl rfl fun H hS => ?_
                try simp only [W]
                refine seq_n hK123 ?_
                refine w_ret ?_
                refine seq_r hK121 ?_
                refine seq_r hK119 ?_
                refine fin_r hK0 (res_c rfl rfl (hS.var 5 rfl) rfl (res_tc rfl rfl)) ?_
                try obtain rfl := Option.some.inj h
                exact hP _ qm1 _ qm2 _ (hS.sel 6 [1, 2] (by decide))
              · refine w_skip ?_
                refine seq_n hK121 ?_
                refine w_seq fun K124 hK124 => ?_
                refine w_reg gC ?_
                try simp only [W, EE, reduceIte, Nat.reduceAdd, Nat.reduceLeDiff, hS.var 0 rfl, hS.var 3 rfl]
                refine w_call h fun b125 hb125 h => ?_
                refine spec_l16Write_w hb125 (hS.sel 6 [1, 2, 0, 3, 4, 5] (by decide)) qm1 qm2 fun v126 qv126 v128 qv128 H hS => ?_
                try simp only [W]
                refine w_stv (a := .agg [.int .i64 b125.Now, v126, v128]) (y' := .agg [.int .i64 b125.Now, v126, v128]) 5 hS rfl rfl rfl rfl rfl (by simp only [storA, List.all_cons, List.all_nil, qv126.stor, qv128.stor]; rfl) rfl rfl fun H hS => ?_
                try simp only [W]
                refine seq_n hK124 ?_
                refine w_ret ?_
                refine seq_r hK119 ?_
                refine fin_r hK0 (res_c rfl rfl (hS.var 5 rfl) rfl (res_tc rfl rfl)) ?_
                try obtain rfl := Option.some.inj h
                exact hP _ qv126 _ qv128 _ (hS.sel 6 [0, 1] (by decide))
            · refine w_skip ?_
              refine seq_n hK119 ?_
              refine w_seq fun K130 hK130 => ?_
              refine w_reg gC ?_
              try simp only [W, Nat.reduceAdd]
              refine w_lit0 rfl rfl ?_
              try simp only [W, EE, Nat.reduceAdd, Nat.reduceBEq, hS.var 3 rfl, hS.var 4 rfl]
              refine w_slW 2 hS rfl qm2 rfl rfl rfl h fun v132 x131 qv132 wv132 hx131 h => ?_
              try simp only [W, EE]
              have hS := hS.e0_ 3
              refine w_appV (l := ([] : List Slip)) (c := e_Slip) 0 hS rfl isSl_e0 rfl rfl rfl (hS.elemsW 3 rfl wv132 hx131) (fun _ => rfl) rfl h fun v135 H x134 qv135 hm h hS => ?_
              try simp only [W]
              refine seq_n hK130 ?_
              refine w_seq fun K137 hK137 => ?_
              refine w_reg gC ?_
              try simp only [W, EE, Nat.reduceAdd, Nat.reduceBEq, hS.var 4 rfl, hS.var 5 rfl]
              refine w_slO 3 hS rfl qm2 rfl rfl rfl h fun v139 x138 qv139 hx138 h hS => ?_
              try simp only [W, EE]
              refine w_appV (l := x134) (c := e_Slip) 0 hS rfl qv135 rfl rfl rfl (hS.elems 3 rfl qv139) (fun _ => rfl) rfl h fun v142 H x141 qv142 hm h hS => ?_
              try simp only [W, EE, Nat.reduceAdd, Nat.reduceBEq, hS.var 4 rfl]
              refine w_stv (a := v142) (y' := .agg [.int .i64 a0.Now, m1, v142]) 4 hS rfl rfl rfl rfl (by rw [qv142.cells]; rfl) qv142.stora (qv142.wr _ _ (by simp)) rfl fun H hS => ?_
              try simp only [W]
              refine seq_n hK137 ?_
              refine w_seq fun K144 hK144 => ?_
              refine w_seq fun K145 hK145 => ?_
              refine w_reg gC ?_
              try simp only [W, EE, Nat.reduceAdd, Nat.reduceBEq, hS.var 5 rfl]
              refine seq_n hK145 ?_
              refine w_if ?_
              simp only [W]
              refine w_cnd h (fun hc h => ?_) (fun hc h => ?_)
              · refine w_seq fun K146 hK146 => ?_
                refine w_reg gC ?_
                try simp only [W, EE, reduceIte, Nat.reduceAdd, Nat.reduceLeDiff, hS.var 1 rfl, hS.var 4 rfl]
                refine w_call h fun b147 hb147 h => ?_
                refine spec_l16Take_w hb147 (hS.sel 7 [2, 0, 1, 3, 4, 5, 6] (by decide)) qm1 qv142 fun v148 qv148 v150 qv150 H hS => ?_
                try simp only [W]
                refine w_stv (a := .agg [.int .i64 b147.Now, v148, v150]) (y' := .agg [.int .i64 b147.Now, v148, v150]) 6 hS rfl rfl rfl rfl rfl (by simp only [storA, List.all_cons, List.all_nil, qv148.stor, qv150.stor]; rfl) rfl rfl fun H hS => ?_
                try simp only [W]
                refine seq_n hK146 ?_
                refine w_ret ?_
                refine seq_r hK144 ?_
                refine fin_r hK0 (res_c rfl rfl (hS.var 6 rfl) rfl (res_tc rfl rfl)) ?_
                try obtain rfl := Option.some.inj h
                exact hP _ qv148 _ qv150 _ (hS.sel 7 [0, 1] (by decide))
              · refine w_skip ?_
                refine seq_n hK144 ?_
                refine w_seq fun K152 hK152 => ?_
                refine w_reg gC ?_
                try simp only [W, EE, reduceIte, Nat.reduceAdd, Nat.reduceLeDiff, hS.var 4 rfl]
                refine w_stv (a := .agg [.int .i64 a0.Now, m1, v142]) (y' := .agg [.int .i64 a0.Now, m1, v142]) 6 hS rfl rfl rfl rfl rfl (by simp only [storA, List.all_cons, List.all_nil, qm1.stor, qv142.stor]; rfl) rfl rfl fun H hS => ?_
                try simp only [W]
                refine seq_n hK152 ?_
                refine w_ret ?_
                refine fin_r hK0 (res_c rfl rfl (hS.var 6 rfl) rfl (res_tc rfl rfl)) ?_
                try obtain rfl := Option.some.inj h
                exact hP _ qm1 _ qv142 _ (hS.sel 7 [2, 0] (by decide))
theorem spec_PlayCourt_w {a0 : List Int} {a1 : List CourtStep} {r : (Court × List Bool × Bool)} (h : spec_PlayCourt a0 a1 = some r) {F : List It} {H : Heap} (hS : Own H (F)) {P : AV → Heap → Prop} (hP : ∀ v104 : AV, isSl v104 → ∀ v106 : AV, isSl v106 → ∀ v108 : AV, isSl v108 → ∀ H', Own H' (⟨v104, 4, r.1.Cases.map e_Case⟩ :: ⟨v106, 3, r.1.Line.map e_Slip⟩ :: ⟨v108, 1, r.2.1.map AV.bool⟩ :: F) → P (.tup [.agg [.int .i64 r.1.Now, v104, v106], v108, .bool r.2.2]) H') : ACall C 48 [.fz (a0.map (AV.int .i64)), .fz (a1.map e_CourtStep)] H P := by
  refine acall_of gC (res := [.cell 4 68, .tmp 5, .tmp 6]) (n := 50) rfl rfl rfl rfl fun K0 hK0 => ?_
  simp only [W, Nat.reduceSub, Nat.reduceAdd, List.replicate]
  unfold spec_PlayCourt at h
  refine w_seq fun K1 hK1 => ?_
  refine w_reg gC ?_
  try simp only [W, Nat.reduceAdd]
  refine w_alloc hS rfl rfl fun ip2 wp2 H hS => ?_
  try simp only [W]
  refine seq_n hK1 ?_
  refine w_seq fun K4 hK4 => ?_
  refine w_reg gC ?_
  try simp only [W, Nat.reduceAdd]
  refine w_call h fun b5 hb5 h => ?_
  obtain ⟨b6, b7⟩ := b5
  try dsimp only at h
  refine spec_NewCourt_w hb5 hS fun v8 qv8 v10 qv10 H hS => ?_
  try simp only [W]
  refine w_alloc hS rfl rfl fun ip12 wp12 H hS => ?_
  try simp only [W]
  refine w_stv (a := .agg [.int .i64 b6.Now, v8, v10]) (y' := .agg [.int .i64 b6.Now, v8, v10]) 0 hS rfl rfl rfl rfl rfl (by simp only [storA, List.all_cons, List.all_nil, qv8.stor, qv10.stor]; rfl) rfl rfl fun H hS => ?_
  try simp only [W]
  refine seq_n hK4 ?_
  refine w_seq fun K14 hK14 => ?_
  refine w_seq fun K15 hK15 => ?_
  obtain ⟨y17, h, g18⟩ := Option.bind_eq_some_iff.1 h
  refine w_join gC (fun s H => ∃ x16 : Bool, y17 = (x16) ∧ s = [u, .fz (a1.map e_CourtStep), u, u, .ptr ip2 wp2 0 0, u, u, .ptr ip12 wp12 0 0, u, u, u, u, u, u, u, u, u, u, u, u, u, u, u, u, u, .bool x16, u, u, u, u, u, u, u, u, u, u, u, u, u, u, u, u, u, u, u, u, u, u, u, u] ∧ Own H (⟨v8, 4, b6.Cases.map e_Case⟩ :: ⟨v10, 3, b6.Line.map e_Slip⟩ :: ⟨.ptr ip2 wp2 0 0, 3, [.agg [.int .i64 0, .nil, .nil]]⟩ :: ⟨.ptr ip12 wp12 0 0, 3, [.agg [.int .i64 b6.Now, v8, v10]]⟩ :: F)) (fun K19 hK19 => ?_) (fun s H hq => ?_)
  · refine w_seq fun K20 hK20 => ?_
    refine w_reg gC ?_
    try simp only [W, Nat.reduceAdd]
    refine w_grdT h (fun hc h => ?_) (fun hc h => ?_)
    · try simp only [W, hc]
      refine seq_n hK20 ?_
      refine w_kill ?_
      exact cut_n hK19 ⟨_, (Option.some.inj h).symm, rfl, (hS.sel 4 [1, 2, 3, 0] (by decide))⟩
    · try simp only [W, EE, reduceIte, Bool.false_eq_true, hc]
      refine seq_n hK20 ?_
      refine w_kill ?_
      exact cut_n hK19 ⟨_, (Option.some.inj h).symm, rfl, (hS.sel 4 [1, 2, 3, 0] (by decide))⟩
  · obtain ⟨x16, ey, rfl, hS⟩ := hq; obtain rfl := ey.symm
    replace h := g18
    try dsimp only at h
    refine seq_n hK15 ?_
    refine w_if ?_
    simp only [W]
    refine w_cnd h (fun hc h => ?_) (fun hc h => ?_)
    · refine w_seq fun K21 hK21 => ?_
      refine w_reg gC ?_
      try simp only [W, EE, Nat.reduceAdd]
      refine w_bld rfl rfl rfl rfl rfl ?_
      try simp only [W]
      refine w_stv (a := .agg [.int .i64 0, .nil, .nil]) (y' := .agg [.int .i64 0, .nil, .nil]) 2 hS rfl rfl rfl rfl rfl rfl rfl rfl fun H hS => ?_
      try simp only [W]
      refine seq_n hK21 ?_
      refine w_ret ?_
      refine seq_r hK14 ?_
      refine fin_r hK0 (res_c rfl rfl (hS.var 2 rfl) rfl (res_tc rfl (res_tc rfl rfl))) ?_
      try obtain rfl := Option.some.inj h
      exact hP _ isSl_nil _ isSl_nil _ isSl_nil _ ((((hS.nil_ 1).nil_ 3).nil_ 4).sel 7 [0, 1, 2] (by decide))
    · refine w_skip ?_
      refine seq_n hK14 ?_
      refine w_seq fun K22 hK22 => ?_
      refine w_reg gC ?_
      try simp only [W, Nat.reduceAdd]
      refine seq_n hK22 ?_
      refine w_seq fun K23 hK23 => ?_
      refine w_seq fun K24 hK24 => ?_
      refine w_reg gC ?_
      try simp only [W, EE, Nat.reduceAdd]
      refine seq_n hK24 ?_
      obtain ⟨y43, hw44, g50⟩ := Option.bind_eq_some_iff.1 h
      refine w_join gC (fun s H => ∃ x36 : List Bool, ∃ x38 : Int, ∃ x39 : List Case, ∃ x41 : List Slip, y43 = (x36, x38, x39, x41) ∧ ∃ v37 : AV, isSl v37 ∧ ∃ v40 : AV, isSl v40 ∧ ∃ v42 : AV, isSl v42 ∧ s = [u, u, u, u, .ptr ip2 wp2 0 0, u, u, .ptr ip12 wp12 0 0, u, v37, u, u, u, u, u, u, u, u, u, u, u, u, u, u, u, u, u, u, u, u, u, u, u, u, u, u, u, u, u, u, u, u, u, u, u, u, u, u, u, u] ∧ Own H (⟨v37, 1, x36.map AV.bool⟩ :: ⟨v40, 4, x39.map e_Case⟩ :: ⟨v42, 3, x41.map e_Slip⟩ :: ⟨.ptr ip2 wp2 0 0, 3, [.agg [.int .i64 0, .nil, .nil]]⟩ :: ⟨.ptr ip12 wp12 0 0, 3, [.agg [.int .i64 x38, v40, v42]]⟩ :: F)) (fun K45 hK45 => ?_) (fun s H hq => ?_)
      · refine w_blk fun K46 hK46 => ?_
        refine w_loop gC hw44 (fun x s H => match x with | (x25, x28, x29, x30, x33) => ∃ v26 : AV, isSl v26 ∧ ∃ v31 : AV, isSl v31 ∧ ∃ v34 : AV, isSl v34 ∧ s = [u, u, u, u, .ptr ip2 wp2 0 0, u, u, .ptr ip12 wp12 0 0, u, v26, u, u, u, u, u, u, u, u, u, u, u, u, u, u, u, u, u, .fz (a1.map e_CourtStep), .int .i64 (a1.length : Int), .int .i64 x28, u, u, u, u, u, u, u, u, u, u, u, u, u, u, u, u, u, u, u, u] ∧ Own H (⟨v26, 1, x25.map AV.bool⟩ :: ⟨v31, 4, x30.map e_Case⟩ :: ⟨v34, 3, x33.map e_Slip⟩ :: ⟨.ptr ip2 wp2 0 0, 3, [.agg [.int .i64 0, .nil, .nil]]⟩ :: ⟨.ptr ip12 wp12 0 0, 3, [.agg [.int .i64 x29, v31, v34]]⟩ :: F)) ⟨_, isSl_nil, _, qv8, _, qv10, rfl, (hS.nil_ 1)⟩ (fun x y49 s H h hd48 hi K47 hK47 => ?_)
        obtain ⟨x25, x28, x29, x30, x33⟩ := x
        try dsimp only at hi
        obtain ⟨v26, qv26, v31, qv31, v34, qv34, rfl, hS⟩ := hi
        simp only [spec_PlayCourt_l0] at h
        refine w_seq fun K51 hK51 => ?_
        refine w_reg gC ?_
        try simp only [W, EE, Nat.reduceAdd]
        refine seq_n hK51 ?_
        refine w_seq fun K52 hK52 => ?_
        refine w_if ?_
        simp only [W]
        refine w_cnd h (fun hc h => ?_) (fun hc h => ?_)
        · refine w_skip ?_
          refine seq_n hK52 ?_
          refine w_seq fun K53 hK53 => ?_
          refine w_blk fun K54 hK54 => ?_
          refine w_seq fun K55 hK55 => ?_
          refine w_reg gC ?_
          try simp only [W, EE, Nat.reduceAdd]
          refine w_fz rfl rfl rfl (fun _ => rfl) h fun b56 hb56 h => ?_
          try simp only [W, EE, EN, reduceIte, Nat.reduceAdd, Nat.reduceLeDiff]
          refine w_alloc hS rfl rfl fun ip57 wp57 H hS => ?_
          try simp only [W]
          refine w_stv (a := .agg [.int .i64 b56.Kind, .int .i64 b56.K]) (y' := .agg [.int .i64 b56.Kind, .int .i64 b56.K]) 0 hS rfl rfl rfl rfl rfl rfl rfl rfl fun H hS => ?_
          try simp only [W]
          refine seq_n hK55 ?_
          refine w_seq fun K59 hK59 => ?_
          refine w_drawL gC [(3, []), (8, [6])] (by kernel_rfl) rfl (by kernel_rfl) ?_
          try simp only [W, EE, reduceIte, Nat.reduceAdd, Nat.reduceLeDiff, Nat.reduceBEq, hS.var 5 rfl, tabAt, qAt, Nat.reduceEqDiff, List.contains_cons, Nat.reduceBEq, Bool.or_self]
          refine w_callO (rsh := [[.sc, .sl [.sc, .sc, .sc, .sc], .sl [.sc, .sc, .sc]]]) (ys := [.agg [.int .i64 x29, .fz (x30.map e_Case), .fz (x33.map e_Slip)]]) h rfl (pv_c (sn_agg (sm_c rfl (sm_c (sn_ow hS 2 rfl qv31 (fun _ => rfl)) (sm_c (sn_ow hS 3 rfl qv34 (fun _ => rfl)) (sm_n _))))) pv_n) fun b60 hb60 h => ⟨.agg [.int .i64 b60.Now, .own 4 (b60.Cases.map e_Case), .own 3 (b60.Line.map e_Slip)], spec_l16Own_w hb60 (Own.nil _) fun v61 qv61 v62 qv62 H hS => TV_ok rfl (TV_a (TC_sc rfl (TC_ow 0 hS rfl qv61 (fun _ _ => by simp [takeE, takeT, takeC, plainA, e_Case]) fun H hS => TC_ow 0 hS rfl qv62 (fun _ _ => by simp [takeE, takeT, takeC, plainA, e_Slip]) fun H hS => TC_nil (TV_n rfl)))), (nf_a (nf_c rfl (nf_c (noFz_o _ (fun _ => rfl) _) (nf_c (noFz_o _ (fun _ => rfl) _) nf_n)))), ?_⟩
          refine thaw_1 ?_
          refine TH_a ?_
          refine TH_p (fun _ => rfl) ?_
          refine TH_o hS (fun _ _ => rfl) (fun _ => rfl) fun v64 H qv64 hS => ?_
          refine TH_o hS (fun _ _ => rfl) (fun _ => rfl) fun v66 H qv66 hS => ?_
          refine TH_n ?_
          refine TH_n ?_
          try simp only [List.headD_cons]
          try simp only [W, EE, reduceIte, Nat.reduceAdd, Nat.reduceLeDiff, hS.var 2 rfl]
          refine w_call h fun b67 hb67 h => ?_
          obtain ⟨b68, b69⟩ := b67
          try dsimp only at h
          refine spec_l16Step_w hb67 (hS.sel 8 [1, 0, 2, 3, 4, 5, 6, 7] (by decide)) qv64 qv66 fun v70 qv70 v72 qv72 H hS => ?_
          try simp only [W]
          refine w_alloc hS rfl rfl fun ip74 wp74 H hS => ?_
          try simp only [W]
          refine w_stv (a := .agg [.int .i64 b68.Now, v70, v72]) (y' := .agg [.int .i64 b68.Now, v70, v72]) 0 hS rfl rfl rfl rfl rfl (by simp only [storA, List.all_cons, List.all_nil, qv70.stor, qv72.stor]; rfl) rfl rfl fun H hS => ?_
          refine goK_late ?_
          refine lateG_s (by first | rfl | (simp [evalOp, W, EE, EN, rdAt, mkT, subL, AV.cells, hS.var 0 rfl, hS.var 3 rfl, hS.var 7 rfl, hS.var 8 rfl]; done)) ?_
          refine lateG_n ?_
          try simp only [W]
          refine seq_n hK59 ?_
          refine w_seq fun K76 hK76 => ?_
          refine w_seq fun K77 hK77 => ?_
          refine w_reg gC ?_
          try simp only [W, Nat.reduceAdd]
          refine seq_n hK77 ?_
          obtain ⟨y85, h, g86⟩ := Option.bind_eq_some_iff.1 h
          refine w_join gC (fun s H => ∃ x78 : Int, ∃ x79 : List Case, ∃ x82 : List Slip, y85 = (x78, x79, x82) ∧ ∃ v80 : AV, isSl v80 ∧ ∃ v83 : AV, isSl v83 ∧ s = [u, u, u, u, .ptr ip2 wp2 0 0, u, u, .ptr ip12 wp12 0 0, u, v26, u, u, u, .bool b69, u, u, u, u, u, u, u, u, u, u, u, u, u, .fz (a1.map e_CourtStep), .int .i64 (a1.length : Int), .int .i64 x28, u, u, u, u, u, u, u, u, u, u, u, u, u, u, u, u, u, u, u, u] ∧ Own H (⟨v26, 1, x25.map AV.bool⟩ :: ⟨v80, 4, x79.map e_Case⟩ :: ⟨v83, 3, x82.map e_Slip⟩ :: ⟨.ptr ip2 wp2 0 0, 3, [.agg [.int .i64 0, .nil, .nil]]⟩ :: ⟨.ptr ip12 wp12 0 0, 3, [.agg [.int .i64 x78, v80, v83]]⟩ :: F)) (fun K87 hK87 => ?_) (fun s H hq => ?_)
          · refine w_seq fun K88 hK88 => ?_
            refine w_if ?_
            simp only [W]
            refine w_cnd h (fun hc h => ?_) (fun hc h => ?_)
            · refine w_reg gC ?_
              try simp only [W, EE, reduceIte, Nat.reduceAdd, Nat.reduceLeDiff, hS.var 0 rfl]
              refine w_stv (a := .agg [.int .i64 b68.Now, v70, v72]) (y' := .agg [.int .i64 b68.Now, v70, v72]) 8 hS rfl rfl rfl rfl rfl (by simp only [storA, List.all_cons, List.all_nil, qv70.stor, qv72.stor]; rfl) rfl rfl fun H hS => ?_
              try simp only [W]
              refine seq_n hK88 ?_
              refine w_kill ?_
              exact cut_n hK87 ⟨_, _, _, (Option.some.inj h).symm, _, qv70, _, qv72, rfl, (hS.sel 9 [4, 1, 2, 7, 8] (by decide))⟩
            · refine w_skip ?_
              refine seq_n hK88 ?_
              refine w_kill ?_
              exact cut_n hK87 ⟨_, _, _, (Option.some.inj h).symm, _, qv31, _, qv34, rfl, (hS.sel 9 [4, 5, 6, 7, 8] (by decide))⟩
          · obtain ⟨x78, x79, x82, rfl, v80, qv80, v83, qv83, rfl, hS⟩ := hq
            replace h := g86
            try dsimp only at h
            refine seq_n hK76 ?_
            refine w_reg gC ?_
            try simp only [W, Nat.reduceAdd]
            refine w_lit (el := ([b69] : List Bool).map AV.bool) hS rfl rfl rfl rfl rfl rfl rfl fun v89 H qv89 hS => ?_
            try simp only [W, EE]
            refine w_appV (l := x25) (c := AV.bool) 1 hS rfl qv26 rfl rfl rfl (hS.elems 0 rfl qv89) (fun _ => rfl) rfl h fun v92 H x91 qv92 hm h hS => ?_
            try simp only [W]
            refine blk_n0 hK54 ?_
            refine seq_n hK53 ?_
            refine w_reg gC ?_
            try simp only [W, EE, Nat.reduceAdd]
            exact lp_n hK47 h ⟨_, qv92, _, qv80, _, qv83, rfl, (hS.sel 6 [1, 2, 3, 4, 5] (by decide))⟩
        · refine w_exit ?_
          refine seq_x hK52 ?_
          try obtain rfl := Option.some.inj h
          obtain rfl := hd48 _ rfl
          have h : (some (x25, x29, x30, x33) : Option ((List Bool) × Int × (List Case) × (List Slip))) = some (x25, x29, x30, x33) := rfl
          refine lp_x hK47 ?_
          refine blk_e hK46 ?_
          exact cut_n hK45 ⟨_, _, _, _, (Option.some.inj h).symm, _, qv26, _, qv31, _, qv34, rfl, hS⟩
      · obtain ⟨x36, x38, x39, x41, rfl, v37, qv37, v40, qv40, v42, qv42, rfl, hS⟩ := hq
        replace h := g50
        try dsimp only at h
        refine seq_n hK23 ?_
        refine w_seq fun K96 hK96 => ?_
        refine w_reg gC ?_
        try simp only [W, EE, reduceIte, Nat.reduceAdd, Nat.reduceLeDiff, Nat.reduceBEq, hS.var 4 rfl, List.contains_cons, Nat.reduceBEq, Bool.or_self]
        refine w_callO (rsh := [[.sc, .sl [.sc, .sc, .sc, .sc], .sl [.sc, .sc, .sc]]]) (ys := [.agg [.int .i64 x38, .fz (x39.map e_Case), .fz (x41.map e_Slip)]]) h rfl (pv_c (sn_agg (sm_c rfl (sm_c (sn_ow hS 1 rfl qv40 (fun _ => rfl)) (sm_c (sn_ow hS 2 rfl qv42 (fun _ => rfl)) (sm_n _))))) pv_n) fun b97 hb97 h => ⟨.agg [.int .i64 b97.Now, .own 4 (b97.Cases.map e_Case), .own 3 (b97.Line.map e_Slip)], spec_l16Own_w hb97 (Own.nil _) fun v98 qv98 v99 qv99 H hS => TV_ok rfl (TV_a (TC_sc rfl (TC_ow 0 hS rfl qv98 (fun _ _ => by simp [takeE, takeT, takeC, plainA, e_Case]) fun H hS => TC_ow 0 hS rfl qv99 (fun _ _ => by simp [takeE, takeT, takeC, plainA, e_Slip]) fun H hS => TC_nil (TV_n rfl)))), (nf_a (nf_c rfl (nf_c (noFz_o _ (fun _ => rfl) _) (nf_c (noFz_o _ (fun _ => rfl) _) nf_n)))), ?_⟩
        refine thaw_1 ?_
        refine TH_a ?_
        refine TH_p (fun _ => rfl) ?_
        refine TH_o hS (fun _ _ => rfl) (fun _ => rfl) fun v101 H qv101 hS => ?_
        refine TH_o hS (fun _ _ => rfl) (fun _ => rfl) fun v103 H qv103 hS => ?_
        refine TH_n ?_
        refine TH_n ?_
        try simp only [List.headD_cons]
        try simp only [W]
        refine w_stv (a := .agg [.int .i64 b97.Now, v101, v103]) (y' := .agg [.int .i64 b97.Now, v101, v103]) 5 hS rfl rfl rfl rfl rfl (by simp only [storA, List.all_cons, List.all_nil, qv101.stor, qv103.stor]; rfl) rfl rfl fun H hS => ?_
        try simp only [W]
        refine seq_n hK96 ?_
        refine w_ret ?_
        refine fin_r hK0 (res_c rfl rfl (hS.var 5 rfl) rfl (res_tc rfl (res_tc rfl rfl))) ?_
        try obtain rfl := Option.some.inj h
        exact hP _ qv101 _ qv103 _ qv37 _ (hS.sel 7 [1, 0, 2] (by decide))
theorem laws_sameBools_w {a0 : List Bool} {a1 : List Bool} {r : (Bool)} (h : laws_sameBools a0 a1 = some r) {F : List It} {H : Heap} (hS : Own H (F)) {P : AV → Heap → Prop} (hP : ∀ H', Own H' (F) → P (.bool r) H') : ACall C 49 [.fz (a0.map AV.bool), .fz (a1.map AV.bool)] H P := by
  refine acall_of gC (res := [.tmp 4]) (n := 26) rfl rfl rfl rfl fun K0 hK0 => ?_
  simp only [W, Nat.reduceSub, Nat.reduceAdd, List.replicate]
  unfold laws_sameBools at h
  refine w_seq fun K1 hK1 => ?_
  refine w_reg gC ?_
  try simp only [W, Nat.reduceAdd]
  refine seq_n hK1 ?_
  refine w_seq fun K2 hK2 => ?_
  refine w_seq fun K3 hK3 => ?_
  refine w_reg gC ?_
  try simp only [W, EE, Nat.reduceAdd]
  refine seq_n hK3 ?_
  refine w_if ?_
  simp only [W]
  refine w_cnd h (fun hc h => ?_) (fun hc h => ?_)
  · refine w_seq fun K4 hK4 => ?_
    refine w_reg gC ?_
    try simp only [W, Nat.reduceAdd]
    refine seq_n hK4 ?_
    refine w_ret ?_
    refine seq_r hK2 ?_
    refine fin_r1 hK0 rfl ?_
    try obtain rfl := Option.some.inj h
    exact hP _ hS
  · refine w_skip ?_
    refine seq_n hK2 ?_
    refine w_seq fun K5 hK5 => ?_
    refine w_seq fun K6 hK6 => ?_
    refine w_reg gC ?_
    try simp only [W, EE, Nat.reduceAdd]
    refine seq_n hK6 ?_
    obtain ⟨y8, hw9, g15⟩ := Option.bind_eq_some_iff.1 h
    refine w_join gC (fun s H => y8 = LR.next () ∧ s = [u, u, u, u, u, u, u, u, u, u, u, u, u, u, u, u, u, u, u, u, u, u, u, u, u, u] ∧ Own H (F)) (fun K10 hK10 => ?_) (fun s H hq => ?_)
    · refine w_blk fun K11 hK11 => ?_
      refine w_loop gC hw9 (fun x s H => s = [.fz (a0.map AV.bool), .fz (a1.map AV.bool), u, u, u, u, u, u, u, u, u, u, .int .i64 (a0.length : Int), .int .i64 x, u, u, u, u, u, u, u, u, u, u, u, u] ∧ Own H (F)) ⟨rfl, hS⟩ (fun x7 y14 s H h hd13 hi K12 hK12 => ?_)
      skip
      try dsimp only at hi
      obtain ⟨rfl, hS⟩ := hi
      simp only [laws_sameBools_l0] at h
      refine w_seq fun K16 hK16 => ?_
      refine w_reg gC ?_
      try simp only [W, EE, Nat.reduceAdd]
      refine seq_n hK16 ?_
      refine w_seq fun K17 hK17 => ?_
      refine w_if ?_
      simp only [W]
      refine w_cnd h (fun hc h => ?_) (fun hc h => ?_)
      · refine w_skip ?_
        refine seq_n hK17 ?_
        refine w_seq fun K18 hK18 => ?_
        refine w_blk fun K19 hK19 => ?_
        refine w_seq fun K20 hK20 => ?_
        refine w_reg gC ?_
        try simp only [W, Nat.reduceAdd]
        refine seq_n hK20 ?_
        refine w_seq fun K21 hK21 => ?_
        refine w_draw0 gC (by kernel_rfl) ?_
        try simp only [W, EE, Nat.reduceAdd]
        refine w_fz rfl rfl rfl (fun _ => rfl) h fun b22 hb22 h => ?_
        try simp only [W, EE]
        refine w_fz rfl rfl rfl (fun _ => rfl) h fun b23 hb23 h => ?_
        try simp only [W, EE]
        rw [b_bneq _ _ _ _ (h := rfl) rfl, resV_s]
        try simp only [W]
        refine seq_n hK21 ?_
        refine w_if ?_
        simp only [W]
        refine w_cnd h (fun hc h => ?_) (fun hc h => ?_)
        · refine w_seq fun K24 hK24 => ?_
          refine w_reg gC ?_
          try simp only [W, Nat.reduceAdd]
          refine seq_n hK24 ?_
          refine w_ret ?_
          refine blk_r hK19 ?_
          refine seq_r hK18 ?_
          try obtain rfl := Option.some.inj h
          obtain rfl := hd13 _ rfl
          have h : (some (LR.done false) : Option (LR Unit (Bool))) = some (LR.done false) := rfl
          refine lp_r hK12 ?_
          refine blk_r hK11 ?_
          try obtain rfl := Option.some.inj h
          obtain rfl := Option.some.inj g15
          have h : (some false : Option (Bool)) = some false := rfl
          refine cut_r hK10 ?_
          refine seq_r hK5 ?_
          refine fin_r1 hK0 rfl ?_
          try obtain rfl := Option.some.inj h
          exact hP _ hS
        · refine w_skip ?_
          refine blk_n0 hK19 ?_
          refine seq_n hK18 ?_
          refine w_reg gC ?_
          try simp only [W, EE, Nat.reduceAdd]
          exact lp_n hK12 h ⟨rfl, hS⟩
      · refine w_exit ?_
        refine seq_x hK17 ?_
        try obtain rfl := Option.some.inj h
        obtain rfl := hd13 _ rfl
        have h : (some (LR.next ()) : Option (LR Unit (Bool))) = some (LR.next ()) := rfl
        refine lp_x hK12 ?_
        refine blk_e hK11 ?_
        exact cut_n hK10 ⟨(Option.some.inj h).symm, rfl, hS⟩
    · obtain ⟨rfl, rfl, hS⟩ := hq
      replace h := g15
      try dsimp only at h
      refine seq_n hK5 ?_
      refine w_seq fun K31 hK31 => ?_
      refine w_reg gC ?_
      try simp only [W, Nat.reduceAdd]
      refine seq_n hK31 ?_
      refine w_ret ?_
      refine fin_r1 hK0 rfl ?_
      try obtain rfl := Option.some.inj h
      exact hP _ hS
theorem laws_sameCourts_w {a0 : Court} {a1 : Court} {r : (Bool)} (h : laws_sameCourts a0 a1 = some r) {F : List It} {H : Heap} (hS : Own H (F)) {P : AV → Heap → Prop} (hP : ∀ H', Own H' (F) → P (.bool r) H') : ACall C 50 [.agg [.int .i64 a0.Now, .fz (a0.Cases.map e_Case), .fz (a0.Line.map e_Slip)], .agg [.int .i64 a1.Now, .fz (a1.Cases.map e_Case), .fz (a1.Line.map e_Slip)]] H P := by
  refine acall_of gC (res := [.tmp 4]) (n := 66) rfl rfl rfl rfl fun K0 hK0 => ?_
  simp only [W, Nat.reduceSub, Nat.reduceAdd, List.replicate]
  unfold laws_sameCourts at h
  refine w_seq fun K1 hK1 => ?_
  refine w_reg gC ?_
  try simp only [W, Nat.reduceAdd]
  refine w_box hS rfl rfl rfl rfl fun ip2 wp2 H hS => ?_
  try simp only [W]
  refine w_box hS rfl rfl rfl rfl fun ip4 wp4 H hS => ?_
  try simp only [W]
  refine seq_n hK1 ?_
  refine w_seq fun K6 hK6 => ?_
  refine w_seq fun K7 hK7 => ?_
  obtain ⟨y9, h, g10⟩ := Option.bind_eq_some_iff.1 h
  refine w_join gC (fun s H => ∃ x8 : Bool, y9 = (x8) ∧ s = (u :: u :: .ptr ip2 wp2 0 0 :: .ptr ip4 wp4 0 0 :: u :: u :: u :: u :: u :: u :: u :: u :: u :: u :: u :: u :: u :: u :: u :: u :: u :: u :: u :: u :: u :: u :: u :: u :: u :: .bool x8 :: u :: u :: u :: u :: u :: u :: u :: u :: u :: u :: u :: u :: u :: u :: u :: u :: u :: u :: u :: u :: u :: u :: u :: u :: u :: u :: u :: u :: u :: u :: u :: u :: u :: u :: u :: u :: []) ∧ Own H (⟨.ptr ip2 wp2 0 0, 3, [.agg [.int .i64 a0.Now, .fz (a0.Cases.map e_Case), .fz (a0.Line.map e_Slip)]]⟩ :: ⟨.ptr ip4 wp4 0 0, 3, [.agg [.int .i64 a1.Now, .fz (a1.Cases.map e_Case), .fz (a1.Line.map e_Slip)]]⟩ :: F)) (fun K11 hK11 => ?_) (fun s H hq => ?_)
  · refine w_seq fun K12 hK12 => ?_
    refine w_reg gC ?_
    try simp only [W, EE, Nat.reduceAdd, Nat.reduceBEq, hS.var 1 rfl, hS.var 0 rfl]
    refine w_grdT h (fun hc h => ?_) (fun hc h => ?_)
    · try simp only [W, hc]
      refine seq_n hK12 ?_
      refine w_killE (s' := (u :: u :: .ptr ip2 wp2 0 0 :: .ptr ip4 wp4 0 0 :: u :: u :: u :: u :: u :: u :: u :: u :: u :: u :: u :: u :: u :: u :: u :: u :: u :: u :: u :: u :: u :: u :: u :: u :: u :: .bool true :: u :: u :: u :: u :: u :: u :: u :: u :: u :: u :: u :: u :: u :: u :: u :: u :: u :: u :: u :: u :: u :: u :: u :: u :: u :: u :: u :: u :: u :: u :: u :: u :: u :: u :: u :: u :: [])) rfl ?_
      exact cut_n hK11 ⟨_, (Option.some.inj h).symm, rfl, (hS.sel 2 [1, 0] (by decide))⟩
    · try simp only [W, EE, reduceIte, Nat.reduceAdd, Nat.reduceBEq, Bool.false_eq_true, hS.var 1 rfl, hS.var 0 rfl, hc]
      refine w_grdT h (fun hc h => ?_) (fun hc h => ?_)
      · try simp only [W, hc]
        refine seq_n hK12 ?_
        refine w_killE (s' := (u :: u :: .ptr ip2 wp2 0 0 :: .ptr ip4 wp4 0 0 :: u :: u :: u :: u :: u :: u :: u :: u :: u :: u :: u :: u :: u :: u :: u :: u :: u :: u :: u :: u :: u :: u :: u :: u :: u :: .bool true :: u :: u :: u :: u :: u :: u :: u :: u :: u :: u :: u :: u :: u :: u :: u :: u :: u :: u :: u :: u :: u :: u :: u :: u :: u :: u :: u :: u :: u :: u :: u :: u :: u :: u :: u :: u :: [])) rfl ?_
        exact cut_n hK11 ⟨_, (Option.some.inj h).symm, rfl, (hS.sel 2 [1, 0] (by decide))⟩
      · try simp only [W, EE, reduceIte, Nat.reduceAdd, Nat.reduceBEq, Bool.false_eq_true, hS.var 1 rfl, hS.var 0 rfl, hc]
        refine seq_n hK12 ?_
        refine w_killE (s' := (u :: u :: .ptr ip2 wp2 0 0 :: .ptr ip4 wp4 0 0 :: u :: u :: u :: u :: u :: u :: u :: u :: u :: u :: u :: u :: u :: u :: u :: u :: u :: u :: u :: u :: u :: u :: u :: u :: u :: .bool ((a0.Line.length : Int) != (a1.Line.length : Int)) :: u :: u :: u :: u :: u :: u :: u :: u :: u :: u :: u :: u :: u :: u :: u :: u :: u :: u :: u :: u :: u :: u :: u :: u :: u :: u :: u :: u :: u :: u :: u :: u :: u :: u :: u :: u :: [])) rfl ?_
        exact cut_n hK11 ⟨_, (Option.some.inj h).symm, rfl, (hS.sel 2 [1, 0] (by decide))⟩
  · obtain ⟨x8, ey, rfl, hS⟩ := hq; obtain rfl := ey.symm
    replace h := g10
    try dsimp only at h
    refine seq_n hK7 ?_
    refine w_if ?_
    simp only [W]
    refine w_cnd h (fun hc h => ?_) (fun hc h => ?_)
    · refine w_seq fun K13 hK13 => ?_
      refine w_reg gC ?_
      try simp only [W, Nat.reduceAdd]
      refine seq_n hK13 ?_
      refine w_ret ?_
      refine seq_r hK6 ?_
      refine fin_r1 hK0 rfl ?_
      try obtain rfl := Option.some.inj h
      exact hP _ (hS.sel 2 [] (by decide))
    · refine w_skip ?_
      refine seq_n hK6 ?_
      refine w_seq fun K14 hK14 => ?_
      refine w_seq fun K15 hK15 => ?_
      refine w_reg gC ?_
      try simp only [W, EE, Nat.reduceAdd, Nat.reduceBEq, hS.var 0 rfl]
      refine seq_n hK15 ?_
      obtain ⟨y17, hw18, g24⟩ := Option.bind_eq_some_iff.1 h
      refine w_join gC (fun s H => y17 = LR.next () ∧ s = (u :: u :: .ptr ip2 wp2 0 0 :: .ptr ip4 wp4 0 0 :: u :: u :: u :: u :: u :: u :: u :: u :: u :: u :: u :: u :: u :: u :: u :: u :: u :: u :: u :: u :: u :: u :: u :: u :: u :: u :: u :: u :: u :: u :: u :: u :: u :: u :: u :: u :: u :: u :: u :: u :: u :: u :: u :: u :: u :: u :: u :: u :: u :: u :: u :: u :: u :: u :: u :: u :: u :: u :: u :: u :: u :: u :: []) ∧ Own H (⟨.ptr ip2 wp2 0 0, 3, [.agg [.int .i64 a0.Now, .fz (a0.Cases.map e_Case), .fz (a0.Line.map e_Slip)]]⟩ :: ⟨.ptr ip4 wp4 0 0, 3, [.agg [.int .i64 a1.Now, .fz (a1.Cases.map e_Case), .fz (a1.Line.map e_Slip)]]⟩ :: F)) (fun K19 hK19 => ?_) (fun s H hq => ?_)
      · refine w_blk fun K20 hK20 => ?_
        refine w_loop gC hw18 (fun x s H => s = (u :: u :: .ptr ip2 wp2 0 0 :: .ptr ip4 wp4 0 0 :: u :: u :: u :: u :: u :: u :: u :: u :: u :: u :: u :: u :: u :: u :: u :: u :: u :: u :: u :: u :: u :: u :: u :: u :: u :: u :: u :: u :: .int .i64 (a0.Cases.length : Int) :: .int .i64 x :: u :: u :: u :: u :: u :: u :: u :: u :: u :: u :: u :: u :: u :: u :: u :: u :: u :: u :: u :: u :: u :: u :: u :: u :: u :: u :: u :: u :: u :: u :: u :: u :: []) ∧ Own H (⟨.ptr ip2 wp2 0 0, 3, [.agg [.int .i64 a0.Now, .fz (a0.Cases.map e_Case), .fz (a0.Line.map e_Slip)]]⟩ :: ⟨.ptr ip4 wp4 0 0, 3, [.agg [.int .i64 a1.Now, .fz (a1.Cases.map e_Case), .fz (a1.Line.map e_Slip)]]⟩ :: F)) ⟨rfl, hS⟩ (fun x16 y23 s H h hd22 hi K21 hK21 => ?_)
        skip
        try dsimp only at hi
        obtain ⟨rfl, hS⟩ := hi
        simp only [laws_sameCourts_l0] at h
        refine w_seq fun K25 hK25 => ?_
        refine w_reg gC ?_
        try simp only [W, EE, Nat.reduceAdd]
        refine seq_n hK25 ?_
        refine w_seq fun K26 hK26 => ?_
        refine w_if ?_
        simp only [W]
        refine w_cnd h (fun hc h => ?_) (fun hc h => ?_)
        · refine w_skip ?_
          refine seq_n hK26 ?_
          refine w_seq fun K27 hK27 => ?_
          refine w_blk fun K28 hK28 => ?_
          refine w_seq fun K29 hK29 => ?_
          refine w_reg gC ?_
          try simp only [W, Nat.reduceAdd]
          refine seq_n hK29 ?_
          refine w_seq fun K30 hK30 => ?_
          refine w_draw0 gC (by kernel_rfl) ?_
          try simp only [W, EE, Nat.reduceAdd, Nat.reduceBEq, hS.var 0 rfl]
          refine w_fz rfl rfl rfl (fun _ => rfl) h fun b31 hb31 h => ?_
          try simp only [W, EE, EN, reduceIte, Nat.reduceAdd, Nat.reduceLeDiff, Nat.reduceBEq, hS.var 1 rfl]
          refine w_fz rfl rfl rfl (fun _ => rfl) h fun b32 hb32 h => ?_
          try simp only [W, EE, EN, reduceIte, Nat.reduceAdd, Nat.reduceLeDiff]
          refine seq_n hK30 ?_
          refine w_if ?_
          simp only [W]
          refine w_cnd h (fun hc h => ?_) (fun hc h => ?_)
          · refine w_seq fun K33 hK33 => ?_
            refine w_reg gC ?_
            try simp only [W, Nat.reduceAdd]
            refine seq_n hK33 ?_
            refine w_ret ?_
            refine blk_r hK28 ?_
            refine seq_r hK27 ?_
            try obtain rfl := Option.some.inj h
            obtain rfl := hd22 _ rfl
            have h : (some (LR.done false) : Option (LR Unit (Bool))) = some (LR.done false) := rfl
            refine lp_r hK21 ?_
            refine blk_r hK20 ?_
            try obtain rfl := Option.some.inj h
            obtain rfl := Option.some.inj g24
            have h : (some false : Option (Bool)) = some false := rfl
            refine cut_r hK19 ?_
            refine seq_r hK14 ?_
            refine fin_r1 hK0 rfl ?_
            try obtain rfl := Option.some.inj h
            exact hP _ (hS.sel 2 [] (by decide))
          · refine w_skip ?_
            refine blk_n0 hK28 ?_
            refine seq_n hK27 ?_
            refine w_reg gC ?_
            try simp only [W, EE, Nat.reduceAdd]
            exact lp_n hK21 h ⟨rfl, hS⟩
        · refine w_exit ?_
          refine seq_x hK26 ?_
          try obtain rfl := Option.some.inj h
          obtain rfl := hd22 _ rfl
          have h : (some (LR.next ()) : Option (LR Unit (Bool))) = some (LR.next ()) := rfl
          refine lp_x hK21 ?_
          refine blk_e hK20 ?_
          exact cut_n hK19 ⟨(Option.some.inj h).symm, rfl, hS⟩
      · obtain ⟨rfl, rfl, hS⟩ := hq
        replace h := g24
        try dsimp only at h
        refine seq_n hK14 ?_
        refine w_seq fun K40 hK40 => ?_
        refine w_seq fun K41 hK41 => ?_
        refine w_reg gC ?_
        try simp only [W, EE, Nat.reduceAdd, Nat.reduceBEq, hS.var 0 rfl]
        refine seq_n hK41 ?_
        obtain ⟨y43, hw44, g50⟩ := Option.bind_eq_some_iff.1 h
        refine w_join gC (fun s H => y43 = LR.next () ∧ s = (u :: u :: u :: u :: u :: u :: u :: u :: u :: u :: u :: u :: u :: u :: u :: u :: u :: u :: u :: u :: u :: u :: u :: u :: u :: u :: u :: u :: u :: u :: u :: u :: u :: u :: u :: u :: u :: u :: u :: u :: u :: u :: u :: u :: u :: u :: u :: u :: u :: u :: u :: u :: u :: u :: u :: u :: u :: u :: u :: u :: u :: u :: u :: u :: u :: u :: []) ∧ Own H (F)) (fun K45 hK45 => ?_) (fun s H hq => ?_)
        · refine w_blk fun K46 hK46 => ?_
          refine w_loop gC hw44 (fun x s H => s = (u :: u :: .ptr ip2 wp2 0 0 :: .ptr ip4 wp4 0 0 :: u :: u :: u :: u :: u :: u :: u :: u :: u :: u :: u :: u :: u :: u :: u :: u :: u :: u :: u :: u :: u :: u :: u :: u :: u :: u :: u :: u :: u :: u :: u :: u :: u :: u :: u :: u :: u :: u :: u :: u :: u :: u :: u :: u :: u :: u :: .int .i64 (a0.Line.length : Int) :: .int .i64 x :: u :: u :: u :: u :: u :: u :: u :: u :: u :: u :: u :: u :: u :: u :: []) ∧ Own H (⟨.ptr ip2 wp2 0 0, 3, [.agg [.int .i64 a0.Now, .fz (a0.Cases.map e_Case), .fz (a0.Line.map e_Slip)]]⟩ :: ⟨.ptr ip4 wp4 0 0, 3, [.agg [.int .i64 a1.Now, .fz (a1.Cases.map e_Case), .fz (a1.Line.map e_Slip)]]⟩ :: F)) ⟨rfl, hS⟩ (fun x42 y49 s H h hd48 hi K47 hK47 => ?_)
          skip
          try dsimp only at hi
          obtain ⟨rfl, hS⟩ := hi
          simp only [laws_sameCourts_l1] at h
          refine w_seq fun K51 hK51 => ?_
          refine w_reg gC ?_
          try simp only [W, EE, Nat.reduceAdd]
          refine seq_n hK51 ?_
          refine w_seq fun K52 hK52 => ?_
          refine w_if ?_
          simp only [W]
          refine w_cnd h (fun hc h => ?_) (fun hc h => ?_)
          · refine w_skip ?_
            refine seq_n hK52 ?_
            refine w_seq fun K53 hK53 => ?_
            refine w_blk fun K54 hK54 => ?_
            refine w_seq fun K55 hK55 => ?_
            refine w_reg gC ?_
            try simp only [W, Nat.reduceAdd]
            refine seq_n hK55 ?_
            refine w_seq fun K56 hK56 => ?_
            refine w_draw0 gC (by kernel_rfl) ?_
            try simp only [W, EE, Nat.reduceAdd, Nat.reduceBEq, hS.var 0 rfl]
            refine w_fz rfl rfl rfl (fun _ => rfl) h fun b57 hb57 h => ?_
            try simp only [W, EE, EN, reduceIte, Nat.reduceAdd, Nat.reduceLeDiff, Nat.reduceBEq, hS.var 1 rfl]
            refine w_fz rfl rfl rfl (fun _ => rfl) h fun b58 hb58 h => ?_
            try simp only [W, EE, EN, reduceIte, Nat.reduceAdd, Nat.reduceLeDiff]
            refine seq_n hK56 ?_
            refine w_if ?_
            simp only [W]
            refine w_cnd h (fun hc h => ?_) (fun hc h => ?_)
            · refine w_seq fun K59 hK59 => ?_
              refine w_reg gC ?_
              try simp only [W, Nat.reduceAdd]
              refine seq_n hK59 ?_
              refine w_ret ?_
              refine blk_r hK54 ?_
              refine seq_r hK53 ?_
              try obtain rfl := Option.some.inj h
              obtain rfl := hd48 _ rfl
              have h : (some (LR.done false) : Option (LR Unit (Bool))) = some (LR.done false) := rfl
              refine lp_r hK47 ?_
              refine blk_r hK46 ?_
              try obtain rfl := Option.some.inj h
              obtain rfl := Option.some.inj g50
              have h : (some false : Option (Bool)) = some false := rfl
              refine cut_r hK45 ?_
              refine seq_r hK40 ?_
              refine fin_r1 hK0 rfl ?_
              try obtain rfl := Option.some.inj h
              exact hP _ (hS.sel 2 [] (by decide))
            · refine w_skip ?_
              refine blk_n0 hK54 ?_
              refine seq_n hK53 ?_
              refine w_reg gC ?_
              try simp only [W, EE, Nat.reduceAdd]
              exact lp_n hK47 h ⟨rfl, hS⟩
          · refine w_exit ?_
            refine seq_x hK52 ?_
            try obtain rfl := Option.some.inj h
            obtain rfl := hd48 _ rfl
            have h : (some (LR.next ()) : Option (LR Unit (Bool))) = some (LR.next ()) := rfl
            refine lp_x hK47 ?_
            refine blk_e hK46 ?_
            exact cut_n hK45 ⟨(Option.some.inj h).symm, rfl, (hS.sel 2 [] (by decide))⟩
        · obtain ⟨rfl, rfl, hS⟩ := hq
          replace h := g50
          try dsimp only at h
          refine seq_n hK40 ?_
          refine w_seq fun K66 hK66 => ?_
          refine w_reg gC ?_
          try simp only [W, Nat.reduceAdd]
          refine seq_n hK66 ?_
          refine w_ret ?_
          refine fin_r1 hK0 rfl ?_
          try obtain rfl := Option.some.inj h
          exact hP _ hS
theorem impl_AgreesIn_w {a0 : Court} {r : (Bool × Bool)} (h : impl_AgreesIn a0 = some r) {F : List It} {H : Heap} (hS : Own H (F)) {P : AV → Heap → Prop} (hP : ∀ H', Own H' (F) → P (.tup [.bool r.1, .bool r.2]) H') : ACall C 51 [.agg [.int .i64 a0.Now, .fz (a0.Cases.map e_Case), .fz (a0.Line.map e_Slip)]] H P := by
  refine acall_of gC (res := [.tmp 2, .tmp 3]) (n := 7) rfl rfl rfl rfl fun K0 hK0 => ?_
  simp only [W, Nat.reduceSub, Nat.reduceAdd, List.replicate]
  unfold impl_AgreesIn at h
  refine w_seq fun K1 hK1 => ?_
  refine w_reg gC ?_
  try simp only [W, Nat.reduceAdd]
  refine w_box hS rfl rfl rfl rfl fun ip2 wp2 H hS => ?_
  try simp only [W]
  refine seq_n hK1 ?_
  refine w_seq fun K4 hK4 => ?_
  refine w_seq fun K5 hK5 => ?_
  refine w_reg gC ?_
  try simp only [W, EE, reduceIte, Nat.reduceAdd, Nat.reduceLeDiff, hS.var 0 rfl]
  refine w_call h fun b6 hb6 h => ?_
  refine impl_GoodCourt_w hb6 hS fun H hS => ?_
  try simp only [W]
  refine seq_n hK5 ?_
  refine w_if ?_
  simp only [W]
  refine w_cnd h (fun hc h => ?_) (fun hc h => ?_)
  · refine w_seq fun K7 hK7 => ?_
    refine w_reg gC ?_
    try simp only [W, Nat.reduceAdd]
    refine seq_n hK7 ?_
    refine w_ret ?_
    refine seq_r hK4 ?_
    refine fin_r2 hK0 rfl rfl ?_
    try obtain rfl := Option.some.inj h
    exact hP _ (hS.sel 1 [] (by decide))
  · refine w_skip ?_
    refine seq_n hK4 ?_
    refine w_seq fun K8 hK8 => ?_
    refine w_reg gC ?_
    try simp only [W, Nat.reduceAdd]
    refine seq_n hK8 ?_
    refine w_ret ?_
    refine fin_r2 hK0 rfl rfl ?_
    try obtain rfl := Option.some.inj h
    exact hP _ (hS.sel 1 [] (by decide))
theorem laws_numberOf_w {a0 : List Int} {r : (Int)} (h : laws_numberOf a0 = some r) {F : List It} {H : Heap} (hS : Own H (F)) {P : AV → Heap → Prop} (hP : ∀ H', Own H' (F) → P (.int .i64 r) H') : ACall C 52 [.fz (a0.map (AV.int .u8))] H P := by
  refine acall_of gC (res := [.tmp 2]) (n := 20) rfl rfl rfl rfl fun K0 hK0 => ?_
  simp only [W, Nat.reduceSub, Nat.reduceAdd, List.replicate]
  unfold laws_numberOf at h
  refine w_seq fun K1 hK1 => ?_
  refine w_reg gC ?_
  try simp only [W, Nat.reduceAdd]
  refine seq_n hK1 ?_
  refine w_seq fun K2 hK2 => ?_
  refine w_reg gC ?_
  try simp only [W, Nat.reduceAdd]
  refine seq_n hK2 ?_
  refine w_seq fun K3 hK3 => ?_
  refine w_seq fun K4 hK4 => ?_
  refine w_reg gC ?_
  try simp only [W, EE, Nat.reduceAdd]
  refine seq_n hK4 ?_
  obtain ⟨y8, hw9, g15⟩ := Option.bind_eq_some_iff.1 h
  refine w_join gC (fun s H => ∃ x7 : Int, y8 = (x7) ∧ s = [u, u, u, .int .i64 x7, u, u, u, u, u, u, u, u, u, u, u, u, u, u, u, u] ∧ Own H (F)) (fun K10 hK10 => ?_) (fun s H hq => ?_)
  · refine w_blk fun K11 hK11 => ?_
    refine w_loop gC hw9 (fun x s H => match x with | (x5, x6) => s = [u, u, u, .int .i64 x5, u, u, .fz (a0.map (AV.int .u8)), .int .i64 (a0.length : Int), .int .i64 x6, u, u, u, u, u, u, u, u, u, u, u] ∧ Own H (F)) ⟨rfl, hS⟩ (fun x y14 s H h hd13 hi K12 hK12 => ?_)
    obtain ⟨x5, x6⟩ := x
    try dsimp only at hi
    obtain ⟨rfl, hS⟩ := hi
    simp only [laws_numberOf_l0] at h
    refine w_seq fun K16 hK16 => ?_
    refine w_reg gC ?_
    try simp only [W, EE, Nat.reduceAdd]
    refine seq_n hK16 ?_
    refine w_seq fun K17 hK17 => ?_
    refine w_if ?_
    simp only [W]
    refine w_cnd h (fun hc h => ?_) (fun hc h => ?_)
    · refine w_skip ?_
      refine seq_n hK17 ?_
      refine w_seq fun K18 hK18 => ?_
      refine w_blk fun K19 hK19 => ?_
      refine w_seq fun K20 hK20 => ?_
      refine w_reg gC ?_
      try simp only [W, EE, Nat.reduceAdd]
      refine w_fz rfl rfl rfl (fun _ => rfl) h fun b21 hb21 h => ?_
      try simp only [W, EE]
      refine seq_n hK20 ?_
      refine w_reg gC ?_
      try simp only [W, EE, Nat.reduceAdd]
      rw [md_lit _ _ rfl, Option.map_some, resV_s]
      try simp only [W]
      refine blk_n0 hK19 ?_
      refine seq_n hK18 ?_
      refine w_reg gC ?_
      try simp only [W, EE, Nat.reduceAdd]
      exact lp_n hK12 h ⟨rfl, hS⟩
    · refine w_exit ?_
      refine seq_x hK17 ?_
      try obtain rfl := Option.some.inj h
      obtain rfl := hd13 _ rfl
      have h : (some (x5) : Option (Int)) = some (x5) := rfl
      refine lp_x hK12 ?_
      refine blk_e hK11 ?_
      exact cut_n hK10 ⟨_, (Option.some.inj h).symm, rfl, hS⟩
  · obtain ⟨x7, ey, rfl, hS⟩ := hq; obtain rfl := ey.symm
    replace h := g15
    try dsimp only at h
    refine seq_n hK3 ?_
    refine w_seq fun K24 hK24 => ?_
    refine w_reg gC ?_
    try simp only [W, Nat.reduceAdd]
    refine seq_n hK24 ?_
    refine w_ret ?_
    refine fin_r1 hK0 rfl ?_
    try obtain rfl := Option.some.inj h
    exact hP _ hS
theorem slices_Clone_impl_Case_w {a0 : List Case} {r : List Case} (h : slices_Clone_impl_Case a0 = some r) {F : List It} {H : Heap} (hS : Own H F) {P : AV → Heap → Prop} (hP : ∀ v0 : AV, isSl v0 → ∀ H', Own H' (⟨v0, 4, r.map e_Case⟩ :: F) → P v0 H') : ACall C 231 [.fz (a0.map e_Case)] H P :=
  clone_w (ids := cids) rfl (sz := 4) (b := 32) (by simp [cids]) (fun _ => rfl) (by decide) h hS hP
theorem slices_Clone_impl_Slip_w {a0 : List Slip} {r : List Slip} (h : slices_Clone_impl_Slip a0 = some r) {F : List It} {H : Heap} (hS : Own H F) {P : AV → Heap → Prop} (hP : ∀ v0 : AV, isSl v0 → ∀ H', Own H' (⟨v0, 3, r.map e_Slip⟩ :: F) → P v0 H') : ACall C 232 [.fz (a0.map e_Slip)] H P :=
  clone_w (ids := cids) rfl (sz := 3) (b := 24) (by simp [cids]) (fun _ => rfl) (by decide) h hS hP
theorem impl_Court_copied_w {a0 : Court} {r : (Court)} (h : impl_Court_copied a0 = some r) {F : List It} {H : Heap} (hS : Own H (F)) {P : AV → Heap → Prop} (hP : ∀ v15 : AV, isSl v15 → ∀ v17 : AV, isSl v17 → ∀ H', Own H' (⟨v15, 4, r.Cases.map e_Case⟩ :: ⟨v17, 3, r.Line.map e_Slip⟩ :: F) → P (.agg [.int .i64 r.Now, v15, v17]) H') : ACall C 149 [.agg [.int .i64 a0.Now, .fz (a0.Cases.map e_Case), .fz (a0.Line.map e_Slip)]] H P := by
  refine acall_of gC (res := [.cell 2 68]) (n := 12) rfl rfl rfl rfl fun K0 hK0 => ?_
  simp only [W, Nat.reduceSub, Nat.reduceAdd, List.replicate]
  unfold impl_Court_copied at h
  refine w_seq fun K1 hK1 => ?_
  refine w_reg gC ?_
  try simp only [W, Nat.reduceAdd]
  refine w_box hS rfl rfl rfl rfl fun ip2 wp2 H hS => ?_
  try simp only [W]
  refine w_alloc hS rfl rfl fun ip4 wp4 H hS => ?_
  try simp only [W]
  refine seq_n hK1 ?_
  refine w_seq fun K6 hK6 => ?_
  refine w_drawL gC [(9, [])] (by kernel_rfl) rfl (by kernel_rfl) ?_
  try simp only [W, EE, reduceIte, Nat.reduceAdd, Nat.reduceBEq, hS.var 1 rfl, tabAt, qAt, Nat.reduceEqDiff, List.contains_cons, Nat.reduceBEq, Bool.or_true, Bool.or_self]
  refine w_callO (rsh := [[.sl [.sc, .sc, .sc, .sc]]]) (ys := [.fz (a0.Cases.map e_Case)]) h rfl (by rfl) fun b7 hb7 h => ⟨.own 4 (b7.map e_Case), slices_Clone_impl_Case_w hb7 (Own.nil _) fun v8 qv8 H hS => TV_ok rfl (TV_o 0 hS rfl qv8 (fun _ _ => by simp [takeE, takeT, takeC, plainA, e_Case]) fun H hS => TV_n rfl), (noFz_o _ (fun _ => rfl) _), ?_⟩
  refine thaw_1 ?_
  refine TH_o hS (fun _ _ => rfl) (fun _ => rfl) fun v10 H qv10 hS => ?_
  refine TH_n ?_
  try simp only [List.headD_cons]
  try simp only [W, EE, Nat.reduceAdd, Nat.reduceBEq, hS.var 2 rfl, Nat.reduceBEq]
  refine w_callO (rsh := [[.sl [.sc, .sc, .sc]]]) (ys := [.fz (a0.Line.map e_Slip)]) h rfl (by rfl) fun b11 hb11 h => ⟨.own 3 (b11.map e_Slip), slices_Clone_impl_Slip_w hb11 (Own.nil _) fun v12 qv12 H hS => TV_ok rfl (TV_o 0 hS rfl qv12 (fun _ _ => by simp [takeE, takeT, takeC, plainA, e_Slip]) fun H hS => TV_n rfl), (noFz_o _ (fun _ => rfl) _), ?_⟩
  refine thaw_1 ?_
  refine TH_o hS (fun _ _ => rfl) (fun _ => rfl) fun v14 H qv14 hS => ?_
  refine TH_n ?_
  try simp only [List.headD_cons]
  try simp only [W, EE]
  refine w_bld rfl rfl rfl rfl (by simp only [fillA, qv10.stora, qv10.cells, qv14.stora, qv14.cells]; simp [E, splice, AV.cells, storA, stor1] <;> rfl) ?_
  try simp only [W]
  refine w_stv (a := .agg [.int .i64 a0.Now, v10, v14]) (y' := .agg [.int .i64 a0.Now, v10, v14]) 2 hS rfl rfl rfl rfl rfl (by simp only [storA, List.all_cons, List.all_nil, qv10.stor, qv14.stor]; rfl) rfl rfl fun H hS => ?_
  try simp only [W]
  refine seq_n hK6 ?_
  refine w_ret ?_
  refine fin_r hK0 (res_c rfl rfl (hS.var 2 rfl) rfl rfl) ?_
  try obtain rfl := Option.some.inj h
  exact hP _ qv10 _ qv14 _ (hS.sel 4 [1, 0] (by decide))
theorem slices_IndexFunc_impl_Case_w {a0 : List Case} {g1 : Case → Option Bool} {f1 : FuncId} {c1 : List AV} {r : (Int)} (h : slices_IndexFunc_impl_Case a0 g1 = some r) {F : List It} {H : Heap} (hg1 : ∀ {x0 : Case} {r : Bool}, g1 x0 = some r → ∀ (L : List It) (n : Nat), L.drop n = F → ∀ (H : Heap), Own H L → ∀ (P : AV → Heap → Prop), (∀ H', Own H' L → P (.bool r) H') → ACall C f1 ([.agg [.int .i64 x0.End, .bool x0.Asks, .int .i64 x0.Final, .int .i64 x0.Said]] ++ c1) H P) (hS : Own H (F)) {P : AV → Heap → Prop} (hP : ∀ H', Own H' (F) → P (.int .i64 r) H') : ACall C 233 [.fz (a0.map e_Case), .fn f1 c1] H P := by
  refine acall_of gC (res := [.tmp 4]) (n := 19) rfl rfl rfl rfl fun K0 hK0 => ?_
  simp only [W, Nat.reduceSub, Nat.reduceAdd, List.replicate]
  unfold slices_IndexFunc_impl_Case at h
  refine w_seq fun K1 hK1 => ?_
  refine w_reg gC ?_
  try simp only [W, Nat.reduceAdd]
  refine seq_n hK1 ?_
  refine w_seq fun K2 hK2 => ?_
  refine w_seq fun K3 hK3 => ?_
  refine w_reg gC ?_
  try simp only [W, EE, Nat.reduceAdd]
  refine seq_n hK3 ?_
  obtain ⟨y5, hw6, g12⟩ := Option.bind_eq_some_iff.1 h
  refine w_join gC (fun s H => y5 = LR.next () ∧ s = [u, u, u, u, u, u, u, u, u, u, u, u, u, u, u, u, u, u, u] ∧ Own H (F)) (fun K7 hK7 => ?_) (fun s H hq => ?_)
  · refine w_blk fun K8 hK8 => ?_
    refine w_loop gC hw6 (fun x s H => s = [.fz (a0.map e_Case), .fn f1 c1, u, u, u, u, u, .int .i64 (a0.length : Int), .int .i64 x, u, u, u, u, u, u, u, u, u, u] ∧ Own H (F)) ⟨rfl, hS⟩ (fun x4 y11 s H h hd10 hi K9 hK9 => ?_)
    skip
    try dsimp only at hi
    obtain ⟨rfl, hS⟩ := hi
    simp only [slices_IndexFunc_impl_Case_l0] at h
    refine w_seq fun K13 hK13 => ?_
    refine w_reg gC ?_
    try simp only [W, EE, Nat.reduceAdd]
    refine seq_n hK13 ?_
    refine w_seq fun K14 hK14 => ?_
    refine w_if ?_
    simp only [W]
    refine w_cnd h (fun hc h => ?_) (fun hc h => ?_)
    · refine w_skip ?_
      refine seq_n hK14 ?_
      refine w_seq fun K15 hK15 => ?_
      refine w_blk fun K16 hK16 => ?_
      refine w_seq fun K17 hK17 => ?_
      refine w_reg gC ?_
      try simp only [W, Nat.reduceAdd]
      refine seq_n hK17 ?_
      refine w_seq fun K18 hK18 => ?_
      refine w_reg gC ?_
      try simp only [W, EE, Nat.reduceAdd]
      refine w_fz rfl rfl rfl (fun _ => rfl) h fun b19 hb19 h => ?_
      try simp only [W, EE, EN, reduceIte, Nat.reduceAdd, Nat.reduceLeDiff]
      refine w_call h fun b20 hb20 h => ?_
      refine hg1 hb20 _ 0 rfl _ hS _ fun H hS => ?_
      try simp only [W]
      refine seq_n hK18 ?_
      refine w_if ?_
      simp only [W]
      refine w_cnd h (fun hc h => ?_) (fun hc h => ?_)
      · refine w_seq fun K21 hK21 => ?_
        refine w_reg gC ?_
        try simp only [W, Nat.reduceAdd]
        refine seq_n hK21 ?_
        refine w_ret ?_
        refine blk_r hK16 ?_
        refine seq_r hK15 ?_
        try obtain rfl := Option.some.inj h
        obtain rfl := hd10 _ rfl
        have h : (some (LR.done x4) : Option (LR Unit (Int))) = some (LR.done x4) := rfl
        refine lp_r hK9 ?_
        refine blk_r hK8 ?_
        try obtain rfl := Option.some.inj h
        obtain rfl := Option.some.inj g12
        have h : (some x4 : Option (Int)) = some x4 := rfl
        refine cut_r hK7 ?_
        refine seq_r hK2 ?_
        refine fin_r1 hK0 rfl ?_
        try obtain rfl := Option.some.inj h
        exact hP _ hS
      · refine w_skip ?_
        refine blk_n0 hK16 ?_
        refine seq_n hK15 ?_
        refine w_reg gC ?_
        try simp only [W, EE, Nat.reduceAdd]
        exact lp_n hK9 h ⟨rfl, hS⟩
    · refine w_exit ?_
      refine seq_x hK14 ?_
      try obtain rfl := Option.some.inj h
      obtain rfl := hd10 _ rfl
      have h : (some (LR.next ()) : Option (LR Unit (Int))) = some (LR.next ()) := rfl
      refine lp_x hK9 ?_
      refine blk_e hK8 ?_
      exact cut_n hK7 ⟨(Option.some.inj h).symm, rfl, hS⟩
  · obtain ⟨rfl, rfl, hS⟩ := hq
    replace h := g12
    try dsimp only at h
    refine seq_n hK2 ?_
    refine w_seq fun K28 hK28 => ?_
    refine w_reg gC ?_
    try simp only [W, Nat.reduceAdd]
    refine seq_n hK28 ?_
    refine w_ret ?_
    refine fin_r1 hK0 rfl ?_
    try obtain rfl := Option.some.inj h
    exact hP _ hS
theorem impl_Court_unsettled_1_w {a0 : Case} {r : (Bool)} (h : impl_Court_unsettled_1 a0 = some r) {F : List It} {H : Heap} (hS : Own H (F)) {P : AV → Heap → Prop} (hP : ∀ H', Own H' (F) → P (.bool r) H') : ACall C 234 [.agg [.int .i64 a0.End, .bool a0.Asks, .int .i64 a0.Final, .int .i64 a0.Said]] H P := by
  refine acall_of gC (res := [.tmp 2]) (n := 6) rfl rfl rfl rfl fun K0 hK0 => ?_
  simp only [W, Nat.reduceSub, Nat.reduceAdd, List.replicate]
  unfold impl_Court_unsettled_1 at h
  refine w_seq fun K1 hK1 => ?_
  refine w_reg gC ?_
  try simp only [W, Nat.reduceAdd]
  refine w_box hS rfl rfl rfl rfl fun ip2 wp2 H hS => ?_
  try simp only [W]
  refine seq_n hK1 ?_
  refine w_seq fun K4 hK4 => ?_
  refine w_reg gC ?_
  try simp only [W, EE, Nat.reduceAdd, Nat.reduceBEq, hS.var 0 rfl]
  refine seq_n hK4 ?_
  refine w_ret ?_
  refine fin_r1 hK0 rfl ?_
  try obtain rfl := Option.some.inj h
  exact hP _ (hS.sel 1 [] (by decide))
theorem impl_Court_unsettled_w {a0 : Court} {i0 : Nat} {w0 : Nat} {r : (Int)} (h : impl_Court_unsettled a0 = some r) {F : List It} {H : Heap} (hm0 : ⟨.ptr i0 w0 0 0, 3, [.agg [.int .i64 a0.Now, .fz (a0.Cases.map e_Case), .fz (a0.Line.map e_Slip)]]⟩ ∈ F) (hS : Own H (F)) {P : AV → Heap → Prop} (hP : ∀ H', Own H' (F) → P (.int .i64 r) H') : ACall C 150 [.ptr i0 w0 0 0] H P := by
  refine acall_of gC (res := [.tmp 2]) (n := 8) rfl rfl rfl rfl fun K0 hK0 => ?_
  simp only [W, Nat.reduceSub, Nat.reduceAdd, List.replicate]
  unfold impl_Court_unsettled at h
  refine w_seq fun K1 hK1 => ?_
  refine w_reg gC ?_
  try simp only [W, Nat.reduceAdd]
  refine seq_n hK1 ?_
  refine w_seq fun K2 hK2 => ?_
  refine w_reg gC ?_
  try simp only [W, EE, Nat.reduceAdd, Nat.reduceBEq, hS.varm hm0]
  refine w_call h fun b3 hb3 h => ?_
  refine slices_IndexFunc_impl_Case_w hb3 (fun h _ n hL _ hS _ hP => impl_Court_unsettled_1_w h hS hP) hS fun H hS => ?_
  try simp only [W]
  refine seq_n hK2 ?_
  refine w_ret ?_
  refine fin_r1 hK0 rfl ?_
  try obtain rfl := Option.some.inj h
  exact hP _ hS
theorem impl_Court_unsettled_wq {a0 : Court} {r : (Int)} (h : impl_Court_unsettled a0 = some r) {F : List It} {H : Heap} (hS : Own H (F)) {P : AV → Heap → Prop} (hP : ∀ H', Own H' (F) → P (.int .i64 r) H') : ACall C 150 [.fe (.agg [.int .i64 a0.Now, .fz (a0.Cases.map e_Case), .fz (a0.Line.map e_Slip)]) 0] H P := by
  refine acall_of gC (res := [.tmp 2]) (n := 8) rfl rfl rfl rfl fun K0 hK0 => ?_
  simp only [W, Nat.reduceSub, Nat.reduceAdd, List.replicate]
  unfold impl_Court_unsettled at h
  refine w_seq fun K1 hK1 => ?_
  refine w_reg gC ?_
  try simp only [W, Nat.reduceAdd]
  refine seq_n hK1 ?_
  refine w_seq fun K2 hK2 => ?_
  refine w_reg gC ?_
  try simp only [W, EE, Nat.reduceAdd, Nat.reduceBEq]
  refine w_call h fun b3 hb3 h => ?_
  refine slices_IndexFunc_impl_Case_w hb3 (fun h _ n hL _ hS _ hP => impl_Court_unsettled_1_w h hS hP) hS fun H hS => ?_
  try simp only [W]
  refine seq_n hK2 ?_
  refine w_ret ?_
  refine fin_r1 hK0 rfl ?_
  try obtain rfl := Option.some.inj h
  exact hP _ hS
theorem impl_SettleCourt_w {a0 : Court} {r : (Court × Int × Bool)} (h : impl_SettleCourt a0 = some r) {F : List It} {H : Heap} (hS : Own H (F)) {P : AV → Heap → Prop} (hP : ∀ v71 : AV, isSl v71 → ∀ v73 : AV, isSl v73 → ∀ H', Own H' (⟨v71, 4, r.1.Cases.map e_Case⟩ :: ⟨v73, 3, r.1.Line.map e_Slip⟩ :: F) → P (.tup [.agg [.int .i64 r.1.Now, v71, v73], .int .i64 r.2.1, .bool r.2.2]) H') : ACall C 54 [.agg [.int .i64 a0.Now, .fz (a0.Cases.map e_Case), .fz (a0.Line.map e_Slip)]] H P := by
  refine acall_of gC (res := [.cell 2 68, .tmp 3, .tmp 4]) (n := 30) rfl rfl rfl rfl fun K0 hK0 => ?_
  simp only [W, Nat.reduceSub, Nat.reduceAdd, List.replicate]
  unfold impl_SettleCourt at h
  refine w_seq fun K1 hK1 => ?_
  refine w_reg gC ?_
  try simp only [W, Nat.reduceAdd]
  refine w_box hS rfl rfl rfl rfl fun ip2 wp2 H hS => ?_
  try simp only [W]
  refine w_alloc hS rfl rfl fun ip4 wp4 H hS => ?_
  try simp only [W]
  refine seq_n hK1 ?_
  refine w_seq fun K6 hK6 => ?_
  refine w_seq fun K7 hK7 => ?_
  refine w_reg gC ?_
  try simp only [W, EE, reduceIte, Nat.reduceAdd, Nat.reduceLeDiff, hS.var 1 rfl]
  refine w_call h fun b8 hb8 h => ?_
  refine impl_GoodCourt_w hb8 hS fun H hS => ?_
  try simp only [W]
  refine seq_n hK7 ?_
  refine w_if ?_
  simp only [W]
  refine w_cnd h (fun hc h => ?_) (fun hc h => ?_)
  · refine w_seq fun K9 hK9 => ?_
    refine w_reg gC ?_
    try simp only [W, EE, Nat.reduceAdd]
    refine w_bld rfl rfl rfl rfl rfl ?_
    try simp only [W]
    refine w_stv (a := .agg [.int .i64 0, .nil, .nil]) (y' := .agg [.int .i64 0, .nil, .nil]) 0 hS rfl rfl rfl rfl rfl rfl rfl rfl fun H hS => ?_
    try simp only [W]
    refine seq_n hK9 ?_
    refine w_ret ?_
    refine seq_r hK6 ?_
    refine fin_r hK0 (res_c rfl rfl (hS.var 0 rfl) rfl (res_tc rfl (res_tc rfl rfl))) ?_
    try obtain rfl := Option.some.inj h
    exact hP _ isSl_nil _ isSl_nil _ (((hS.nil_ 3).nil_ 4).sel 4 [0, 1] (by decide))
  · refine w_skip ?_
    refine seq_n hK6 ?_
    refine w_seq fun K10 hK10 => ?_
    refine w_reg gC ?_
    try simp only [W, EE, reduceIte, Nat.reduceAdd, Nat.reduceLeDiff, hS.var 1 rfl]
    refine w_call h fun b11 hb11 h => ?_
    refine impl_Court_copied_w hb11 hS fun v12 qv12 v14 qv14 H hS => ?_
    try simp only [W]
    refine w_alloc hS rfl rfl fun ip16 wp16 H hS => ?_
    try simp only [W]
    refine w_stv (a := .agg [.int .i64 b11.Now, v12, v14]) (y' := .agg [.int .i64 b11.Now, v12, v14]) 0 hS rfl rfl rfl rfl rfl (by simp only [storA, List.all_cons, List.all_nil, qv12.stor, qv14.stor]; rfl) rfl rfl fun H hS => ?_
    try simp only [W]
    refine seq_n hK10 ?_
    refine w_seq fun K18 hK18 => ?_
    refine w_seq fun K19 hK19 => ?_
    refine w_reg gC ?_
    try simp only [W, Nat.reduceAdd]
    refine w_callS (rsh := [[.sc]]) (ys := [.fe (.agg [.int .i64 b11.Now, .fz (b11.Cases.map e_Case), .fz (b11.Line.map e_Slip)]) 0]) h rfl (pv_c (sn_pt hS 0 rfl (sn_agg (sm_c rfl (sm_c (sn_ow hS 1 rfl qv12 (fun _ => rfl)) (sm_c (sn_ow hS 2 rfl qv14 (fun _ => rfl)) (sm_n _)))))) pv_n) fun b20 hb20 h => ⟨.int .i64 b20, impl_Court_unsettled_wq hb20 (Own.nil _) fun H hS => TV_ok rfl (TV_p rfl (TV_n rfl)), ⟨rfl, rfl, fun _ => rfl⟩, ?_⟩
    try simp only [W]
    refine seq_n hK19 ?_
    obtain ⟨y35, hw36, g42⟩ := Option.bind_eq_some_iff.1 h
    refine w_join gC (fun s H => ∃ x29 : Int, ∃ x30 : Int, ∃ x31 : List Case, ∃ x33 : List Slip, y35 = (x29, x30, x31, x33) ∧ ∃ v32 : AV, isSl v32 ∧ ∃ v34 : AV, isSl v34 ∧ s = [u, u, .ptr ip4 wp4 0 0, u, u, .ptr ip16 wp16 0 0, .int .i64 x29, u, u, u, u, u, u, u, u, u, u, u, u, u, u, u, u, u, u, u, u, u, u, u] ∧ Own H (⟨v32, 4, x31.map e_Case⟩ :: ⟨v34, 3, x33.map e_Slip⟩ :: ⟨.ptr ip4 wp4 0 0, 3, [.agg [.int .i64 0, .nil, .nil]]⟩ :: ⟨.ptr ip16 wp16 0 0, 3, [.agg [.int .i64 x30, v32, v34]]⟩ :: F)) (fun K37 hK37 => ?_) (fun s H hq => ?_)
    · refine w_blk fun K38 hK38 => ?_
      refine w_loop gC hw36 (fun x s H => match x with | (x21, x22, x23, x24, x26) => ∃ v25 : AV, isSl v25 ∧ ∃ v27 : AV, isSl v27 ∧ s = [u, u, .ptr ip4 wp4 0 0, u, u, .ptr ip16 wp16 0 0, .int .i64 x21, .int .i64 x22, u, u, u, u, u, u, u, u, u, u, u, u, u, u, u, u, u, u, u, u, u, u] ∧ Own H (⟨v25, 4, x24.map e_Case⟩ :: ⟨v27, 3, x26.map e_Slip⟩ :: ⟨.ptr ip4 wp4 0 0, 3, [.agg [.int .i64 0, .nil, .nil]]⟩ :: ⟨.ptr ip16 wp16 0 0, 3, [.agg [.int .i64 x23, v25, v27]]⟩ :: F)) ⟨_, qv12, _, qv14, rfl, (hS.sel 5 [1, 2, 3, 0] (by decide))⟩ (fun x y41 s H h hd40 hi K39 hK39 => ?_)
      obtain ⟨x21, x22, x23, x24, x26⟩ := x
      try dsimp only at hi
      obtain ⟨v25, qv25, v27, qv27, rfl, hS⟩ := hi
      simp only [impl_SettleCourt_l0] at h
      refine w_seq fun K43 hK43 => ?_
      refine w_seq fun K44 hK44 => ?_
      refine w_reg gC ?_
      try simp only [W, EE, Nat.reduceAdd]
      refine seq_n hK44 ?_
      refine w_if ?_
      simp only [W]
      refine w_cnd h (fun hc h => ?_) (fun hc h => ?_)
      · refine w_skip ?_
        refine seq_n hK43 ?_
        refine w_seq fun K45 hK45 => ?_
        refine w_blk fun K46 hK46 => ?_
        refine w_seq fun K47 hK47 => ?_
        refine w_reg gC ?_
        try simp only [W, EE, Nat.reduceAdd, Nat.reduceBEq, hS.var 3 rfl]
        refine w_stv (a := .nil) (y' := .agg [.int .i64 x23, v25, .nil]) 3 hS rfl rfl rfl rfl rfl rfl rfl rfl fun H hS => ?_
        try simp only [W]
        refine seq_n hK47 ?_
        refine w_seq fun K48 hK48 => ?_
        refine w_reg gC ?_
        try simp only [W, EE, Nat.reduceAdd]
        refine w_bld rfl rfl rfl rfl rfl ?_
        try simp only [W]
        have hS := hS.nil_ 3
        refine w_call h fun b50 hb50 h => ?_
        obtain ⟨b51, b52⟩ := b50
        try dsimp only at h
        refine impl_Court_step_w hb50 (hS.sel 5 [4, 1, 0, 2, 3] (by decide)) qv25 isSl_nil fun v53 qv53 v54 qv54 H hS => ?_
        try simp only [W]
        refine seq_n hK48 ?_
        refine w_seq fun K55 hK55 => ?_
        refine w_reg gC ?_
        try simp only [W, EE, Nat.reduceAdd]
        refine w_bld rfl rfl rfl rfl rfl ?_
        try simp only [W]
        refine w_call h fun b56 hb56 h => ?_
        obtain ⟨b57, b58⟩ := b56
        try dsimp only at h
        refine impl_Court_step_w hb56 hS qv53 qv54 fun v59 qv59 v60 qv60 H hS => ?_
        try simp only [W]
        refine seq_n hK55 ?_
        refine w_seq fun K61 hK61 => ?_
        refine w_reg gC ?_
        try simp only [W, EE, Nat.reduceAdd]
        refine w_bld rfl rfl rfl rfl rfl ?_
        try simp only [W]
        refine w_call h fun b62 hb62 h => ?_
        obtain ⟨b63, b64⟩ := b62
        try dsimp only at h
        refine impl_Court_step_w hb62 hS qv59 qv60 fun v65 qv65 v66 qv66 H hS => ?_
        try simp only [W]
        refine seq_n hK61 ?_
        refine w_reg gC ?_
        try simp only [W, EE, Nat.reduceAdd]
        refine blk_n0 hK46 ?_
        refine seq_n hK45 ?_
        refine w_reg gC ?_
        try simp only [W, Nat.reduceAdd]
        refine w_callS (rsh := [[.sc]]) (ys := [.fe (.agg [.int .i64 b64.Now, .fz (b64.Cases.map e_Case), .fz (b64.Line.map e_Slip)]) 0]) h rfl (pv_c (sn_pt hS 0 rfl (sn_agg (sm_c rfl (sm_c (sn_ow hS 1 rfl qv65 (fun _ => rfl)) (sm_c (sn_ow hS 2 rfl qv66 (fun _ => rfl)) (sm_n _)))))) pv_n) fun b67 hb67 h => ⟨.int .i64 b67, impl_Court_unsettled_wq hb67 (Own.nil _) fun H hS => TV_ok rfl (TV_p rfl (TV_n rfl)), ⟨rfl, rfl, fun _ => rfl⟩, ?_⟩
        try simp only [W]
        exact lp_n hK39 h ⟨_, qv65, _, qv66, rfl, (hS.sel 5 [1, 2, 4, 0] (by decide))⟩
      · refine w_exit ?_
        refine seq_x hK43 ?_
        try obtain rfl := Option.some.inj h
        obtain rfl := hd40 _ rfl
        have h : (some (x21, x23, x24, x26) : Option (Int × Int × (List Case) × (List Slip))) = some (x21, x23, x24, x26) := rfl
        refine lp_x hK39 ?_
        refine blk_e hK38 ?_
        exact cut_n hK37 ⟨_, _, _, _, (Option.some.inj h).symm, _, qv25, _, qv27, rfl, hS⟩
    · obtain ⟨x29, x30, x31, x33, rfl, v32, qv32, v34, qv34, rfl, hS⟩ := hq
      replace h := g42
      try dsimp only at h
      refine seq_n hK18 ?_
      refine w_seq fun K70 hK70 => ?_
      refine w_reg gC ?_
      try simp only [W, EE, reduceIte, Nat.reduceAdd, Nat.reduceLeDiff, hS.var 3 rfl]
      refine w_stv (a := .agg [.int .i64 x30, v32, v34]) (y' := .agg [.int .i64 x30, v32, v34]) 2 hS rfl rfl rfl rfl rfl (by simp only [storA, List.all_cons, List.all_nil, qv32.stor, qv34.stor]; rfl) rfl rfl fun H hS => ?_
      try simp only [W]
      refine seq_n hK70 ?_
      refine w_ret ?_
      refine fin_r hK0 (res_c rfl rfl (hS.var 2 rfl) rfl (res_tc rfl (res_tc rfl rfl))) ?_
      try obtain rfl := Option.some.inj h
      exact hP _ qv32 _ qv34 _ (hS.sel 4 [0, 1] (by decide))
theorem impl_IsSettled_w {a0 : Court} {r : (Bool × Bool)} (h : impl_IsSettled a0 = some r) {F : List It} {H : Heap} (hS : Own H (F)) {P : AV → Heap → Prop} (hP : ∀ H', Own H' (F) → P (.tup [.bool r.1, .bool r.2]) H') : ACall C 55 [.agg [.int .i64 a0.Now, .fz (a0.Cases.map e_Case), .fz (a0.Line.map e_Slip)]] H P := by
  refine acall_of gC (res := [.tmp 2, .tmp 3]) (n := 9) rfl rfl rfl rfl fun K0 hK0 => ?_
  simp only [W, Nat.reduceSub, Nat.reduceAdd, List.replicate]
  unfold impl_IsSettled at h
  refine w_seq fun K1 hK1 => ?_
  refine w_reg gC ?_
  try simp only [W, Nat.reduceAdd]
  refine w_box hS rfl rfl rfl rfl fun ip2 wp2 H hS => ?_
  try simp only [W]
  refine seq_n hK1 ?_
  refine w_seq fun K4 hK4 => ?_
  refine w_seq fun K5 hK5 => ?_
  refine w_reg gC ?_
  try simp only [W, EE, reduceIte, Nat.reduceAdd, Nat.reduceLeDiff, hS.var 0 rfl]
  refine w_call h fun b6 hb6 h => ?_
  refine impl_GoodCourt_w hb6 hS fun H hS => ?_
  try simp only [W]
  refine seq_n hK5 ?_
  refine w_if ?_
  simp only [W]
  refine w_cnd h (fun hc h => ?_) (fun hc h => ?_)
  · refine w_seq fun K7 hK7 => ?_
    refine w_reg gC ?_
    try simp only [W, Nat.reduceAdd]
    refine seq_n hK7 ?_
    refine w_ret ?_
    refine seq_r hK4 ?_
    refine fin_r2 hK0 rfl rfl ?_
    try obtain rfl := Option.some.inj h
    exact hP _ (hS.sel 1 [] (by decide))
  · refine w_skip ?_
    refine seq_n hK4 ?_
    refine w_seq fun K8 hK8 => ?_
    refine w_reg gC ?_
    try simp only [W, Nat.reduceAdd]
    refine w_call h fun b9 hb9 h => ?_
    refine impl_Court_unsettled_w hb9 (List.mem_of_getElem? (i := 0) rfl) hS fun H hS => ?_
    try simp only [W, EE]
    refine seq_n hK8 ?_
    refine w_ret ?_
    refine fin_r2 hK0 rfl rfl ?_
    try obtain rfl := Option.some.inj h
    exact hP _ (hS.sel 1 [] (by decide))
theorem laws_FnVerdicts_w {a0 : List Int} {a1 : List Int} {r : (Bool)} (h : laws_FnVerdicts a0 a1 = some r) {F : List It} {H : Heap} (hS : Own H (F)) {P : AV → Heap → Prop} (hP : ∀ H', Own H' (F) → P (.bool r) H') : ACall C 8 [.fz (a0.map (AV.int .u8)), .fz (a1.map (AV.int .u8))] H P := by
  refine acall_of gC (res := [.tmp 4]) (n := 236) rfl rfl rfl rfl fun K0 hK0 => ?_
  simp only [W, Nat.reduceSub, Nat.reduceAdd, List.replicate]
  unfold laws_FnVerdicts at h
  refine w_seq fun K1 hK1 => ?_
  refine w_reg gC ?_
  try simp only [W, Nat.reduceAdd]
  refine seq_n hK1 ?_
  refine w_seq fun K2 hK2 => ?_
  refine w_seq fun K3 hK3 => ?_
  refine w_reg gC ?_
  try simp only [W, EE, Nat.reduceAdd]
  refine seq_n hK3 ?_
  refine w_if ?_
  simp only [W]
  refine w_cnd h (fun hc h => ?_) (fun hc h => ?_)
  · refine w_seq fun K4 hK4 => ?_
    refine w_reg gC ?_
    try simp only [W, Nat.reduceAdd]
    refine seq_n hK4 ?_
    refine w_ret ?_
    refine seq_r hK2 ?_
    refine fin_r1 hK0 rfl ?_
    try obtain rfl := Option.some.inj h
    exact hP _ hS
  · refine w_skip ?_
    refine seq_n hK2 ?_
    refine w_seq fun K5 hK5 => ?_
    refine w_reg gC ?_
    try simp only [W, Nat.reduceAdd]
    refine w_call h fun b6 hb6 h => ?_
    obtain ⟨b7, b8⟩ := b6
    try dsimp only at h
    refine spec_DrawPlayCourt_w hb6 hS fun v9 qv9 v11 qv11 H hS => ?_
    try simp only [W]
    refine seq_n hK5 ?_
    refine w_seq fun K13 hK13 => ?_
    refine w_reg gC ?_
    try simp only [W, Nat.reduceAdd, Nat.reduceBEq, List.contains_cons, Nat.reduceBEq, Bool.or_self]
    refine w_callO (rsh := [[.sc, .sl [.sc, .sc, .sc, .sc], .sl [.sc, .sc, .sc]], [.sl [.sc]], [.sc]]) (ys := [.fz (b7.map (AV.int .i64)), .fz (b8.map e_CourtStep)]) h rfl (pv_c (sn_ow hS 0 rfl qv9 (fun _ => rfl)) (pv_c (sn_ow hS 1 rfl qv11 (fun _ => rfl)) pv_n)) fun b14 hb14 h => ⟨.tup [.agg [.int .i64 b14.1.Now, .own 4 (b14.1.Cases.map e_Case), .own 3 (b14.1.Line.map e_Slip)], .own 1 (b14.2.1.map AV.bool), .bool b14.2.2], impl_PlayCourt_w hb14 (Own.nil _) fun v18 qv18 v19 qv19 v20 qv20 H hS => TV_ok rfl (TV_a (TC_sc rfl (TC_ow 0 hS rfl qv18 (fun _ _ => by simp [takeE, takeT, takeC, plainA, e_Case]) fun H hS => TC_ow 0 hS rfl qv19 (fun _ _ => by simp [takeE, takeT, takeC, plainA, e_Slip]) fun H hS => TC_nil (TV_o 0 hS rfl qv20 (fun _ _ => by simp [takeE, takeT, plainA]) fun H hS => TV_p rfl (TV_n rfl))))), (nf_t (nf_c (nf_a (nf_c rfl (nf_c (noFz_o _ (fun _ => rfl) _) (nf_c (noFz_o _ (fun _ => rfl) _) nf_n)))) (nf_c (noFz_o _ (fun _ => rfl) _) (nf_c rfl nf_n)))), ?_⟩
    refine thaw_tup ?_
    refine TH_a ?_
    refine TH_p (fun _ => rfl) ?_
    refine TH_o hS (fun _ _ => rfl) (fun _ => rfl) fun v22 H qv22 hS => ?_
    refine TH_o hS (fun _ _ => rfl) (fun _ => rfl) fun v24 H qv24 hS => ?_
    refine TH_n ?_
    refine TH_o hS (fun _ _ => rfl) (fun _ => rfl) fun v26 H qv26 hS => ?_
    refine TH_p (fun _ => rfl) ?_
    refine TH_n ?_
    try simp only [List.headD_cons]
    obtain ⟨b15, b16, b17⟩ := b14
    try dsimp only at h
    try simp only [W]
    refine w_alloc hS rfl rfl fun ip27 wp27 H hS => ?_
    try simp only [W]
    refine w_stv (a := .agg [.int .i64 b15.Now, v22, v24]) (y' := .agg [.int .i64 b15.Now, v22, v24]) 0 hS rfl rfl rfl rfl rfl (by simp only [storA, List.all_cons, List.all_nil, qv22.stor, qv24.stor]; rfl) rfl rfl fun H hS => ?_
    try simp only [W]
    refine seq_n hK13 ?_
    refine w_seq fun K29 hK29 => ?_
    refine w_reg gC ?_
    try simp only [W, Nat.reduceAdd, Nat.reduceBEq, List.contains_cons, Nat.reduceBEq, Bool.or_self]
    refine w_callO (rsh := [[.sc, .sl [.sc, .sc, .sc, .sc], .sl [.sc, .sc, .sc]], [.sl [.sc]], [.sc]]) (ys := [.fz (b7.map (AV.int .i64)), .fz (b8.map e_CourtStep)]) h rfl (pv_c (sn_ow hS 4 rfl qv9 (fun _ => rfl)) (pv_c (sn_ow hS 5 rfl qv11 (fun _ => rfl)) pv_n)) fun b30 hb30 h => ⟨.tup [.agg [.int .i64 b30.1.Now, .own 4 (b30.1.Cases.map e_Case), .own 3 (b30.1.Line.map e_Slip)], .own 1 (b30.2.1.map AV.bool), .bool b30.2.2], spec_PlayCourt_w hb30 (Own.nil _) fun v34 qv34 v35 qv35 v36 qv36 H hS => TV_ok rfl (TV_a (TC_sc rfl (TC_ow 0 hS rfl qv34 (fun _ _ => by simp [takeE, takeT, takeC, plainA, e_Case]) fun H hS => TC_ow 0 hS rfl qv35 (fun _ _ => by simp [takeE, takeT, takeC, plainA, e_Slip]) fun H hS => TC_nil (TV_o 0 hS rfl qv36 (fun _ _ => by simp [takeE, takeT, plainA]) fun H hS => TV_p rfl (TV_n rfl))))), (nf_t (nf_c (nf_a (nf_c rfl (nf_c (noFz_o _ (fun _ => rfl) _) (nf_c (noFz_o _ (fun _ => rfl) _) nf_n)))) (nf_c (noFz_o _ (fun _ => rfl) _) (nf_c rfl nf_n)))), ?_⟩
    refine thaw_tup ?_
    refine TH_a ?_
    refine TH_p (fun _ => rfl) ?_
    refine TH_o hS (fun _ _ => rfl) (fun _ => rfl) fun v38 H qv38 hS => ?_
    refine TH_o hS (fun _ _ => rfl) (fun _ => rfl) fun v40 H qv40 hS => ?_
    refine TH_n ?_
    refine TH_o hS (fun _ _ => rfl) (fun _ => rfl) fun v42 H qv42 hS => ?_
    refine TH_p (fun _ => rfl) ?_
    refine TH_n ?_
    try simp only [List.headD_cons]
    obtain ⟨b31, b32, b33⟩ := b30
    try dsimp only at h
    try simp only [W]
    refine w_alloc hS rfl rfl fun ip43 wp43 H hS => ?_
    try simp only [W]
    refine w_stv (a := .agg [.int .i64 b31.Now, v38, v40]) (y' := .agg [.int .i64 b31.Now, v38, v40]) 0 hS rfl rfl rfl rfl rfl (by simp only [storA, List.all_cons, List.all_nil, qv38.stor, qv40.stor]; rfl) rfl rfl fun H hS => ?_
    try simp only [W]
    refine seq_n hK29 ?_
    refine w_seq fun K45 hK45 => ?_
    refine w_seq fun K46 hK46 => ?_
    obtain ⟨y48, h, g49⟩ := Option.bind_eq_some_iff.1 h
    refine w_join gC (fun s H => ∃ x47 : Bool, y48 = (x47) ∧ s = (u :: .fz (a1.map (AV.int .u8)) :: u :: u :: u :: v9 :: v11 :: .ptr ip27 wp27 0 0 :: u :: .bool b17 :: u :: u :: u :: u :: u :: u :: u :: u :: u :: u :: u :: u :: u :: u :: u :: u :: u :: u :: u :: u :: u :: u :: u :: u :: u :: u :: u :: u :: u :: u :: u :: u :: u :: u :: u :: u :: u :: u :: u :: u :: u :: u :: u :: u :: u :: u :: u :: u :: u :: u :: u :: u :: u :: u :: u :: u :: u :: u :: u :: u :: u :: u :: u :: .bool x47 :: u :: u :: u :: u :: u :: u :: u :: u :: u :: u :: u :: u :: u :: u :: u :: u :: u :: u :: u :: u :: u :: u :: u :: u :: u :: u :: u :: u :: u :: u :: u :: u :: u :: u :: u :: u :: u :: u :: u :: u :: u :: u :: u :: u :: u :: u :: u :: u :: u :: u :: u :: u :: u :: u :: u :: u :: u :: u :: u :: u :: u :: u :: u :: u :: u :: u :: u :: u :: u :: u :: u :: u :: u :: u :: u :: u :: u :: u :: u :: u :: u :: u :: u :: u :: u :: u :: u :: u :: u :: u :: u :: u :: u :: u :: u :: u :: u :: u :: u :: u :: u :: u :: u :: u :: u :: u :: u :: u :: u :: u :: u :: u :: u :: u :: u :: u :: u :: u :: u :: u :: u :: u :: u :: u :: u :: u :: u :: u :: u :: u :: u :: u :: u :: u :: u :: u :: u :: u :: u :: u :: u :: u :: u :: u :: u :: u :: u :: u :: u :: u :: u :: u :: u :: u :: u :: u :: u :: u :: u :: u :: u :: u :: []) ∧ Own H (⟨v9, 1, b7.map (AV.int .i64)⟩ :: ⟨v11, 2, b8.map e_CourtStep⟩ :: ⟨v22, 4, b15.Cases.map e_Case⟩ :: ⟨v24, 3, b15.Line.map e_Slip⟩ :: ⟨.ptr ip27 wp27 0 0, 3, [.agg [.int .i64 b15.Now, v22, v24]]⟩ :: F)) (fun K50 hK50 => ?_) (fun s H hq => ?_)
    · refine w_seq fun K51 hK51 => ?_
      refine w_reg gC ?_
      try simp only [W, EE, Nat.reduceAdd]
      rw [b_bneq _ _ _ _ (h := rfl) rfl, resV_s]
      try simp only [W]
      refine w_grdT h (fun hc h => ?_) (fun hc h => ?_)
      · try simp only [W, hc]
        refine seq_n hK51 ?_
        refine w_killE (s' := (u :: .fz (a1.map (AV.int .u8)) :: u :: u :: u :: v9 :: v11 :: .ptr ip27 wp27 0 0 :: u :: .bool b17 :: u :: u :: u :: u :: u :: u :: u :: u :: u :: u :: u :: u :: u :: u :: u :: u :: u :: u :: u :: u :: u :: u :: u :: u :: u :: u :: u :: u :: u :: u :: u :: u :: u :: u :: u :: u :: u :: u :: u :: u :: u :: u :: u :: u :: u :: u :: u :: u :: u :: u :: u :: u :: u :: u :: u :: u :: u :: u :: u :: u :: u :: u :: u :: .bool true :: u :: u :: u :: u :: u :: u :: u :: u :: u :: u :: u :: u :: u :: u :: u :: u :: u :: u :: u :: u :: u :: u :: u :: u :: u :: u :: u :: u :: u :: u :: u :: u :: u :: u :: u :: u :: u :: u :: u :: u :: u :: u :: u :: u :: u :: u :: u :: u :: u :: u :: u :: u :: u :: u :: u :: u :: u :: u :: u :: u :: u :: u :: u :: u :: u :: u :: u :: u :: u :: u :: u :: u :: u :: u :: u :: u :: u :: u :: u :: u :: u :: u :: u :: u :: u :: u :: u :: u :: u :: u :: u :: u :: u :: u :: u :: u :: u :: u :: u :: u :: u :: u :: u :: u :: u :: u :: u :: u :: u :: u :: u :: u :: u :: u :: u :: u :: u :: u :: u :: u :: u :: u :: u :: u :: u :: u :: u :: u :: u :: u :: u :: u :: u :: u :: u :: u :: u :: u :: u :: u :: u :: u :: u :: u :: u :: u :: u :: u :: u :: u :: u :: u :: u :: u :: u :: u :: u :: u :: u :: u :: u :: u :: [])) rfl ?_
        exact cut_n hK50 ⟨_, (Option.some.inj h).symm, rfl, (hS.sel 10 [8, 9, 7, 6, 4] (by decide))⟩
      · try simp only [W, hc]
        refine w_callS (rsh := [[.sc]]) (ys := [.fz (b16.map AV.bool), .fz (b32.map AV.bool)]) h rfl (pv_c (sn_ow hS 5 rfl qv26 (fun _ => rfl)) (pv_c (sn_ow hS 1 rfl qv42 (fun _ => rfl)) pv_n)) fun b52 hb52 h => ⟨.bool b52, laws_sameBools_w hb52 (Own.nil _) fun H hS => TV_ok rfl (TV_p rfl (TV_n rfl)), ⟨rfl, rfl, fun _ => rfl⟩, ?_⟩
        try simp only [W, reduceIte, Bool.false_eq_true]
        refine w_grdT h (fun hc h => ?_) (fun hc h => ?_)
        · try simp only [W, hc]
          refine seq_n hK51 ?_
          refine w_killE (s' := (u :: .fz (a1.map (AV.int .u8)) :: u :: u :: u :: v9 :: v11 :: .ptr ip27 wp27 0 0 :: u :: .bool b17 :: u :: u :: u :: u :: u :: u :: u :: u :: u :: u :: u :: u :: u :: u :: u :: u :: u :: u :: u :: u :: u :: u :: u :: u :: u :: u :: u :: u :: u :: u :: u :: u :: u :: u :: u :: u :: u :: u :: u :: u :: u :: u :: u :: u :: u :: u :: u :: u :: u :: u :: u :: u :: u :: u :: u :: u :: u :: u :: u :: u :: u :: u :: u :: .bool true :: u :: u :: u :: u :: u :: u :: u :: u :: u :: u :: u :: u :: u :: u :: u :: u :: u :: u :: u :: u :: u :: u :: u :: u :: u :: u :: u :: u :: u :: u :: u :: u :: u :: u :: u :: u :: u :: u :: u :: u :: u :: u :: u :: u :: u :: u :: u :: u :: u :: u :: u :: u :: u :: u :: u :: u :: u :: u :: u :: u :: u :: u :: u :: u :: u :: u :: u :: u :: u :: u :: u :: u :: u :: u :: u :: u :: u :: u :: u :: u :: u :: u :: u :: u :: u :: u :: u :: u :: u :: u :: u :: u :: u :: u :: u :: u :: u :: u :: u :: u :: u :: u :: u :: u :: u :: u :: u :: u :: u :: u :: u :: u :: u :: u :: u :: u :: u :: u :: u :: u :: u :: u :: u :: u :: u :: u :: u :: u :: u :: u :: u :: u :: u :: u :: u :: u :: u :: u :: u :: u :: u :: u :: u :: u :: u :: u :: u :: u :: u :: u :: u :: u :: u :: u :: u :: u :: u :: u :: u :: u :: u :: u :: [])) rfl ?_
          exact cut_n hK50 ⟨_, (Option.some.inj h).symm, rfl, (hS.sel 10 [8, 9, 7, 6, 4] (by decide))⟩
        · try simp only [W, EE, reduceIte, Nat.reduceAdd, Nat.reduceLeDiff, hS.var 4 rfl, hS.var 0 rfl, hc]
          refine w_callS (rsh := [[.sc]]) (ys := [.agg [.int .i64 b15.Now, .fz (b15.Cases.map e_Case), .fz (b15.Line.map e_Slip)], .agg [.int .i64 b31.Now, .fz (b31.Cases.map e_Case), .fz (b31.Line.map e_Slip)]]) h rfl (pv_c (sn_agg (sm_c rfl (sm_c (sn_ow hS 7 rfl qv22 (fun _ => rfl)) (sm_c (sn_ow hS 6 rfl qv24 (fun _ => rfl)) (sm_n _))))) (pv_c (sn_agg (sm_c rfl (sm_c (sn_ow hS 3 rfl qv38 (fun _ => rfl)) (sm_c (sn_ow hS 2 rfl qv40 (fun _ => rfl)) (sm_n _))))) pv_n)) fun b53 hb53 h => ⟨.bool b53, laws_sameCourts_w hb53 (Own.nil _) fun H hS => TV_ok rfl (TV_p rfl (TV_n rfl)), ⟨rfl, rfl, fun _ => rfl⟩, ?_⟩
          try simp only [W, reduceIte, Bool.false_eq_true]
          refine seq_n hK51 ?_
          refine w_killE (s' := (u :: .fz (a1.map (AV.int .u8)) :: u :: u :: u :: v9 :: v11 :: .ptr ip27 wp27 0 0 :: u :: .bool b17 :: u :: u :: u :: u :: u :: u :: u :: u :: u :: u :: u :: u :: u :: u :: u :: u :: u :: u :: u :: u :: u :: u :: u :: u :: u :: u :: u :: u :: u :: u :: u :: u :: u :: u :: u :: u :: u :: u :: u :: u :: u :: u :: u :: u :: u :: u :: u :: u :: u :: u :: u :: u :: u :: u :: u :: u :: u :: u :: u :: u :: u :: u :: u :: .bool (!b53) :: u :: u :: u :: u :: u :: u :: u :: u :: u :: u :: u :: u :: u :: u :: u :: u :: u :: u :: u :: u :: u :: u :: u :: u :: u :: u :: u :: u :: u :: u :: u :: u :: u :: u :: u :: u :: u :: u :: u :: u :: u :: u :: u :: u :: u :: u :: u :: u :: u :: u :: u :: u :: u :: u :: u :: u :: u :: u :: u :: u :: u :: u :: u :: u :: u :: u :: u :: u :: u :: u :: u :: u :: u :: u :: u :: u :: u :: u :: u :: u :: u :: u :: u :: u :: u :: u :: u :: u :: u :: u :: u :: u :: u :: u :: u :: u :: u :: u :: u :: u :: u :: u :: u :: u :: u :: u :: u :: u :: u :: u :: u :: u :: u :: u :: u :: u :: u :: u :: u :: u :: u :: u :: u :: u :: u :: u :: u :: u :: u :: u :: u :: u :: u :: u :: u :: u :: u :: u :: u :: u :: u :: u :: u :: u :: u :: u :: u :: u :: u :: u :: u :: u :: u :: u :: u :: u :: u :: u :: u :: u :: u :: u :: [])) rfl ?_
          exact cut_n hK50 ⟨_, (Option.some.inj h).symm, rfl, (hS.sel 10 [8, 9, 7, 6, 4] (by decide))⟩
    · obtain ⟨x47, ey, rfl, hS⟩ := hq; obtain rfl := ey.symm
      replace h := g49
      try dsimp only at h
      refine seq_n hK46 ?_
      refine w_if ?_
      simp only [W]
      refine w_cnd h (fun hc h => ?_) (fun hc h => ?_)
      · refine w_seq fun K54 hK54 => ?_
        refine w_reg gC ?_
        try simp only [W, Nat.reduceAdd]
        refine seq_n hK54 ?_
        refine w_ret ?_
        refine seq_r hK45 ?_
        refine fin_r1 hK0 rfl ?_
        try obtain rfl := Option.some.inj h
        exact hP _ (hS.sel 5 [] (by decide))
      · refine w_skip ?_
        refine seq_n hK45 ?_
        refine w_seq fun K55 hK55 => ?_
        refine w_seq fun K56 hK56 => ?_
        refine w_reg gC ?_
        try simp only [W, Nat.reduceAdd]
        refine seq_n hK56 ?_
        obtain ⟨y57, h, g58⟩ := Option.bind_eq_some_iff.1 h
        refine w_join gC (fun s H => y57 = LR.next () ∧ s = (u :: u :: u :: u :: u :: u :: u :: u :: u :: u :: u :: u :: u :: u :: u :: u :: u :: u :: u :: u :: u :: u :: u :: u :: u :: u :: u :: u :: u :: u :: u :: u :: u :: u :: u :: u :: u :: u :: u :: u :: u :: u :: u :: u :: u :: u :: u :: u :: u :: u :: u :: u :: u :: u :: u :: u :: u :: u :: u :: u :: u :: u :: u :: u :: u :: u :: u :: u :: u :: u :: u :: u :: u :: u :: u :: u :: u :: u :: u :: u :: u :: u :: u :: u :: u :: u :: u :: u :: u :: u :: u :: u :: u :: u :: u :: u :: u :: u :: u :: u :: u :: u :: u :: u :: u :: u :: u :: u :: u :: u :: u :: u :: u :: u :: u :: u :: u :: u :: u :: u :: u :: u :: u :: u :: u :: u :: u :: u :: u :: u :: u :: u :: u :: u :: u :: u :: u :: u :: u :: u :: u :: u :: u :: u :: u :: u :: u :: u :: u :: u :: u :: u :: u :: u :: u :: u :: u :: u :: u :: u :: u :: u :: u :: u :: u :: u :: u :: u :: u :: u :: u :: u :: u :: u :: u :: u :: u :: u :: u :: u :: u :: u :: u :: u :: u :: u :: u :: u :: u :: u :: u :: u :: u :: u :: u :: u :: u :: u :: u :: u :: u :: u :: u :: u :: u :: u :: u :: u :: u :: u :: u :: u :: u :: u :: u :: u :: u :: u :: u :: u :: u :: u :: u :: u :: u :: u :: u :: u :: u :: u :: u :: u :: u :: u :: u :: u :: []) ∧ Own H (F)) (fun K59 hK59 => ?_) (fun s H hq => ?_)
        · refine w_seq fun K60 hK60 => ?_
          refine w_if ?_
          simp only [W]
          refine w_cnd h (fun hc h => ?_) (fun hc h => ?_)
          · refine w_seq fun K61 hK61 => ?_
            refine w_reg gC ?_
            try simp only [W, EE, reduceIte, Nat.reduceAdd, Nat.reduceLeDiff, hS.var 4 rfl]
            refine w_callS (rsh := [[.sc], [.sc]]) (ys := [.agg [.int .i64 b15.Now, .fz (b15.Cases.map e_Case), .fz (b15.Line.map e_Slip)]]) h rfl (pv_c (sn_agg (sm_c rfl (sm_c (sn_ow hS 2 rfl qv22 (fun _ => rfl)) (sm_c (sn_ow hS 3 rfl qv24 (fun _ => rfl)) (sm_n _))))) pv_n) fun b62 hb62 h => ⟨.tup [.bool b62.1, .bool b62.2], impl_AgreesIn_w hb62 (Own.nil _) fun H hS => TV_ok rfl (TV_p rfl (TV_p rfl (TV_n rfl))), ⟨rfl, rfl, fun _ => rfl⟩, ?_⟩
            obtain ⟨b63, b64⟩ := b62
            try dsimp only at h
            try simp only [W]
            refine seq_n hK61 ?_
            refine w_seq fun K65 hK65 => ?_
            refine w_reg gC ?_
            try simp only [W, Nat.reduceAdd, Nat.reduceBEq, List.contains_cons, Nat.reduceBEq, Bool.or_self]
            refine w_call h fun b66 hb66 h => ?_
            refine laws_numberOf_w hb66 hS fun H hS => ?_
            try simp only [W, EE]
            refine w_len 1 hS rfl qv11 rfl ?_
            try simp only [W, EE]
            refine w_num _ h fun x67 hx67 h => ?_
            try simp only [W, EE]
            refine w_slO 1 hS rfl qv11 rfl rfl rfl h fun v69 x68 qv69 hx68 h hS => ?_
            try simp only [W]
            refine w_callO (rsh := [[.sc, .sl [.sc, .sc, .sc, .sc], .sl [.sc, .sc, .sc]], [.sl [.sc]], [.sc]]) (ys := [.fz (b7.map (AV.int .i64)), .fz (x68.map e_CourtStep)]) h rfl (pv_c (sn_ow hS 0 rfl qv9 (fun _ => rfl)) (pv_c (sn_ow hS 1 rfl qv69 (fun _ => rfl)) pv_n)) fun b71 hb71 h => ⟨.tup [.agg [.int .i64 b71.1.Now, .own 4 (b71.1.Cases.map e_Case), .own 3 (b71.1.Line.map e_Slip)], .own 1 (b71.2.1.map AV.bool), .bool b71.2.2], impl_PlayCourt_w hb71 (Own.nil _) fun v75 qv75 v76 qv76 v77 qv77 H hS => TV_ok rfl (TV_a (TC_sc rfl (TC_ow 0 hS rfl qv75 (fun _ _ => by simp [takeE, takeT, takeC, plainA, e_Case]) fun H hS => TC_ow 0 hS rfl qv76 (fun _ _ => by simp [takeE, takeT, takeC, plainA, e_Slip]) fun H hS => TC_nil (TV_o 0 hS rfl qv77 (fun _ _ => by simp [takeE, takeT, plainA]) fun H hS => TV_p rfl (TV_n rfl))))), (nf_t (nf_c (nf_a (nf_c rfl (nf_c (noFz_o _ (fun _ => rfl) _) (nf_c (noFz_o _ (fun _ => rfl) _) nf_n)))) (nf_c (noFz_o _ (fun _ => rfl) _) (nf_c rfl nf_n)))), ?_⟩
            refine thaw_tup ?_
            refine TH_a ?_
            refine TH_p (fun _ => rfl) ?_
            refine TH_o hS (fun _ _ => rfl) (fun _ => rfl) fun v79 H qv79 hS => ?_
            refine TH_o hS (fun _ _ => rfl) (fun _ => rfl) fun v81 H qv81 hS => ?_
            refine TH_n ?_
            refine TH_o hS (fun _ _ => rfl) (fun _ => rfl) fun v83 H qv83 hS => ?_
            refine TH_p (fun _ => rfl) ?_
            refine TH_n ?_
            try simp only [List.headD_cons]
            obtain ⟨b72, b73, b74⟩ := b71
            try dsimp only at h
            try simp only [W]
            refine w_alloc hS rfl rfl fun ip84 wp84 H hS => ?_
            try simp only [W]
            refine w_stv (a := .agg [.int .i64 b72.Now, v79, v81]) (y' := .agg [.int .i64 b72.Now, v79, v81]) 0 hS rfl rfl rfl rfl rfl (by simp only [storA, List.all_cons, List.all_nil, qv79.stor, qv81.stor]; rfl) rfl rfl fun H hS => ?_
            try simp only [W]
            refine seq_n hK65 ?_
            refine w_seq fun K86 hK86 => ?_
            refine w_seq fun K87 hK87 => ?_
            obtain ⟨y89, h, g90⟩ := Option.bind_eq_some_iff.1 h
            refine w_join gC (fun s H => ∃ x88 : Bool, y89 = (x88) ∧ s = (u :: u :: u :: u :: u :: u :: u :: .ptr ip27 wp27 0 0 :: u :: u :: u :: u :: u :: u :: u :: .ptr ip84 wp84 0 0 :: u :: u :: u :: u :: u :: u :: u :: u :: u :: u :: u :: u :: u :: u :: u :: u :: u :: u :: u :: u :: u :: u :: u :: u :: u :: u :: u :: u :: u :: u :: u :: u :: u :: u :: u :: u :: u :: u :: u :: u :: u :: u :: u :: u :: u :: u :: u :: u :: u :: u :: u :: u :: u :: u :: u :: u :: u :: u :: u :: u :: u :: u :: u :: u :: u :: u :: u :: u :: u :: u :: u :: u :: u :: u :: u :: u :: u :: u :: u :: u :: u :: u :: u :: u :: u :: u :: u :: u :: u :: u :: u :: u :: .bool x88 :: u :: u :: u :: u :: u :: u :: u :: u :: u :: u :: u :: u :: u :: u :: u :: u :: u :: u :: u :: u :: u :: u :: u :: u :: u :: u :: u :: u :: u :: u :: u :: u :: u :: u :: u :: u :: u :: u :: u :: u :: u :: u :: u :: u :: u :: u :: u :: u :: u :: u :: u :: u :: u :: u :: u :: u :: u :: u :: u :: u :: u :: u :: u :: u :: u :: u :: u :: u :: u :: u :: u :: u :: u :: u :: u :: u :: u :: u :: u :: u :: u :: u :: u :: u :: u :: u :: u :: u :: u :: u :: u :: u :: u :: u :: u :: u :: u :: u :: u :: u :: u :: u :: u :: u :: u :: u :: u :: u :: u :: u :: u :: u :: u :: u :: u :: u :: u :: u :: u :: u :: u :: u :: u :: u :: u :: u :: u :: []) ∧ Own H (⟨v22, 4, b15.Cases.map e_Case⟩ :: ⟨v24, 3, b15.Line.map e_Slip⟩ :: ⟨v79, 4, b72.Cases.map e_Case⟩ :: ⟨v81, 3, b72.Line.map e_Slip⟩ :: ⟨.ptr ip27 wp27 0 0, 3, [.agg [.int .i64 b15.Now, v22, v24]]⟩ :: ⟨.ptr ip84 wp84 0 0, 3, [.agg [.int .i64 b72.Now, v79, v81]]⟩ :: F)) (fun K91 hK91 => ?_) (fun s H hq => ?_)
            · refine w_seq fun K92 hK92 => ?_
              refine w_reg gC ?_
              try simp only [W, EE, reduceIte, Nat.reduceAdd, Nat.reduceLeDiff, hS.var 8 rfl]
              refine w_callS (rsh := [[.sc]]) (ys := [.agg [.int .i64 b15.Now, .fz (b15.Cases.map e_Case), .fz (b15.Line.map e_Slip)]]) h rfl (pv_c (sn_agg (sm_c rfl (sm_c (sn_ow hS 6 rfl qv22 (fun _ => rfl)) (sm_c (sn_ow hS 7 rfl qv24 (fun _ => rfl)) (sm_n _))))) pv_n) fun b93 hb93 h => ⟨.bool b93, impl_GoodCourt_w hb93 (Own.nil _) fun H hS => TV_ok rfl (TV_p rfl (TV_n rfl)), ⟨rfl, rfl, fun _ => rfl⟩, ?_⟩
              try simp only [W]
              refine w_grdT h (fun hc h => ?_) (fun hc h => ?_)
              · try simp only [W, hc]
                refine seq_n hK92 ?_
                refine w_killE (s' := (u :: u :: u :: u :: u :: u :: u :: .ptr ip27 wp27 0 0 :: u :: u :: u :: u :: u :: u :: u :: .ptr ip84 wp84 0 0 :: u :: u :: u :: u :: u :: u :: u :: u :: u :: u :: u :: u :: u :: u :: u :: u :: u :: u :: u :: u :: u :: u :: u :: u :: u :: u :: u :: u :: u :: u :: u :: u :: u :: u :: u :: u :: u :: u :: u :: u :: u :: u :: u :: u :: u :: u :: u :: u :: u :: u :: u :: u :: u :: u :: u :: u :: u :: u :: u :: u :: u :: u :: u :: u :: u :: u :: u :: u :: u :: u :: u :: u :: u :: u :: u :: u :: u :: u :: u :: u :: u :: u :: u :: u :: u :: u :: u :: u :: u :: u :: u :: u :: .bool true :: u :: u :: u :: u :: u :: u :: u :: u :: u :: u :: u :: u :: u :: u :: u :: u :: u :: u :: u :: u :: u :: u :: u :: u :: u :: u :: u :: u :: u :: u :: u :: u :: u :: u :: u :: u :: u :: u :: u :: u :: u :: u :: u :: u :: u :: u :: u :: u :: u :: u :: u :: u :: u :: u :: u :: u :: u :: u :: u :: u :: u :: u :: u :: u :: u :: u :: u :: u :: u :: u :: u :: u :: u :: u :: u :: u :: u :: u :: u :: u :: u :: u :: u :: u :: u :: u :: u :: u :: u :: u :: u :: u :: u :: u :: u :: u :: u :: u :: u :: u :: u :: u :: u :: u :: u :: u :: u :: u :: u :: u :: u :: u :: u :: u :: u :: u :: u :: u :: u :: u :: u :: u :: u :: u :: u :: u :: u :: [])) rfl ?_
                exact cut_n hK91 ⟨_, (Option.some.inj h).symm, rfl, (hS.sel 9 [6, 7, 3, 2, 8, 0] (by decide))⟩
              · try simp only [W, reduceIte, Bool.false_eq_true, hc]
                refine w_grdT h (fun hc h => ?_) (fun hc h => ?_)
                · try simp only [W, hc]
                  refine seq_n hK92 ?_
                  refine w_killE (s' := (u :: u :: u :: u :: u :: u :: u :: .ptr ip27 wp27 0 0 :: u :: u :: u :: u :: u :: u :: u :: .ptr ip84 wp84 0 0 :: u :: u :: u :: u :: u :: u :: u :: u :: u :: u :: u :: u :: u :: u :: u :: u :: u :: u :: u :: u :: u :: u :: u :: u :: u :: u :: u :: u :: u :: u :: u :: u :: u :: u :: u :: u :: u :: u :: u :: u :: u :: u :: u :: u :: u :: u :: u :: u :: u :: u :: u :: u :: u :: u :: u :: u :: u :: u :: u :: u :: u :: u :: u :: u :: u :: u :: u :: u :: u :: u :: u :: u :: u :: u :: u :: u :: u :: u :: u :: u :: u :: u :: u :: u :: u :: u :: u :: u :: u :: u :: u :: u :: .bool true :: u :: u :: u :: u :: u :: u :: u :: u :: u :: u :: u :: u :: u :: u :: u :: u :: u :: u :: u :: u :: u :: u :: u :: u :: u :: u :: u :: u :: u :: u :: u :: u :: u :: u :: u :: u :: u :: u :: u :: u :: u :: u :: u :: u :: u :: u :: u :: u :: u :: u :: u :: u :: u :: u :: u :: u :: u :: u :: u :: u :: u :: u :: u :: u :: u :: u :: u :: u :: u :: u :: u :: u :: u :: u :: u :: u :: u :: u :: u :: u :: u :: u :: u :: u :: u :: u :: u :: u :: u :: u :: u :: u :: u :: u :: u :: u :: u :: u :: u :: u :: u :: u :: u :: u :: u :: u :: u :: u :: u :: u :: u :: u :: u :: u :: u :: u :: u :: u :: u :: u :: u :: u :: u :: u :: u :: u :: u :: [])) rfl ?_
                  exact cut_n hK91 ⟨_, (Option.some.inj h).symm, rfl, (hS.sel 9 [6, 7, 3, 2, 8, 0] (by decide))⟩
                · try simp only [W, reduceIte, Bool.false_eq_true, hc]
                  refine w_grdT h (fun hc h => ?_) (fun hc h => ?_)
                  · try simp only [W, hc]
                    refine seq_n hK92 ?_
                    refine w_killE (s' := (u :: u :: u :: u :: u :: u :: u :: .ptr ip27 wp27 0 0 :: u :: u :: u :: u :: u :: u :: u :: .ptr ip84 wp84 0 0 :: u :: u :: u :: u :: u :: u :: u :: u :: u :: u :: u :: u :: u :: u :: u :: u :: u :: u :: u :: u :: u :: u :: u :: u :: u :: u :: u :: u :: u :: u :: u :: u :: u :: u :: u :: u :: u :: u :: u :: u :: u :: u :: u :: u :: u :: u :: u :: u :: u :: u :: u :: u :: u :: u :: u :: u :: u :: u :: u :: u :: u :: u :: u :: u :: u :: u :: u :: u :: u :: u :: u :: u :: u :: u :: u :: u :: u :: u :: u :: u :: u :: u :: u :: u :: u :: u :: u :: u :: u :: u :: u :: u :: .bool true :: u :: u :: u :: u :: u :: u :: u :: u :: u :: u :: u :: u :: u :: u :: u :: u :: u :: u :: u :: u :: u :: u :: u :: u :: u :: u :: u :: u :: u :: u :: u :: u :: u :: u :: u :: u :: u :: u :: u :: u :: u :: u :: u :: u :: u :: u :: u :: u :: u :: u :: u :: u :: u :: u :: u :: u :: u :: u :: u :: u :: u :: u :: u :: u :: u :: u :: u :: u :: u :: u :: u :: u :: u :: u :: u :: u :: u :: u :: u :: u :: u :: u :: u :: u :: u :: u :: u :: u :: u :: u :: u :: u :: u :: u :: u :: u :: u :: u :: u :: u :: u :: u :: u :: u :: u :: u :: u :: u :: u :: u :: u :: u :: u :: u :: u :: u :: u :: u :: u :: u :: u :: u :: u :: u :: u :: u :: u :: [])) rfl ?_
                    exact cut_n hK91 ⟨_, (Option.some.inj h).symm, rfl, (hS.sel 9 [6, 7, 3, 2, 8, 0] (by decide))⟩
                  · try simp only [W, reduceIte, Bool.false_eq_true, hc]
                    refine seq_n hK92 ?_
                    refine w_killE (s' := (u :: u :: u :: u :: u :: u :: u :: .ptr ip27 wp27 0 0 :: u :: u :: u :: u :: u :: u :: u :: .ptr ip84 wp84 0 0 :: u :: u :: u :: u :: u :: u :: u :: u :: u :: u :: u :: u :: u :: u :: u :: u :: u :: u :: u :: u :: u :: u :: u :: u :: u :: u :: u :: u :: u :: u :: u :: u :: u :: u :: u :: u :: u :: u :: u :: u :: u :: u :: u :: u :: u :: u :: u :: u :: u :: u :: u :: u :: u :: u :: u :: u :: u :: u :: u :: u :: u :: u :: u :: u :: u :: u :: u :: u :: u :: u :: u :: u :: u :: u :: u :: u :: u :: u :: u :: u :: u :: u :: u :: u :: u :: u :: u :: u :: u :: u :: u :: u :: .bool (!b74) :: u :: u :: u :: u :: u :: u :: u :: u :: u :: u :: u :: u :: u :: u :: u :: u :: u :: u :: u :: u :: u :: u :: u :: u :: u :: u :: u :: u :: u :: u :: u :: u :: u :: u :: u :: u :: u :: u :: u :: u :: u :: u :: u :: u :: u :: u :: u :: u :: u :: u :: u :: u :: u :: u :: u :: u :: u :: u :: u :: u :: u :: u :: u :: u :: u :: u :: u :: u :: u :: u :: u :: u :: u :: u :: u :: u :: u :: u :: u :: u :: u :: u :: u :: u :: u :: u :: u :: u :: u :: u :: u :: u :: u :: u :: u :: u :: u :: u :: u :: u :: u :: u :: u :: u :: u :: u :: u :: u :: u :: u :: u :: u :: u :: u :: u :: u :: u :: u :: u :: u :: u :: u :: u :: u :: u :: u :: u :: [])) rfl ?_
                    exact cut_n hK91 ⟨_, (Option.some.inj h).symm, rfl, (hS.sel 9 [6, 7, 3, 2, 8, 0] (by decide))⟩
            · obtain ⟨x88, ey, rfl, hS⟩ := hq; obtain rfl := ey.symm
              replace h := g90
              try dsimp only at h
              refine seq_n hK87 ?_
              refine w_if ?_
              simp only [W]
              refine w_cnd h (fun hc h => ?_) (fun hc h => ?_)
              · refine w_seq fun K94 hK94 => ?_
                refine w_reg gC ?_
                try simp only [W, Nat.reduceAdd]
                refine seq_n hK94 ?_
                refine w_ret ?_
                refine seq_r hK86 ?_
                refine seq_r hK60 ?_
                try obtain rfl := Option.some.inj h
                obtain rfl := Option.some.inj g58
                have h : (some false : Option (Bool)) = some false := rfl
                refine cut_r hK59 ?_
                refine seq_r hK55 ?_
                refine fin_r1 hK0 rfl ?_
                try obtain rfl := Option.some.inj h
                exact hP _ (hS.sel 6 [] (by decide))
              · refine w_skip ?_
                refine seq_n hK86 ?_
                refine w_seq fun K97 hK97 => ?_
                refine w_seq fun K98 hK98 => ?_
                refine w_reg gC ?_
                try simp only [W, EE, Nat.reduceAdd, Nat.reduceBEq, hS.var 5 rfl]
                refine w_len 2 hS rfl qv79 rfl ?_
                try simp only [W]
                refine seq_n hK98 ?_
                obtain ⟨y100, hw101, g107⟩ := Option.bind_eq_some_iff.1 h
                refine w_join gC (fun s H => y100 = LR.next () ∧ s = (u :: u :: u :: u :: u :: u :: u :: .ptr ip27 wp27 0 0 :: u :: u :: u :: u :: u :: u :: u :: u :: u :: u :: u :: u :: u :: u :: u :: u :: u :: u :: u :: u :: u :: u :: u :: u :: u :: u :: u :: u :: u :: u :: u :: u :: u :: u :: u :: u :: u :: u :: u :: u :: u :: u :: u :: u :: u :: u :: u :: u :: u :: u :: u :: u :: u :: u :: u :: u :: u :: u :: u :: u :: u :: u :: u :: u :: u :: u :: u :: u :: u :: u :: u :: u :: u :: u :: u :: u :: u :: u :: u :: u :: u :: u :: u :: u :: u :: u :: u :: u :: u :: u :: u :: u :: u :: u :: u :: u :: u :: u :: u :: u :: u :: u :: u :: u :: u :: u :: u :: u :: u :: u :: u :: u :: u :: u :: u :: u :: u :: u :: u :: u :: u :: u :: u :: u :: u :: u :: u :: u :: u :: u :: u :: u :: u :: u :: u :: u :: u :: u :: u :: u :: u :: u :: u :: u :: u :: u :: u :: u :: u :: u :: u :: u :: u :: u :: u :: u :: u :: u :: u :: u :: u :: u :: u :: u :: u :: u :: u :: u :: u :: u :: u :: u :: u :: u :: u :: u :: u :: u :: u :: u :: u :: u :: u :: u :: u :: u :: u :: u :: u :: u :: u :: u :: u :: u :: u :: u :: u :: u :: u :: u :: u :: u :: u :: u :: u :: u :: u :: u :: u :: u :: u :: u :: u :: u :: u :: u :: u :: u :: u :: u :: u :: u :: u :: u :: u :: u :: u :: u :: []) ∧ Own H (⟨v22, 4, b15.Cases.map e_Case⟩ :: ⟨v24, 3, b15.Line.map e_Slip⟩ :: ⟨.ptr ip27 wp27 0 0, 3, [.agg [.int .i64 b15.Now, v22, v24]]⟩ :: F)) (fun K102 hK102 => ?_) (fun s H hq => ?_)
                · refine w_blk fun K103 hK103 => ?_
                  refine w_loop gC hw101 (fun x s H => s = (u :: u :: u :: u :: u :: u :: u :: .ptr ip27 wp27 0 0 :: u :: u :: u :: u :: u :: u :: u :: u :: u :: u :: u :: u :: u :: u :: u :: u :: u :: u :: u :: u :: u :: u :: u :: u :: u :: u :: u :: u :: u :: u :: u :: u :: u :: u :: u :: u :: u :: u :: u :: u :: u :: u :: u :: u :: u :: u :: u :: u :: u :: u :: u :: u :: u :: u :: u :: u :: u :: u :: u :: u :: u :: u :: u :: u :: u :: u :: u :: u :: u :: u :: u :: u :: u :: u :: u :: u :: u :: u :: u :: u :: u :: u :: u :: u :: u :: u :: u :: u :: u :: u :: u :: u :: u :: u :: u :: u :: u :: u :: u :: u :: u :: u :: v79 :: .int .i64 (b72.Cases.length : Int) :: .int .i64 x :: u :: u :: u :: u :: u :: u :: u :: u :: u :: u :: u :: u :: u :: u :: u :: u :: u :: u :: u :: u :: u :: u :: u :: u :: u :: u :: u :: u :: u :: u :: u :: u :: u :: u :: u :: u :: u :: u :: u :: u :: u :: u :: u :: u :: u :: u :: u :: u :: u :: u :: u :: u :: u :: u :: u :: u :: u :: u :: u :: u :: u :: u :: u :: u :: u :: u :: u :: u :: u :: u :: u :: u :: u :: u :: u :: u :: u :: u :: u :: u :: u :: u :: u :: u :: u :: u :: u :: u :: u :: u :: u :: u :: u :: u :: u :: u :: u :: u :: u :: u :: u :: u :: u :: u :: u :: u :: u :: u :: u :: u :: u :: u :: u :: u :: u :: u :: u :: u :: u :: u :: u :: u :: u :: []) ∧ Own H (⟨v79, 4, b72.Cases.map e_Case⟩ :: ⟨v22, 4, b15.Cases.map e_Case⟩ :: ⟨v24, 3, b15.Line.map e_Slip⟩ :: ⟨.ptr ip27 wp27 0 0, 3, [.agg [.int .i64 b15.Now, v22, v24]]⟩ :: F)) ⟨rfl, (hS.sel 6 [2, 0, 1, 4] (by decide))⟩ (fun x99 y106 s H h hd105 hi K104 hK104 => ?_)
                  skip
                  try dsimp only at hi
                  obtain ⟨rfl, hS⟩ := hi
                  simp only [laws_FnVerdicts_l0] at h
                  refine w_seq fun K108 hK108 => ?_
                  refine w_reg gC ?_
                  try simp only [W, EE, Nat.reduceAdd]
                  refine seq_n hK108 ?_
                  refine w_seq fun K109 hK109 => ?_
                  refine w_if ?_
                  simp only [W]
                  refine w_cnd h (fun hc h => ?_) (fun hc h => ?_)
                  · refine w_skip ?_
                    refine seq_n hK109 ?_
                    refine w_seq fun K110 hK110 => ?_
                    refine w_blk fun K111 hK111 => ?_
                    refine w_seq fun K112 hK112 => ?_
                    refine w_reg gC ?_
                    try simp only [W, EE, Nat.reduceAdd]
                    refine w_ow 0 hS rfl rfl rfl rfl rfl h (fun b113 in114 wn114 on114 hb113 h en114 => ?_) qv79.ne
                    obtain ⟨kn114, hbn114, hen114⟩ := hS.elem 0 rfl en114 hb113
                    try simp only [W, EE, EN, reduceIte, Nat.reduceAdd, Nat.reduceLeDiff, hbn114, hen114]
                    refine w_alloc hS rfl rfl fun ip115 wp115 H hS => ?_
                    try simp only [W]
                    refine w_stv (a := .agg [.int .i64 b113.End, .bool b113.Asks, .int .i64 b113.Final, .int .i64 b113.Said]) (y' := .agg [.int .i64 b113.End, .bool b113.Asks, .int .i64 b113.Final, .int .i64 b113.Said]) 0 hS rfl rfl rfl rfl rfl rfl rfl rfl fun H hS => ?_
                    try simp only [W]
                    refine seq_n hK112 ?_
                    refine w_seq fun K117 hK117 => ?_
                    refine w_reg gC ?_
                    try simp only [W, EE, Nat.reduceAdd, Nat.reduceBEq, hS.var 4 rfl]
                    refine w_ow 2 hS rfl rfl rfl rfl rfl h (fun b118 in119 wn119 on119 hb118 h en119 => ?_) qv22.ne
                    obtain ⟨kn119, hbn119, hen119⟩ := hS.elem 2 rfl en119 hb118
                    try simp only [W, EE, EN, reduceIte, Nat.reduceAdd, Nat.reduceLeDiff, hbn119, hen119]
                    refine w_alloc hS rfl rfl fun ip120 wp120 H hS => ?_
                    try simp only [W]
                    refine w_stv (a := .agg [.int .i64 b118.End, .bool b118.Asks, .int .i64 b118.Final, .int .i64 b118.Said]) (y' := .agg [.int .i64 b118.End, .bool b118.Asks, .int .i64 b118.Final, .int .i64 b118.Said]) 0 hS rfl rfl rfl rfl rfl rfl rfl rfl fun H hS => ?_
                    try simp only [W]
                    refine seq_n hK117 ?_
                    refine w_seq fun K122 hK122 => ?_
                    obtain ⟨y124, h, g125⟩ := Option.bind_eq_some_iff.1 h
                    refine w_join gC (fun s H => ∃ x123 : Bool, y124 = (x123) ∧ s = (u :: u :: u :: u :: u :: u :: u :: .ptr ip27 wp27 0 0 :: u :: u :: u :: u :: u :: u :: u :: u :: u :: u :: u :: u :: u :: u :: u :: u :: u :: u :: u :: u :: u :: u :: u :: u :: u :: u :: u :: u :: u :: u :: u :: u :: u :: u :: u :: u :: u :: u :: u :: u :: u :: u :: u :: u :: u :: u :: u :: u :: u :: u :: u :: u :: u :: u :: u :: u :: u :: u :: u :: u :: u :: u :: u :: u :: u :: u :: u :: u :: u :: u :: u :: u :: u :: u :: u :: u :: u :: u :: u :: u :: u :: u :: u :: u :: u :: u :: u :: u :: u :: u :: u :: u :: u :: u :: u :: u :: u :: u :: u :: u :: u :: u :: v79 :: .int .i64 (b72.Cases.length : Int) :: .int .i64 x99 :: u :: u :: u :: u :: u :: u :: u :: u :: u :: u :: u :: u :: u :: u :: u :: u :: u :: u :: u :: u :: u :: u :: u :: u :: u :: u :: u :: u :: u :: u :: .bool x123 :: u :: u :: u :: u :: u :: u :: u :: u :: u :: u :: u :: u :: u :: u :: u :: u :: u :: u :: u :: u :: u :: u :: u :: u :: u :: u :: u :: u :: u :: u :: u :: u :: u :: u :: u :: u :: u :: u :: u :: u :: u :: u :: u :: u :: u :: u :: u :: u :: u :: u :: u :: u :: u :: u :: u :: u :: u :: u :: u :: u :: u :: u :: u :: u :: u :: u :: u :: u :: u :: u :: u :: u :: u :: u :: u :: u :: u :: u :: u :: u :: u :: u :: u :: u :: u :: u :: u :: u :: u :: u :: u :: u :: []) ∧ Own H (⟨v79, 4, b72.Cases.map e_Case⟩ :: ⟨v22, 4, b15.Cases.map e_Case⟩ :: ⟨v24, 3, b15.Line.map e_Slip⟩ :: ⟨.ptr ip27 wp27 0 0, 3, [.agg [.int .i64 b15.Now, v22, v24]]⟩ :: F)) (fun K126 hK126 => ?_) (fun s H hq => ?_)
                    · refine w_seq fun K127 hK127 => ?_
                      refine w_reg gC ?_
                      try simp only [W, EE, Nat.reduceAdd, Nat.reduceBEq, hS.var 1 rfl]
                      refine w_grdT h (fun hc h => ?_) (fun hc h => ?_)
                      · try simp only [W, EE, reduceIte, Nat.reduceAdd, Nat.reduceBEq, hS.var 1 rfl, hS.var 0 rfl, hc]
                        refine w_grdT h (fun hc h => ?_) (fun hc h => ?_)
                        · try simp only [W, hc]
                          refine seq_n hK127 ?_
                          refine w_killE (s' := (u :: u :: u :: u :: u :: u :: u :: .ptr ip27 wp27 0 0 :: u :: u :: u :: u :: u :: u :: u :: u :: u :: u :: u :: u :: u :: u :: u :: u :: u :: u :: u :: u :: u :: u :: u :: u :: u :: u :: u :: u :: u :: u :: u :: u :: u :: u :: u :: u :: u :: u :: u :: u :: u :: u :: u :: u :: u :: u :: u :: u :: u :: u :: u :: u :: u :: u :: u :: u :: u :: u :: u :: u :: u :: u :: u :: u :: u :: u :: u :: u :: u :: u :: u :: u :: u :: u :: u :: u :: u :: u :: u :: u :: u :: u :: u :: u :: u :: u :: u :: u :: u :: u :: u :: u :: u :: u :: u :: u :: u :: u :: u :: u :: u :: u :: v79 :: .int .i64 (b72.Cases.length : Int) :: .int .i64 x99 :: u :: u :: u :: u :: u :: u :: u :: u :: u :: u :: u :: u :: u :: u :: u :: u :: u :: u :: u :: u :: u :: u :: u :: u :: u :: u :: u :: u :: u :: u :: .bool true :: u :: u :: u :: u :: u :: u :: u :: u :: u :: u :: u :: u :: u :: u :: u :: u :: u :: u :: u :: u :: u :: u :: u :: u :: u :: u :: u :: u :: u :: u :: u :: u :: u :: u :: u :: u :: u :: u :: u :: u :: u :: u :: u :: u :: u :: u :: u :: u :: u :: u :: u :: u :: u :: u :: u :: u :: u :: u :: u :: u :: u :: u :: u :: u :: u :: u :: u :: u :: u :: u :: u :: u :: u :: u :: u :: u :: u :: u :: u :: u :: u :: u :: u :: u :: u :: u :: u :: u :: u :: u :: u :: u :: [])) rfl ?_
                          exact cut_n hK126 ⟨_, (Option.some.inj h).symm, rfl, (hS.sel 6 [2, 3, 4, 5] (by decide))⟩
                        · try simp only [W, EE, Nat.reduceAdd, Nat.reduceBEq, hS.var 1 rfl, hc]
                          refine w_grdT h (fun hc h => ?_) (fun hc h => ?_)
                          · try simp only [W, EE, reduceIte, Nat.reduceAdd, Nat.reduceBEq, Bool.false_eq_true, hS.var 1 rfl, hS.var 0 rfl, hc]
                            refine seq_n hK127 ?_
                            refine w_killE (s' := (u :: u :: u :: u :: u :: u :: u :: .ptr ip27 wp27 0 0 :: u :: u :: u :: u :: u :: u :: u :: u :: u :: u :: u :: u :: u :: u :: u :: u :: u :: u :: u :: u :: u :: u :: u :: u :: u :: u :: u :: u :: u :: u :: u :: u :: u :: u :: u :: u :: u :: u :: u :: u :: u :: u :: u :: u :: u :: u :: u :: u :: u :: u :: u :: u :: u :: u :: u :: u :: u :: u :: u :: u :: u :: u :: u :: u :: u :: u :: u :: u :: u :: u :: u :: u :: u :: u :: u :: u :: u :: u :: u :: u :: u :: u :: u :: u :: u :: u :: u :: u :: u :: u :: u :: u :: u :: u :: u :: u :: u :: u :: u :: u :: u :: u :: v79 :: .int .i64 (b72.Cases.length : Int) :: .int .i64 x99 :: u :: u :: u :: u :: u :: u :: u :: u :: u :: u :: u :: u :: u :: u :: u :: u :: u :: u :: u :: u :: u :: u :: u :: u :: u :: u :: u :: u :: u :: u :: .bool (b118.Final != b113.Final) :: u :: u :: u :: u :: u :: u :: u :: u :: u :: u :: u :: u :: u :: u :: u :: u :: u :: u :: u :: u :: u :: u :: u :: u :: u :: u :: u :: u :: u :: u :: u :: u :: u :: u :: u :: u :: u :: u :: u :: u :: u :: u :: u :: u :: u :: u :: u :: u :: u :: u :: u :: u :: u :: u :: u :: u :: u :: u :: u :: u :: u :: u :: u :: u :: u :: u :: u :: u :: u :: u :: u :: u :: u :: u :: u :: u :: u :: u :: u :: u :: u :: u :: u :: u :: u :: u :: u :: u :: u :: u :: u :: u :: [])) rfl ?_
                            exact cut_n hK126 ⟨_, (Option.some.inj h).symm, rfl, (hS.sel 6 [2, 3, 4, 5] (by decide))⟩
                          · try simp only [W, reduceIte, Bool.false_eq_true, hc]
                            refine seq_n hK127 ?_
                            refine w_killE (s' := (u :: u :: u :: u :: u :: u :: u :: .ptr ip27 wp27 0 0 :: u :: u :: u :: u :: u :: u :: u :: u :: u :: u :: u :: u :: u :: u :: u :: u :: u :: u :: u :: u :: u :: u :: u :: u :: u :: u :: u :: u :: u :: u :: u :: u :: u :: u :: u :: u :: u :: u :: u :: u :: u :: u :: u :: u :: u :: u :: u :: u :: u :: u :: u :: u :: u :: u :: u :: u :: u :: u :: u :: u :: u :: u :: u :: u :: u :: u :: u :: u :: u :: u :: u :: u :: u :: u :: u :: u :: u :: u :: u :: u :: u :: u :: u :: u :: u :: u :: u :: u :: u :: u :: u :: u :: u :: u :: u :: u :: u :: u :: u :: u :: u :: u :: v79 :: .int .i64 (b72.Cases.length : Int) :: .int .i64 x99 :: u :: u :: u :: u :: u :: u :: u :: u :: u :: u :: u :: u :: u :: u :: u :: u :: u :: u :: u :: u :: u :: u :: u :: u :: u :: u :: u :: u :: u :: u :: .bool false :: u :: u :: u :: u :: u :: u :: u :: u :: u :: u :: u :: u :: u :: u :: u :: u :: u :: u :: u :: u :: u :: u :: u :: u :: u :: u :: u :: u :: u :: u :: u :: u :: u :: u :: u :: u :: u :: u :: u :: u :: u :: u :: u :: u :: u :: u :: u :: u :: u :: u :: u :: u :: u :: u :: u :: u :: u :: u :: u :: u :: u :: u :: u :: u :: u :: u :: u :: u :: u :: u :: u :: u :: u :: u :: u :: u :: u :: u :: u :: u :: u :: u :: u :: u :: u :: u :: u :: u :: u :: u :: u :: u :: [])) rfl ?_
                            exact cut_n hK126 ⟨_, (Option.some.inj h).symm, rfl, (hS.sel 6 [2, 3, 4, 5] (by decide))⟩
                      · try simp only [W, EE, Nat.reduceAdd, Nat.reduceBEq, hS.var 1 rfl, hc]
                        refine w_grdT h (fun hc h => ?_) (fun hc h => ?_)
                        · try simp only [W, EE, reduceIte, Nat.reduceAdd, Nat.reduceBEq, Bool.false_eq_true, hS.var 1 rfl, hS.var 0 rfl, hc]
                          refine seq_n hK127 ?_
                          refine w_killE (s' := (u :: u :: u :: u :: u :: u :: u :: .ptr ip27 wp27 0 0 :: u :: u :: u :: u :: u :: u :: u :: u :: u :: u :: u :: u :: u :: u :: u :: u :: u :: u :: u :: u :: u :: u :: u :: u :: u :: u :: u :: u :: u :: u :: u :: u :: u :: u :: u :: u :: u :: u :: u :: u :: u :: u :: u :: u :: u :: u :: u :: u :: u :: u :: u :: u :: u :: u :: u :: u :: u :: u :: u :: u :: u :: u :: u :: u :: u :: u :: u :: u :: u :: u :: u :: u :: u :: u :: u :: u :: u :: u :: u :: u :: u :: u :: u :: u :: u :: u :: u :: u :: u :: u :: u :: u :: u :: u :: u :: u :: u :: u :: u :: u :: u :: u :: v79 :: .int .i64 (b72.Cases.length : Int) :: .int .i64 x99 :: u :: u :: u :: u :: u :: u :: u :: u :: u :: u :: u :: u :: u :: u :: u :: u :: u :: u :: u :: u :: u :: u :: u :: u :: u :: u :: u :: u :: u :: u :: .bool (b118.Final != b113.Final) :: u :: u :: u :: u :: u :: u :: u :: u :: u :: u :: u :: u :: u :: u :: u :: u :: u :: u :: u :: u :: u :: u :: u :: u :: u :: u :: u :: u :: u :: u :: u :: u :: u :: u :: u :: u :: u :: u :: u :: u :: u :: u :: u :: u :: u :: u :: u :: u :: u :: u :: u :: u :: u :: u :: u :: u :: u :: u :: u :: u :: u :: u :: u :: u :: u :: u :: u :: u :: u :: u :: u :: u :: u :: u :: u :: u :: u :: u :: u :: u :: u :: u :: u :: u :: u :: u :: u :: u :: u :: u :: u :: u :: [])) rfl ?_
                          exact cut_n hK126 ⟨_, (Option.some.inj h).symm, rfl, (hS.sel 6 [2, 3, 4, 5] (by decide))⟩
                        · try simp only [W, reduceIte, Bool.false_eq_true, hc]
                          refine seq_n hK127 ?_
                          refine w_killE (s' := (u :: u :: u :: u :: u :: u :: u :: .ptr ip27 wp27 0 0 :: u :: u :: u :: u :: u :: u :: u :: u :: u :: u :: u :: u :: u :: u :: u :: u :: u :: u :: u :: u :: u :: u :: u :: u :: u :: u :: u :: u :: u :: u :: u :: u :: u :: u :: u :: u :: u :: u :: u :: u :: u :: u :: u :: u :: u :: u :: u :: u :: u :: u :: u :: u :: u :: u :: u :: u :: u :: u :: u :: u :: u :: u :: u :: u :: u :: u :: u :: u :: u :: u :: u :: u :: u :: u :: u :: u :: u :: u :: u :: u :: u :: u :: u :: u :: u :: u :: u :: u :: u :: u :: u :: u :: u :: u :: u :: u :: u :: u :: u :: u :: u :: u :: v79 :: .int .i64 (b72.Cases.length : Int) :: .int .i64 x99 :: u :: u :: u :: u :: u :: u :: u :: u :: u :: u :: u :: u :: u :: u :: u :: u :: u :: u :: u :: u :: u :: u :: u :: u :: u :: u :: u :: u :: u :: u :: .bool false :: u :: u :: u :: u :: u :: u :: u :: u :: u :: u :: u :: u :: u :: u :: u :: u :: u :: u :: u :: u :: u :: u :: u :: u :: u :: u :: u :: u :: u :: u :: u :: u :: u :: u :: u :: u :: u :: u :: u :: u :: u :: u :: u :: u :: u :: u :: u :: u :: u :: u :: u :: u :: u :: u :: u :: u :: u :: u :: u :: u :: u :: u :: u :: u :: u :: u :: u :: u :: u :: u :: u :: u :: u :: u :: u :: u :: u :: u :: u :: u :: u :: u :: u :: u :: u :: u :: u :: u :: u :: u :: u :: u :: [])) rfl ?_
                          exact cut_n hK126 ⟨_, (Option.some.inj h).symm, rfl, (hS.sel 6 [2, 3, 4, 5] (by decide))⟩
                    · obtain ⟨x123, ey, rfl, hS⟩ := hq; obtain rfl := ey.symm
                      replace h := g125
                      try dsimp only at h
                      refine seq_n hK122 ?_
                      refine w_if ?_
                      simp only [W]
                      refine w_cnd h (fun hc h => ?_) (fun hc h => ?_)
                      · refine w_seq fun K128 hK128 => ?_
                        refine w_reg gC ?_
                        try simp only [W, Nat.reduceAdd]
                        refine seq_n hK128 ?_
                        refine w_ret ?_
                        refine blk_r hK111 ?_
                        refine seq_r hK110 ?_
                        try obtain rfl := Option.some.inj h
                        obtain rfl := hd105 _ rfl
                        have h : (some (LR.done (LR.done false)) : Option (LR Unit (LR Unit (Bool)))) = some (LR.done (LR.done false)) := rfl
                        refine lp_r hK104 ?_
                        refine blk_r hK103 ?_
                        try obtain rfl := Option.some.inj h
                        obtain rfl := Option.some.inj g107
                        have h : (some (LR.done false) : Option (LR Unit (Bool))) = some (LR.done false) := rfl
                        refine cut_r hK102 ?_
                        refine seq_r hK97 ?_
                        refine seq_r hK60 ?_
                        try obtain rfl := Option.some.inj h
                        obtain rfl := Option.some.inj g58
                        have h : (some false : Option (Bool)) = some false := rfl
                        refine cut_r hK59 ?_
                        refine seq_r hK55 ?_
                        refine fin_r1 hK0 rfl ?_
                        try obtain rfl := Option.some.inj h
                        exact hP _ (hS.sel 4 [] (by decide))
                      · refine w_skip ?_
                        refine blk_n0 hK111 ?_
                        refine seq_n hK110 ?_
                        refine w_reg gC ?_
                        try simp only [W, EE, Nat.reduceAdd]
                        exact lp_n hK104 h ⟨rfl, hS⟩
                  · refine w_exit ?_
                    refine seq_x hK109 ?_
                    try obtain rfl := Option.some.inj h
                    obtain rfl := hd105 _ rfl
                    have h : (some (LR.next ()) : Option (LR Unit (LR Unit (Bool)))) = some (LR.next ()) := rfl
                    refine lp_x hK104 ?_
                    refine blk_e hK103 ?_
                    exact cut_n hK102 ⟨(Option.some.inj h).symm, rfl, (hS.sel 4 [1, 2, 3] (by decide))⟩
                · obtain ⟨rfl, rfl, hS⟩ := hq
                  replace h := g107
                  try dsimp only at h
                  refine seq_n hK97 ?_
                  refine w_seq fun K137 hK137 => ?_
                  refine w_reg gC ?_
                  try simp only [W, EE, reduceIte, Nat.reduceAdd, Nat.reduceLeDiff, Nat.reduceBEq, hS.var 2 rfl, List.contains_cons, Nat.reduceBEq, Bool.or_self]
                  refine w_callO (rsh := [[.sc, .sl [.sc, .sc, .sc, .sc], .sl [.sc, .sc, .sc]], [.sc], [.sc]]) (ys := [.agg [.int .i64 b15.Now, .fz (b15.Cases.map e_Case), .fz (b15.Line.map e_Slip)]]) h rfl (pv_c (sn_agg (sm_c rfl (sm_c (sn_ow hS 0 rfl qv22 (fun _ => rfl)) (sm_c (sn_ow hS 1 rfl qv24 (fun _ => rfl)) (sm_n _))))) pv_n) fun b138 hb138 h => ⟨.tup [.agg [.int .i64 b138.1.Now, .own 4 (b138.1.Cases.map e_Case), .own 3 (b138.1.Line.map e_Slip)], .int .i64 b138.2.1, .bool b138.2.2], impl_SettleCourt_w hb138 (Own.nil _) fun v142 qv142 v143 qv143 H hS => TV_ok rfl (TV_a (TC_sc rfl (TC_ow 0 hS rfl qv142 (fun _ _ => by simp [takeE, takeT, takeC, plainA, e_Case]) fun H hS => TC_ow 0 hS rfl qv143 (fun _ _ => by simp [takeE, takeT, takeC, plainA, e_Slip]) fun H hS => TC_nil (TV_p rfl (TV_p rfl (TV_n rfl)))))), (nf_t (nf_c (nf_a (nf_c rfl (nf_c (noFz_o _ (fun _ => rfl) _) (nf_c (noFz_o _ (fun _ => rfl) _) nf_n)))) (nf_c rfl (nf_c rfl nf_n)))), ?_⟩
                  refine thaw_tup ?_
                  refine TH_a ?_
                  refine TH_p (fun _ => rfl) ?_
                  refine TH_o hS (fun _ _ => rfl) (fun _ => rfl) fun v145 H qv145 hS => ?_
                  refine TH_o hS (fun _ _ => rfl) (fun _ => rfl) fun v147 H qv147 hS => ?_
                  refine TH_n ?_
                  refine TH_p (fun _ => rfl) ?_
                  refine TH_p (fun _ => rfl) ?_
                  refine TH_n ?_
                  try simp only [List.headD_cons]
                  obtain ⟨b139, b140, b141⟩ := b138
                  try dsimp only at h
                  try simp only [W]
                  refine w_alloc hS rfl rfl fun ip148 wp148 H hS => ?_
                  try simp only [W]
                  refine w_stv (a := .agg [.int .i64 b139.Now, v145, v147]) (y' := .agg [.int .i64 b139.Now, v145, v147]) 0 hS rfl rfl rfl rfl rfl (by simp only [storA, List.all_cons, List.all_nil, qv145.stor, qv147.stor]; rfl) rfl rfl fun H hS => ?_
                  try simp only [W]
                  refine seq_n hK137 ?_
                  refine w_seq fun K150 hK150 => ?_
                  refine w_reg gC ?_
                  try simp only [W, EE, reduceIte, Nat.reduceAdd, Nat.reduceLeDiff, hS.var 0 rfl]
                  refine w_callS (rsh := [[.sc], [.sc]]) (ys := [.agg [.int .i64 b139.Now, .fz (b139.Cases.map e_Case), .fz (b139.Line.map e_Slip)]]) h rfl (pv_c (sn_agg (sm_c rfl (sm_c (sn_ow hS 2 rfl qv145 (fun _ => rfl)) (sm_c (sn_ow hS 1 rfl qv147 (fun _ => rfl)) (sm_n _))))) pv_n) fun b151 hb151 h => ⟨.tup [.bool b151.1, .bool b151.2], impl_IsSettled_w hb151 (Own.nil _) fun H hS => TV_ok rfl (TV_p rfl (TV_p rfl (TV_n rfl))), ⟨rfl, rfl, fun _ => rfl⟩, ?_⟩
                  obtain ⟨b152, b153⟩ := b151
                  try dsimp only at h
                  try simp only [W]
                  refine seq_n hK150 ?_
                  refine w_seq fun K154 hK154 => ?_
                  refine w_reg gC ?_
                  try simp only [W, EE, reduceIte, Nat.reduceAdd, Nat.reduceLeDiff, hS.var 0 rfl]
                  refine w_callS (rsh := [[.sc], [.sc]]) (ys := [.agg [.int .i64 b139.Now, .fz (b139.Cases.map e_Case), .fz (b139.Line.map e_Slip)]]) h rfl (pv_c (sn_agg (sm_c rfl (sm_c (sn_ow hS 2 rfl qv145 (fun _ => rfl)) (sm_c (sn_ow hS 1 rfl qv147 (fun _ => rfl)) (sm_n _))))) pv_n) fun b155 hb155 h => ⟨.tup [.bool b155.1, .bool b155.2], impl_AgreesIn_w hb155 (Own.nil _) fun H hS => TV_ok rfl (TV_p rfl (TV_p rfl (TV_n rfl))), ⟨rfl, rfl, fun _ => rfl⟩, ?_⟩
                  obtain ⟨b156, b157⟩ := b155
                  try dsimp only at h
                  try simp only [W]
                  refine seq_n hK154 ?_
                  refine w_seq fun K158 hK158 => ?_
                  refine w_reg gC ?_
                  try simp only [W, Nat.reduceAdd]
                  refine seq_n hK158 ?_
                  refine w_seq fun K159 hK159 => ?_
                  refine w_seq fun K160 hK160 => ?_
                  refine w_reg gC ?_
                  try simp only [W, EE, Nat.reduceAdd, Nat.reduceBEq, hS.var 5 rfl]
                  refine w_len 3 hS rfl qv22 rfl ?_
                  try simp only [W]
                  refine seq_n hK160 ?_
                  obtain ⟨y164, hw165, g171⟩ := Option.bind_eq_some_iff.1 h
                  refine w_join gC (fun s H => ∃ x163 : Int, y164 = (x163) ∧ s = (u :: u :: u :: u :: u :: u :: u :: .ptr ip27 wp27 0 0 :: u :: u :: u :: u :: u :: u :: u :: u :: u :: u :: u :: u :: u :: .ptr ip148 wp148 0 0 :: .int .i64 b140 :: .bool b141 :: .bool b152 :: .bool b153 :: .bool b156 :: .bool b157 :: .int .i64 x163 :: u :: u :: u :: u :: u :: u :: u :: u :: u :: u :: u :: u :: u :: u :: u :: u :: u :: u :: u :: u :: u :: u :: u :: u :: u :: u :: u :: u :: u :: u :: u :: u :: u :: u :: u :: u :: u :: u :: u :: u :: u :: u :: u :: u :: u :: u :: u :: u :: u :: u :: u :: u :: u :: u :: u :: u :: u :: u :: u :: u :: u :: u :: u :: u :: u :: u :: u :: u :: u :: u :: u :: u :: u :: u :: u :: u :: u :: u :: u :: u :: u :: u :: u :: u :: u :: u :: u :: u :: u :: u :: u :: u :: u :: u :: u :: u :: u :: u :: u :: u :: u :: u :: u :: u :: u :: u :: u :: u :: u :: u :: u :: u :: u :: u :: u :: u :: u :: u :: u :: u :: u :: u :: u :: u :: u :: u :: u :: u :: u :: u :: u :: u :: u :: u :: u :: u :: u :: u :: u :: u :: u :: u :: u :: u :: u :: u :: u :: u :: u :: u :: u :: u :: u :: u :: u :: u :: u :: u :: u :: u :: u :: u :: u :: u :: u :: u :: u :: u :: u :: u :: u :: u :: u :: u :: u :: u :: u :: u :: u :: u :: u :: u :: u :: u :: u :: u :: u :: u :: u :: u :: u :: u :: u :: u :: u :: u :: u :: u :: u :: u :: u :: u :: u :: u :: u :: u :: u :: []) ∧ Own H (⟨v22, 4, b15.Cases.map e_Case⟩ :: ⟨v24, 3, b15.Line.map e_Slip⟩ :: ⟨v145, 4, b139.Cases.map e_Case⟩ :: ⟨v147, 3, b139.Line.map e_Slip⟩ :: ⟨.ptr ip27 wp27 0 0, 3, [.agg [.int .i64 b15.Now, v22, v24]]⟩ :: ⟨.ptr ip148 wp148 0 0, 3, [.agg [.int .i64 b139.Now, v145, v147]]⟩ :: F)) (fun K166 hK166 => ?_) (fun s H hq => ?_)
                  · refine w_blk fun K167 hK167 => ?_
                    refine w_loop gC hw165 (fun x s H => match x with | (x161, x162) => s = (u :: u :: u :: u :: u :: u :: u :: .ptr ip27 wp27 0 0 :: u :: u :: u :: u :: u :: u :: u :: u :: u :: u :: u :: u :: u :: .ptr ip148 wp148 0 0 :: .int .i64 b140 :: .bool b141 :: .bool b152 :: .bool b153 :: .bool b156 :: .bool b157 :: .int .i64 x161 :: u :: u :: u :: u :: u :: u :: u :: u :: u :: u :: u :: u :: u :: u :: u :: u :: u :: u :: u :: u :: u :: u :: u :: u :: u :: u :: u :: u :: u :: u :: u :: u :: u :: u :: u :: u :: u :: u :: u :: u :: u :: u :: u :: u :: u :: u :: u :: u :: u :: u :: u :: u :: u :: u :: u :: u :: u :: u :: u :: u :: u :: u :: u :: u :: u :: u :: u :: u :: u :: u :: u :: u :: u :: u :: u :: u :: u :: u :: u :: u :: u :: u :: u :: u :: u :: u :: u :: u :: u :: u :: u :: u :: u :: u :: u :: u :: u :: u :: u :: u :: u :: u :: u :: u :: u :: u :: u :: u :: u :: u :: u :: u :: u :: u :: u :: u :: u :: u :: u :: u :: u :: u :: u :: u :: u :: u :: u :: u :: u :: u :: u :: u :: u :: v22 :: .int .i64 (b15.Cases.length : Int) :: .int .i64 x162 :: u :: u :: u :: u :: u :: u :: u :: u :: u :: u :: u :: u :: u :: u :: u :: u :: u :: u :: u :: u :: u :: u :: u :: u :: u :: u :: u :: u :: u :: u :: u :: u :: u :: u :: u :: u :: u :: u :: u :: u :: u :: u :: u :: u :: u :: u :: u :: u :: u :: u :: u :: u :: u :: u :: u :: u :: u :: u :: u :: u :: u :: u :: u :: u :: u :: u :: u :: u :: u :: u :: u :: []) ∧ Own H (⟨v22, 4, b15.Cases.map e_Case⟩ :: ⟨v24, 3, b15.Line.map e_Slip⟩ :: ⟨v145, 4, b139.Cases.map e_Case⟩ :: ⟨v147, 3, b139.Line.map e_Slip⟩ :: ⟨.ptr ip27 wp27 0 0, 3, [.agg [.int .i64 b15.Now, v22, v24]]⟩ :: ⟨.ptr ip148 wp148 0 0, 3, [.agg [.int .i64 b139.Now, v145, v147]]⟩ :: F)) ⟨rfl, (hS.sel 6 [3, 4, 2, 1, 5, 0] (by decide))⟩ (fun x y170 s H h hd169 hi K168 hK168 => ?_)
                    obtain ⟨x161, x162⟩ := x
                    try dsimp only at hi
                    obtain ⟨rfl, hS⟩ := hi
                    simp only [laws_FnVerdicts_l1] at h
                    refine w_seq fun K172 hK172 => ?_
                    refine w_reg gC ?_
                    try simp only [W, EE, Nat.reduceAdd]
                    refine seq_n hK172 ?_
                    refine w_seq fun K173 hK173 => ?_
                    refine w_if ?_
                    simp only [W]
                    refine w_cnd h (fun hc h => ?_) (fun hc h => ?_)
                    · refine w_skip ?_
                      refine seq_n hK173 ?_
                      refine w_seq fun K174 hK174 => ?_
                      obtain ⟨y177, h, g178⟩ := Option.bind_eq_some_iff.1 h
                      refine w_join gC (fun s H => ∃ x176 : Int, y177 = (x176) ∧ s = (u :: u :: u :: u :: u :: u :: u :: .ptr ip27 wp27 0 0 :: u :: u :: u :: u :: u :: u :: u :: u :: u :: u :: u :: u :: u :: .ptr ip148 wp148 0 0 :: .int .i64 b140 :: .bool b141 :: .bool b152 :: .bool b153 :: .bool b156 :: .bool b157 :: .int .i64 x176 :: u :: u :: u :: u :: u :: u :: u :: u :: u :: u :: u :: u :: u :: u :: u :: u :: u :: u :: u :: u :: u :: u :: u :: u :: u :: u :: u :: u :: u :: u :: u :: u :: u :: u :: u :: u :: u :: u :: u :: u :: u :: u :: u :: u :: u :: u :: u :: u :: u :: u :: u :: u :: u :: u :: u :: u :: u :: u :: u :: u :: u :: u :: u :: u :: u :: u :: u :: u :: u :: u :: u :: u :: u :: u :: u :: u :: u :: u :: u :: u :: u :: u :: u :: u :: u :: u :: u :: u :: u :: u :: u :: u :: u :: u :: u :: u :: u :: u :: u :: u :: u :: u :: u :: u :: u :: u :: u :: u :: u :: u :: u :: u :: u :: u :: u :: u :: u :: u :: u :: u :: u :: u :: u :: u :: u :: u :: u :: u :: u :: u :: u :: u :: u :: v22 :: .int .i64 (b15.Cases.length : Int) :: .int .i64 x162 :: u :: u :: u :: u :: u :: u :: u :: u :: u :: u :: u :: u :: u :: u :: u :: u :: u :: u :: u :: u :: u :: u :: u :: u :: u :: u :: u :: u :: u :: u :: u :: u :: u :: u :: u :: u :: u :: u :: u :: u :: u :: u :: u :: u :: u :: u :: u :: u :: u :: u :: u :: u :: u :: u :: u :: u :: u :: u :: u :: u :: u :: u :: u :: u :: u :: u :: u :: u :: u :: u :: u :: []) ∧ Own H (⟨v22, 4, b15.Cases.map e_Case⟩ :: ⟨v24, 3, b15.Line.map e_Slip⟩ :: ⟨v145, 4, b139.Cases.map e_Case⟩ :: ⟨v147, 3, b139.Line.map e_Slip⟩ :: ⟨.ptr ip27 wp27 0 0, 3, [.agg [.int .i64 b15.Now, v22, v24]]⟩ :: ⟨.ptr ip148 wp148 0 0, 3, [.agg [.int .i64 b139.Now, v145, v147]]⟩ :: F)) (fun K179 hK179 => ?_) (fun s H hq => ?_)
                      · refine w_blk fun K175 hK175 => ?_
                        refine w_seq fun K180 hK180 => ?_
                        refine w_reg gC ?_
                        try simp only [W, EE, Nat.reduceAdd]
                        refine w_ow 0 hS rfl rfl rfl rfl rfl h (fun b181 in182 wn182 on182 hb181 h en182 => ?_) qv22.ne
                        obtain ⟨kn182, hbn182, hen182⟩ := hS.elem 0 rfl en182 hb181
                        try simp only [W, EE, EN, reduceIte, Nat.reduceAdd, Nat.reduceLeDiff, hbn182, hen182]
                        refine w_alloc hS rfl rfl fun ip183 wp183 H hS => ?_
                        try simp only [W]
                        refine w_stv (a := .agg [.int .i64 b181.End, .bool b181.Asks, .int .i64 b181.Final, .int .i64 b181.Said]) (y' := .agg [.int .i64 b181.End, .bool b181.Asks, .int .i64 b181.Final, .int .i64 b181.Said]) 0 hS rfl rfl rfl rfl rfl rfl rfl rfl fun H hS => ?_
                        try simp only [W]
                        refine seq_n hK180 ?_
                        refine w_seq fun K185 hK185 => ?_
                        refine w_reg gC ?_
                        try simp only [W, EE, Nat.reduceAdd, Nat.reduceBEq, hS.var 0 rfl]
                        refine seq_n hK185 ?_
                        obtain ⟨y187, h, g188⟩ := Option.bind_eq_some_iff.1 h
                        refine w_join gC (fun s H => ∃ x186 : Int, y187 = (x186) ∧ s = (u :: u :: u :: u :: u :: u :: u :: .ptr ip27 wp27 0 0 :: u :: u :: u :: u :: u :: u :: u :: u :: u :: u :: u :: u :: u :: .ptr ip148 wp148 0 0 :: .int .i64 b140 :: .bool b141 :: .bool b152 :: .bool b153 :: .bool b156 :: .bool b157 :: .int .i64 x186 :: u :: u :: u :: u :: u :: u :: u :: u :: u :: u :: u :: u :: u :: u :: u :: u :: u :: u :: u :: u :: u :: u :: u :: u :: u :: u :: u :: u :: u :: u :: u :: u :: u :: u :: u :: u :: u :: u :: u :: u :: u :: u :: u :: u :: u :: u :: u :: u :: u :: u :: u :: u :: u :: u :: u :: u :: u :: u :: u :: u :: u :: u :: u :: u :: u :: u :: u :: u :: u :: u :: u :: u :: u :: u :: u :: u :: u :: u :: u :: u :: u :: u :: u :: u :: u :: u :: u :: u :: u :: u :: u :: u :: u :: u :: u :: u :: u :: u :: u :: u :: u :: u :: u :: u :: u :: u :: u :: u :: u :: u :: u :: u :: u :: u :: u :: u :: u :: u :: u :: u :: u :: u :: u :: u :: u :: u :: u :: u :: u :: u :: u :: u :: u :: v22 :: .int .i64 (b15.Cases.length : Int) :: .int .i64 x162 :: u :: u :: u :: u :: u :: u :: u :: u :: u :: u :: u :: u :: u :: u :: u :: u :: u :: u :: u :: u :: u :: u :: u :: u :: u :: u :: u :: u :: u :: u :: u :: u :: u :: u :: u :: u :: u :: u :: u :: u :: u :: u :: u :: u :: u :: u :: u :: u :: u :: u :: u :: u :: u :: u :: u :: u :: u :: u :: u :: u :: u :: u :: u :: u :: u :: u :: u :: u :: u :: u :: u :: []) ∧ Own H (⟨v22, 4, b15.Cases.map e_Case⟩ :: ⟨v24, 3, b15.Line.map e_Slip⟩ :: ⟨v145, 4, b139.Cases.map e_Case⟩ :: ⟨v147, 3, b139.Line.map e_Slip⟩ :: ⟨.ptr ip27 wp27 0 0, 3, [.agg [.int .i64 b15.Now, v22, v24]]⟩ :: ⟨.ptr ip148 wp148 0 0, 3, [.agg [.int .i64 b139.Now, v145, v147]]⟩ :: F)) (fun K189 hK189 => ?_) (fun s H hq => ?_)
                        · refine w_seq fun K190 hK190 => ?_
                          refine w_if ?_
                          simp only [W]
                          refine w_cnd h (fun hc h => ?_) (fun hc h => ?_)
                          · refine w_reg gC ?_
                            try simp only [W, EE, Nat.reduceAdd]
                            refine seq_n hK190 ?_
                            refine w_killE (s' := (u :: u :: u :: u :: u :: u :: u :: .ptr ip27 wp27 0 0 :: u :: u :: u :: u :: u :: u :: u :: u :: u :: u :: u :: u :: u :: .ptr ip148 wp148 0 0 :: .int .i64 b140 :: .bool b141 :: .bool b152 :: .bool b153 :: .bool b156 :: .bool b157 :: .int .i64 (IntKind.i64.wrap (x161 + 1)) :: u :: u :: u :: u :: u :: u :: u :: u :: u :: u :: u :: u :: u :: u :: u :: u :: u :: u :: u :: u :: u :: u :: u :: u :: u :: u :: u :: u :: u :: u :: u :: u :: u :: u :: u :: u :: u :: u :: u :: u :: u :: u :: u :: u :: u :: u :: u :: u :: u :: u :: u :: u :: u :: u :: u :: u :: u :: u :: u :: u :: u :: u :: u :: u :: u :: u :: u :: u :: u :: u :: u :: u :: u :: u :: u :: u :: u :: u :: u :: u :: u :: u :: u :: u :: u :: u :: u :: u :: u :: u :: u :: u :: u :: u :: u :: u :: u :: u :: u :: u :: u :: u :: u :: u :: u :: u :: u :: u :: u :: u :: u :: u :: u :: u :: u :: u :: u :: u :: u :: u :: u :: u :: u :: u :: u :: u :: u :: u :: u :: u :: u :: u :: u :: v22 :: .int .i64 (b15.Cases.length : Int) :: .int .i64 x162 :: u :: u :: u :: u :: u :: u :: u :: u :: u :: u :: u :: u :: u :: u :: u :: u :: u :: u :: u :: u :: u :: u :: u :: u :: u :: u :: u :: u :: u :: u :: u :: u :: u :: u :: u :: u :: u :: u :: u :: u :: u :: u :: u :: u :: u :: u :: u :: u :: u :: u :: u :: u :: u :: u :: u :: u :: u :: u :: u :: u :: u :: u :: u :: u :: u :: u :: u :: u :: u :: u :: u :: [])) rfl ?_
                            exact cut_n hK189 ⟨_, (Option.some.inj h).symm, rfl, (hS.sel 7 [1, 2, 3, 4, 5, 6] (by decide))⟩
                          · refine w_skip ?_
                            refine seq_n hK190 ?_
                            refine w_killE (s' := (u :: u :: u :: u :: u :: u :: u :: .ptr ip27 wp27 0 0 :: u :: u :: u :: u :: u :: u :: u :: u :: u :: u :: u :: u :: u :: .ptr ip148 wp148 0 0 :: .int .i64 b140 :: .bool b141 :: .bool b152 :: .bool b153 :: .bool b156 :: .bool b157 :: .int .i64 x161 :: u :: u :: u :: u :: u :: u :: u :: u :: u :: u :: u :: u :: u :: u :: u :: u :: u :: u :: u :: u :: u :: u :: u :: u :: u :: u :: u :: u :: u :: u :: u :: u :: u :: u :: u :: u :: u :: u :: u :: u :: u :: u :: u :: u :: u :: u :: u :: u :: u :: u :: u :: u :: u :: u :: u :: u :: u :: u :: u :: u :: u :: u :: u :: u :: u :: u :: u :: u :: u :: u :: u :: u :: u :: u :: u :: u :: u :: u :: u :: u :: u :: u :: u :: u :: u :: u :: u :: u :: u :: u :: u :: u :: u :: u :: u :: u :: u :: u :: u :: u :: u :: u :: u :: u :: u :: u :: u :: u :: u :: u :: u :: u :: u :: u :: u :: u :: u :: u :: u :: u :: u :: u :: u :: u :: u :: u :: u :: u :: u :: u :: u :: u :: u :: v22 :: .int .i64 (b15.Cases.length : Int) :: .int .i64 x162 :: u :: u :: u :: u :: u :: u :: u :: u :: u :: u :: u :: u :: u :: u :: u :: u :: u :: u :: u :: u :: u :: u :: u :: u :: u :: u :: u :: u :: u :: u :: u :: u :: u :: u :: u :: u :: u :: u :: u :: u :: u :: u :: u :: u :: u :: u :: u :: u :: u :: u :: u :: u :: u :: u :: u :: u :: u :: u :: u :: u :: u :: u :: u :: u :: u :: u :: u :: u :: u :: u :: u :: [])) rfl ?_
                            exact cut_n hK189 ⟨_, (Option.some.inj h).symm, rfl, (hS.sel 7 [1, 2, 3, 4, 5, 6] (by decide))⟩
                        · obtain ⟨x186, ey, rfl, hS⟩ := hq; obtain rfl := ey.symm
                          replace h := g188
                          try dsimp only at h
                          refine blk_n hK175 ?_
                          exact cut_n hK179 ⟨_, (Option.some.inj h).symm, rfl, hS⟩
                      · obtain ⟨x176, ey, rfl, hS⟩ := hq; obtain rfl := ey.symm
                        replace h := g178
                        try dsimp only at h
                        refine seq_n hK174 ?_
                        refine w_reg gC ?_
                        try simp only [W, EE, Nat.reduceAdd]
                        exact lp_n hK168 h ⟨rfl, hS⟩
                    · refine w_exit ?_
                      refine seq_x hK173 ?_
                      try obtain rfl := Option.some.inj h
                      obtain rfl := hd169 _ rfl
                      have h : (some (x161) : Option (Int)) = some (x161) := rfl
                      refine lp_x hK168 ?_
                      refine blk_e hK167 ?_
                      exact cut_n hK166 ⟨_, (Option.some.inj h).symm, rfl, hS⟩
                  · obtain ⟨x163, ey, rfl, hS⟩ := hq; obtain rfl := ey.symm
                    replace h := g171
                    try dsimp only at h
                    refine seq_n hK159 ?_
                    refine w_seq fun K193 hK193 => ?_
                    refine w_seq fun K194 hK194 => ?_
                    obtain ⟨y196, h, g197⟩ := Option.bind_eq_some_iff.1 h
                    refine w_join gC (fun s H => ∃ x195 : Bool, y196 = (x195) ∧ s = (u :: u :: u :: u :: u :: u :: u :: .ptr ip27 wp27 0 0 :: u :: u :: u :: u :: u :: u :: u :: u :: u :: u :: u :: u :: u :: .ptr ip148 wp148 0 0 :: u :: u :: u :: u :: u :: u :: u :: u :: u :: u :: u :: u :: u :: u :: u :: u :: u :: u :: u :: u :: u :: u :: u :: u :: u :: u :: u :: u :: u :: u :: u :: u :: u :: u :: u :: u :: u :: u :: u :: u :: u :: u :: u :: u :: u :: u :: u :: u :: u :: u :: u :: u :: u :: u :: u :: u :: u :: u :: u :: u :: u :: u :: u :: u :: u :: u :: u :: u :: u :: u :: u :: u :: u :: u :: u :: u :: u :: u :: u :: u :: u :: u :: u :: u :: u :: u :: u :: u :: u :: u :: u :: u :: u :: u :: u :: u :: u :: u :: u :: u :: u :: u :: u :: u :: u :: u :: u :: u :: u :: u :: u :: u :: u :: u :: u :: u :: u :: u :: u :: u :: u :: u :: u :: u :: u :: u :: u :: u :: u :: u :: u :: u :: u :: u :: u :: u :: u :: u :: u :: u :: u :: u :: u :: u :: u :: u :: u :: u :: u :: u :: u :: u :: u :: u :: u :: u :: u :: u :: u :: u :: u :: u :: u :: u :: u :: u :: u :: u :: u :: u :: u :: u :: u :: u :: .bool x195 :: u :: u :: u :: u :: u :: u :: u :: u :: u :: u :: u :: u :: u :: u :: u :: u :: u :: u :: u :: u :: u :: u :: u :: u :: u :: u :: u :: u :: u :: u :: u :: u :: u :: u :: u :: u :: u :: u :: u :: []) ∧ Own H (⟨v22, 4, b15.Cases.map e_Case⟩ :: ⟨v24, 3, b15.Line.map e_Slip⟩ :: ⟨v145, 4, b139.Cases.map e_Case⟩ :: ⟨v147, 3, b139.Line.map e_Slip⟩ :: ⟨.ptr ip27 wp27 0 0, 3, [.agg [.int .i64 b15.Now, v22, v24]]⟩ :: ⟨.ptr ip148 wp148 0 0, 3, [.agg [.int .i64 b139.Now, v145, v147]]⟩ :: F)) (fun K198 hK198 => ?_) (fun s H hq => ?_)
                    · refine w_seq fun K199 hK199 => ?_
                      refine w_reg gC ?_
                      try simp only [W, Nat.reduceAdd]
                      refine w_grdT h (fun hc h => ?_) (fun hc h => ?_)
                      · try simp only [W, hc]
                        refine seq_n hK199 ?_
                        refine w_killE (s' := (u :: u :: u :: u :: u :: u :: u :: .ptr ip27 wp27 0 0 :: u :: u :: u :: u :: u :: u :: u :: u :: u :: u :: u :: u :: u :: .ptr ip148 wp148 0 0 :: u :: u :: u :: u :: u :: u :: u :: u :: u :: u :: u :: u :: u :: u :: u :: u :: u :: u :: u :: u :: u :: u :: u :: u :: u :: u :: u :: u :: u :: u :: u :: u :: u :: u :: u :: u :: u :: u :: u :: u :: u :: u :: u :: u :: u :: u :: u :: u :: u :: u :: u :: u :: u :: u :: u :: u :: u :: u :: u :: u :: u :: u :: u :: u :: u :: u :: u :: u :: u :: u :: u :: u :: u :: u :: u :: u :: u :: u :: u :: u :: u :: u :: u :: u :: u :: u :: u :: u :: u :: u :: u :: u :: u :: u :: u :: u :: u :: u :: u :: u :: u :: u :: u :: u :: u :: u :: u :: u :: u :: u :: u :: u :: u :: u :: u :: u :: u :: u :: u :: u :: u :: u :: u :: u :: u :: u :: u :: u :: u :: u :: u :: u :: u :: u :: u :: u :: u :: u :: u :: u :: u :: u :: u :: u :: u :: u :: u :: u :: u :: u :: u :: u :: u :: u :: u :: u :: u :: u :: u :: u :: u :: u :: u :: u :: u :: u :: u :: u :: u :: u :: u :: u :: u :: u :: .bool true :: u :: u :: u :: u :: u :: u :: u :: u :: u :: u :: u :: u :: u :: u :: u :: u :: u :: u :: u :: u :: u :: u :: u :: u :: u :: u :: u :: u :: u :: u :: u :: u :: u :: u :: u :: u :: u :: u :: u :: [])) rfl ?_
                        exact cut_n hK198 ⟨_, (Option.some.inj h).symm, rfl, hS⟩
                      · try simp only [W, EE, reduceIte, Bool.false_eq_true, hc]
                        refine w_grdT h (fun hc h => ?_) (fun hc h => ?_)
                        · try simp only [W, hc]
                          refine seq_n hK199 ?_
                          refine w_killE (s' := (u :: u :: u :: u :: u :: u :: u :: .ptr ip27 wp27 0 0 :: u :: u :: u :: u :: u :: u :: u :: u :: u :: u :: u :: u :: u :: .ptr ip148 wp148 0 0 :: u :: u :: u :: u :: u :: u :: u :: u :: u :: u :: u :: u :: u :: u :: u :: u :: u :: u :: u :: u :: u :: u :: u :: u :: u :: u :: u :: u :: u :: u :: u :: u :: u :: u :: u :: u :: u :: u :: u :: u :: u :: u :: u :: u :: u :: u :: u :: u :: u :: u :: u :: u :: u :: u :: u :: u :: u :: u :: u :: u :: u :: u :: u :: u :: u :: u :: u :: u :: u :: u :: u :: u :: u :: u :: u :: u :: u :: u :: u :: u :: u :: u :: u :: u :: u :: u :: u :: u :: u :: u :: u :: u :: u :: u :: u :: u :: u :: u :: u :: u :: u :: u :: u :: u :: u :: u :: u :: u :: u :: u :: u :: u :: u :: u :: u :: u :: u :: u :: u :: u :: u :: u :: u :: u :: u :: u :: u :: u :: u :: u :: u :: u :: u :: u :: u :: u :: u :: u :: u :: u :: u :: u :: u :: u :: u :: u :: u :: u :: u :: u :: u :: u :: u :: u :: u :: u :: u :: u :: u :: u :: u :: u :: u :: u :: u :: u :: u :: u :: u :: u :: u :: u :: u :: u :: .bool true :: u :: u :: u :: u :: u :: u :: u :: u :: u :: u :: u :: u :: u :: u :: u :: u :: u :: u :: u :: u :: u :: u :: u :: u :: u :: u :: u :: u :: u :: u :: u :: u :: u :: u :: u :: u :: u :: u :: u :: [])) rfl ?_
                          exact cut_n hK198 ⟨_, (Option.some.inj h).symm, rfl, hS⟩
                        · try simp only [W, reduceIte, Bool.false_eq_true, hc]
                          refine w_grdT h (fun hc h => ?_) (fun hc h => ?_)
                          · try simp only [W, hc]
                            refine seq_n hK199 ?_
                            refine w_killE (s' := (u :: u :: u :: u :: u :: u :: u :: .ptr ip27 wp27 0 0 :: u :: u :: u :: u :: u :: u :: u :: u :: u :: u :: u :: u :: u :: .ptr ip148 wp148 0 0 :: u :: u :: u :: u :: u :: u :: u :: u :: u :: u :: u :: u :: u :: u :: u :: u :: u :: u :: u :: u :: u :: u :: u :: u :: u :: u :: u :: u :: u :: u :: u :: u :: u :: u :: u :: u :: u :: u :: u :: u :: u :: u :: u :: u :: u :: u :: u :: u :: u :: u :: u :: u :: u :: u :: u :: u :: u :: u :: u :: u :: u :: u :: u :: u :: u :: u :: u :: u :: u :: u :: u :: u :: u :: u :: u :: u :: u :: u :: u :: u :: u :: u :: u :: u :: u :: u :: u :: u :: u :: u :: u :: u :: u :: u :: u :: u :: u :: u :: u :: u :: u :: u :: u :: u :: u :: u :: u :: u :: u :: u :: u :: u :: u :: u :: u :: u :: u :: u :: u :: u :: u :: u :: u :: u :: u :: u :: u :: u :: u :: u :: u :: u :: u :: u :: u :: u :: u :: u :: u :: u :: u :: u :: u :: u :: u :: u :: u :: u :: u :: u :: u :: u :: u :: u :: u :: u :: u :: u :: u :: u :: u :: u :: u :: u :: u :: u :: u :: u :: u :: u :: u :: u :: u :: u :: .bool true :: u :: u :: u :: u :: u :: u :: u :: u :: u :: u :: u :: u :: u :: u :: u :: u :: u :: u :: u :: u :: u :: u :: u :: u :: u :: u :: u :: u :: u :: u :: u :: u :: u :: u :: u :: u :: u :: u :: u :: [])) rfl ?_
                            exact cut_n hK198 ⟨_, (Option.some.inj h).symm, rfl, hS⟩
                          · try simp only [W, reduceIte, Bool.false_eq_true, hc]
                            refine w_grdT h (fun hc h => ?_) (fun hc h => ?_)
                            · try simp only [W, hc]
                              refine seq_n hK199 ?_
                              refine w_killE (s' := (u :: u :: u :: u :: u :: u :: u :: .ptr ip27 wp27 0 0 :: u :: u :: u :: u :: u :: u :: u :: u :: u :: u :: u :: u :: u :: .ptr ip148 wp148 0 0 :: u :: u :: u :: u :: u :: u :: u :: u :: u :: u :: u :: u :: u :: u :: u :: u :: u :: u :: u :: u :: u :: u :: u :: u :: u :: u :: u :: u :: u :: u :: u :: u :: u :: u :: u :: u :: u :: u :: u :: u :: u :: u :: u :: u :: u :: u :: u :: u :: u :: u :: u :: u :: u :: u :: u :: u :: u :: u :: u :: u :: u :: u :: u :: u :: u :: u :: u :: u :: u :: u :: u :: u :: u :: u :: u :: u :: u :: u :: u :: u :: u :: u :: u :: u :: u :: u :: u :: u :: u :: u :: u :: u :: u :: u :: u :: u :: u :: u :: u :: u :: u :: u :: u :: u :: u :: u :: u :: u :: u :: u :: u :: u :: u :: u :: u :: u :: u :: u :: u :: u :: u :: u :: u :: u :: u :: u :: u :: u :: u :: u :: u :: u :: u :: u :: u :: u :: u :: u :: u :: u :: u :: u :: u :: u :: u :: u :: u :: u :: u :: u :: u :: u :: u :: u :: u :: u :: u :: u :: u :: u :: u :: u :: u :: u :: u :: u :: u :: u :: u :: u :: u :: u :: u :: u :: .bool true :: u :: u :: u :: u :: u :: u :: u :: u :: u :: u :: u :: u :: u :: u :: u :: u :: u :: u :: u :: u :: u :: u :: u :: u :: u :: u :: u :: u :: u :: u :: u :: u :: u :: u :: u :: u :: u :: u :: u :: [])) rfl ?_
                              exact cut_n hK198 ⟨_, (Option.some.inj h).symm, rfl, hS⟩
                            · try simp only [W, reduceIte, Bool.false_eq_true, hc]
                              refine w_grdT h (fun hc h => ?_) (fun hc h => ?_)
                              · try simp only [W, hc]
                                refine seq_n hK199 ?_
                                refine w_killE (s' := (u :: u :: u :: u :: u :: u :: u :: .ptr ip27 wp27 0 0 :: u :: u :: u :: u :: u :: u :: u :: u :: u :: u :: u :: u :: u :: .ptr ip148 wp148 0 0 :: u :: u :: u :: u :: u :: u :: u :: u :: u :: u :: u :: u :: u :: u :: u :: u :: u :: u :: u :: u :: u :: u :: u :: u :: u :: u :: u :: u :: u :: u :: u :: u :: u :: u :: u :: u :: u :: u :: u :: u :: u :: u :: u :: u :: u :: u :: u :: u :: u :: u :: u :: u :: u :: u :: u :: u :: u :: u :: u :: u :: u :: u :: u :: u :: u :: u :: u :: u :: u :: u :: u :: u :: u :: u :: u :: u :: u :: u :: u :: u :: u :: u :: u :: u :: u :: u :: u :: u :: u :: u :: u :: u :: u :: u :: u :: u :: u :: u :: u :: u :: u :: u :: u :: u :: u :: u :: u :: u :: u :: u :: u :: u :: u :: u :: u :: u :: u :: u :: u :: u :: u :: u :: u :: u :: u :: u :: u :: u :: u :: u :: u :: u :: u :: u :: u :: u :: u :: u :: u :: u :: u :: u :: u :: u :: u :: u :: u :: u :: u :: u :: u :: u :: u :: u :: u :: u :: u :: u :: u :: u :: u :: u :: u :: u :: u :: u :: u :: u :: u :: u :: u :: u :: u :: u :: .bool true :: u :: u :: u :: u :: u :: u :: u :: u :: u :: u :: u :: u :: u :: u :: u :: u :: u :: u :: u :: u :: u :: u :: u :: u :: u :: u :: u :: u :: u :: u :: u :: u :: u :: u :: u :: u :: u :: u :: u :: [])) rfl ?_
                                exact cut_n hK198 ⟨_, (Option.some.inj h).symm, rfl, hS⟩
                              · try simp only [W, reduceIte, Bool.false_eq_true, hc]
                                refine seq_n hK199 ?_
                                refine w_killE (s' := (u :: u :: u :: u :: u :: u :: u :: .ptr ip27 wp27 0 0 :: u :: u :: u :: u :: u :: u :: u :: u :: u :: u :: u :: u :: u :: .ptr ip148 wp148 0 0 :: u :: u :: u :: u :: u :: u :: u :: u :: u :: u :: u :: u :: u :: u :: u :: u :: u :: u :: u :: u :: u :: u :: u :: u :: u :: u :: u :: u :: u :: u :: u :: u :: u :: u :: u :: u :: u :: u :: u :: u :: u :: u :: u :: u :: u :: u :: u :: u :: u :: u :: u :: u :: u :: u :: u :: u :: u :: u :: u :: u :: u :: u :: u :: u :: u :: u :: u :: u :: u :: u :: u :: u :: u :: u :: u :: u :: u :: u :: u :: u :: u :: u :: u :: u :: u :: u :: u :: u :: u :: u :: u :: u :: u :: u :: u :: u :: u :: u :: u :: u :: u :: u :: u :: u :: u :: u :: u :: u :: u :: u :: u :: u :: u :: u :: u :: u :: u :: u :: u :: u :: u :: u :: u :: u :: u :: u :: u :: u :: u :: u :: u :: u :: u :: u :: u :: u :: u :: u :: u :: u :: u :: u :: u :: u :: u :: u :: u :: u :: u :: u :: u :: u :: u :: u :: u :: u :: u :: u :: u :: u :: u :: u :: u :: u :: u :: u :: u :: u :: u :: u :: u :: u :: u :: u :: .bool (!b156) :: u :: u :: u :: u :: u :: u :: u :: u :: u :: u :: u :: u :: u :: u :: u :: u :: u :: u :: u :: u :: u :: u :: u :: u :: u :: u :: u :: u :: u :: u :: u :: u :: u :: u :: u :: u :: u :: u :: u :: [])) rfl ?_
                                exact cut_n hK198 ⟨_, (Option.some.inj h).symm, rfl, hS⟩
                    · obtain ⟨x195, ey, rfl, hS⟩ := hq; obtain rfl := ey.symm
                      replace h := g197
                      try dsimp only at h
                      refine seq_n hK194 ?_
                      refine w_if ?_
                      simp only [W]
                      refine w_cnd h (fun hc h => ?_) (fun hc h => ?_)
                      · refine w_seq fun K200 hK200 => ?_
                        refine w_reg gC ?_
                        try simp only [W, Nat.reduceAdd]
                        refine seq_n hK200 ?_
                        refine w_ret ?_
                        refine seq_r hK193 ?_
                        refine seq_r hK60 ?_
                        try obtain rfl := Option.some.inj h
                        obtain rfl := Option.some.inj g58
                        have h : (some false : Option (Bool)) = some false := rfl
                        refine cut_r hK59 ?_
                        refine seq_r hK55 ?_
                        refine fin_r1 hK0 rfl ?_
                        try obtain rfl := Option.some.inj h
                        exact hP _ (hS.sel 6 [] (by decide))
                      · refine w_skip ?_
                        refine seq_n hK193 ?_
                        refine w_seq fun K203 hK203 => ?_
                        refine w_reg gC ?_
                        try simp only [W, EE, Nat.reduceAdd, Nat.reduceBEq, hS.var 4 rfl]
                        refine w_len 0 hS rfl qv22 rfl ?_
                        try simp only [W]
                        refine seq_n hK203 ?_
                        obtain ⟨y205, hw206, g212⟩ := Option.bind_eq_some_iff.1 h
                        refine w_join gC (fun s H => y205 = LR.next () ∧ s = (u :: u :: u :: u :: u :: u :: u :: u :: u :: u :: u :: u :: u :: u :: u :: u :: u :: u :: u :: u :: u :: u :: u :: u :: u :: u :: u :: u :: u :: u :: u :: u :: u :: u :: u :: u :: u :: u :: u :: u :: u :: u :: u :: u :: u :: u :: u :: u :: u :: u :: u :: u :: u :: u :: u :: u :: u :: u :: u :: u :: u :: u :: u :: u :: u :: u :: u :: u :: u :: u :: u :: u :: u :: u :: u :: u :: u :: u :: u :: u :: u :: u :: u :: u :: u :: u :: u :: u :: u :: u :: u :: u :: u :: u :: u :: u :: u :: u :: u :: u :: u :: u :: u :: u :: u :: u :: u :: u :: u :: u :: u :: u :: u :: u :: u :: u :: u :: u :: u :: u :: u :: u :: u :: u :: u :: u :: u :: u :: u :: u :: u :: u :: u :: u :: u :: u :: u :: u :: u :: u :: u :: u :: u :: u :: u :: u :: u :: u :: u :: u :: u :: u :: u :: u :: u :: u :: u :: u :: u :: u :: u :: u :: u :: u :: u :: u :: u :: u :: u :: u :: u :: u :: u :: u :: u :: u :: u :: u :: u :: u :: u :: u :: u :: u :: u :: u :: u :: u :: u :: u :: u :: u :: u :: u :: u :: u :: u :: u :: u :: u :: u :: u :: u :: u :: u :: u :: u :: u :: u :: u :: u :: u :: u :: u :: u :: u :: u :: u :: u :: u :: u :: u :: u :: u :: u :: u :: u :: u :: u :: u :: u :: u :: u :: u :: u :: u :: []) ∧ Own H (F)) (fun K207 hK207 => ?_) (fun s H hq => ?_)
                        · refine w_blk fun K208 hK208 => ?_
                          refine w_loop gC hw206 (fun x s H => s = (u :: u :: u :: u :: u :: u :: u :: u :: u :: u :: u :: u :: u :: u :: u :: u :: u :: u :: u :: u :: u :: .ptr ip148 wp148 0 0 :: u :: u :: u :: u :: u :: u :: u :: u :: u :: u :: u :: u :: u :: u :: u :: u :: u :: u :: u :: u :: u :: u :: u :: u :: u :: u :: u :: u :: u :: u :: u :: u :: u :: u :: u :: u :: u :: u :: u :: u :: u :: u :: u :: u :: u :: u :: u :: u :: u :: u :: u :: u :: u :: u :: u :: u :: u :: u :: u :: u :: u :: u :: u :: u :: u :: u :: u :: u :: u :: u :: u :: u :: u :: u :: u :: u :: u :: u :: u :: u :: u :: u :: u :: u :: u :: u :: u :: u :: u :: u :: u :: u :: u :: u :: u :: u :: u :: u :: u :: u :: u :: u :: u :: u :: u :: u :: u :: u :: u :: u :: u :: u :: u :: u :: u :: u :: u :: u :: u :: u :: u :: u :: u :: u :: u :: u :: u :: u :: u :: u :: u :: u :: u :: u :: u :: u :: u :: u :: u :: u :: u :: u :: u :: u :: u :: u :: u :: u :: u :: u :: u :: u :: u :: u :: u :: u :: u :: u :: u :: u :: u :: u :: u :: u :: u :: u :: u :: u :: u :: u :: u :: u :: u :: u :: u :: u :: v22 :: .int .i64 (b15.Cases.length : Int) :: .int .i64 x :: u :: u :: u :: u :: u :: u :: u :: u :: u :: u :: u :: u :: u :: u :: u :: u :: u :: u :: u :: u :: u :: u :: u :: u :: u :: u :: u :: u :: u :: u :: u :: u :: u :: u :: u :: []) ∧ Own H (⟨v22, 4, b15.Cases.map e_Case⟩ :: ⟨v145, 4, b139.Cases.map e_Case⟩ :: ⟨v147, 3, b139.Line.map e_Slip⟩ :: ⟨.ptr ip148 wp148 0 0, 3, [.agg [.int .i64 b139.Now, v145, v147]]⟩ :: F)) ⟨rfl, (hS.sel 6 [0, 2, 3, 5] (by decide))⟩ (fun x204 y211 s H h hd210 hi K209 hK209 => ?_)
                          skip
                          try dsimp only at hi
                          obtain ⟨rfl, hS⟩ := hi
                          simp only [laws_FnVerdicts_l2] at h
                          refine w_seq fun K213 hK213 => ?_
                          refine w_reg gC ?_
                          try simp only [W, EE, Nat.reduceAdd]
                          refine seq_n hK213 ?_
                          refine w_seq fun K214 hK214 => ?_
                          refine w_if ?_
                          simp only [W]
                          refine w_cnd h (fun hc h => ?_) (fun hc h => ?_)
                          · refine w_skip ?_
                            refine seq_n hK214 ?_
                            refine w_seq fun K215 hK215 => ?_
                            refine w_blk fun K216 hK216 => ?_
                            refine w_seq fun K217 hK217 => ?_
                            refine w_reg gC ?_
                            try simp only [W, EE, Nat.reduceAdd]
                            refine w_ow 0 hS rfl rfl rfl rfl rfl h (fun b218 in219 wn219 on219 hb218 h en219 => ?_) qv22.ne
                            obtain ⟨kn219, hbn219, hen219⟩ := hS.elem 0 rfl en219 hb218
                            try simp only [W, EE, EN, reduceIte, Nat.reduceAdd, Nat.reduceLeDiff, hbn219, hen219]
                            refine w_alloc hS rfl rfl fun ip220 wp220 H hS => ?_
                            try simp only [W]
                            refine w_stv (a := .agg [.int .i64 b218.End, .bool b218.Asks, .int .i64 b218.Final, .int .i64 b218.Said]) (y' := .agg [.int .i64 b218.End, .bool b218.Asks, .int .i64 b218.Final, .int .i64 b218.Said]) 0 hS rfl rfl rfl rfl rfl rfl rfl rfl fun H hS => ?_
                            try simp only [W]
                            refine seq_n hK217 ?_
                            refine w_seq fun K222 hK222 => ?_
                            refine w_reg gC ?_
                            try simp only [W, EE, Nat.reduceAdd, Nat.reduceBEq, hS.var 4 rfl]
                            refine w_ow 2 hS rfl rfl rfl rfl rfl h (fun b223 in224 wn224 on224 hb223 h en224 => ?_) qv145.ne
                            obtain ⟨kn224, hbn224, hen224⟩ := hS.elem 2 rfl en224 hb223
                            try simp only [W, EE, EN, reduceIte, Nat.reduceAdd, Nat.reduceLeDiff, hbn224, hen224]
                            refine w_alloc hS rfl rfl fun ip225 wp225 H hS => ?_
                            try simp only [W]
                            refine w_stv (a := .agg [.int .i64 b223.End, .bool b223.Asks, .int .i64 b223.Final, .int .i64 b223.Said]) (y' := .agg [.int .i64 b223.End, .bool b223.Asks, .int .i64 b223.Final, .int .i64 b223.Said]) 0 hS rfl rfl rfl rfl rfl rfl rfl rfl fun H hS => ?_
                            try simp only [W]
                            refine seq_n hK222 ?_
                            refine w_seq fun K227 hK227 => ?_
                            obtain ⟨y229, h, g230⟩ := Option.bind_eq_some_iff.1 h
                            refine w_join gC (fun s H => ∃ x228 : Bool, y229 = (x228) ∧ s = (u :: u :: u :: u :: u :: u :: u :: u :: u :: u :: u :: u :: u :: u :: u :: u :: u :: u :: u :: u :: u :: .ptr ip148 wp148 0 0 :: u :: u :: u :: u :: u :: u :: u :: u :: u :: u :: u :: u :: u :: u :: u :: u :: u :: u :: u :: u :: u :: u :: u :: u :: u :: u :: u :: u :: u :: u :: u :: u :: u :: u :: u :: u :: u :: u :: u :: u :: u :: u :: u :: u :: u :: u :: u :: u :: u :: u :: u :: u :: u :: u :: u :: u :: u :: u :: u :: u :: u :: u :: u :: u :: u :: u :: u :: u :: u :: u :: u :: u :: u :: u :: u :: u :: u :: u :: u :: u :: u :: u :: u :: u :: u :: u :: u :: u :: u :: u :: u :: u :: u :: u :: u :: u :: u :: u :: u :: u :: u :: u :: u :: u :: u :: u :: u :: u :: u :: u :: u :: u :: u :: u :: u :: u :: u :: u :: u :: u :: u :: u :: u :: u :: u :: u :: u :: u :: u :: u :: u :: u :: u :: u :: u :: u :: u :: u :: u :: u :: u :: u :: u :: u :: u :: u :: u :: u :: u :: u :: u :: u :: u :: u :: u :: u :: u :: u :: u :: u :: u :: u :: u :: u :: u :: u :: u :: u :: u :: u :: u :: u :: u :: u :: u :: u :: v22 :: .int .i64 (b15.Cases.length : Int) :: .int .i64 x204 :: u :: u :: u :: u :: u :: u :: u :: u :: u :: u :: u :: u :: u :: u :: u :: u :: u :: u :: u :: u :: u :: u :: u :: u :: u :: u :: u :: u :: u :: u :: u :: u :: u :: .bool x228 :: u :: []) ∧ Own H (⟨v22, 4, b15.Cases.map e_Case⟩ :: ⟨v145, 4, b139.Cases.map e_Case⟩ :: ⟨v147, 3, b139.Line.map e_Slip⟩ :: ⟨.ptr ip148 wp148 0 0, 3, [.agg [.int .i64 b139.Now, v145, v147]]⟩ :: F)) (fun K231 hK231 => ?_) (fun s H hq => ?_)
                            · refine w_seq fun K232 hK232 => ?_
                              refine w_reg gC ?_
                              try simp only [W, EE, Nat.reduceAdd, Nat.reduceBEq, hS.var 1 rfl]
                              refine w_grdT h (fun hc h => ?_) (fun hc h => ?_)
                              · try simp only [W, EE, reduceIte, Nat.reduceAdd, Nat.reduceBEq, hS.var 1 rfl, hS.var 0 rfl, hc]
                                refine w_grdT h (fun hc h => ?_) (fun hc h => ?_)
                                · try simp only [W, hc]
                                  refine seq_n hK232 ?_
                                  refine w_killE (s' := (u :: u :: u :: u :: u :: u :: u :: u :: u :: u :: u :: u :: u :: u :: u :: u :: u :: u :: u :: u :: u :: .ptr ip148 wp148 0 0 :: u :: u :: u :: u :: u :: u :: u :: u :: u :: u :: u :: u :: u :: u :: u :: u :: u :: u :: u :: u :: u :: u :: u :: u :: u :: u :: u :: u :: u :: u :: u :: u :: u :: u :: u :: u :: u :: u :: u :: u :: u :: u :: u :: u :: u :: u :: u :: u :: u :: u :: u :: u :: u :: u :: u :: u :: u :: u :: u :: u :: u :: u :: u :: u :: u :: u :: u :: u :: u :: u :: u :: u :: u :: u :: u :: u :: u :: u :: u :: u :: u :: u :: u :: u :: u :: u :: u :: u :: u :: u :: u :: u :: u :: u :: u :: u :: u :: u :: u :: u :: u :: u :: u :: u :: u :: u :: u :: u :: u :: u :: u :: u :: u :: u :: u :: u :: u :: u :: u :: u :: u :: u :: u :: u :: u :: u :: u :: u :: u :: u :: u :: u :: u :: u :: u :: u :: u :: u :: u :: u :: u :: u :: u :: u :: u :: u :: u :: u :: u :: u :: u :: u :: u :: u :: u :: u :: u :: u :: u :: u :: u :: u :: u :: u :: u :: u :: u :: u :: u :: u :: u :: u :: u :: u :: u :: u :: v22 :: .int .i64 (b15.Cases.length : Int) :: .int .i64 x204 :: u :: u :: u :: u :: u :: u :: u :: u :: u :: u :: u :: u :: u :: u :: u :: u :: u :: u :: u :: u :: u :: u :: u :: u :: u :: u :: u :: u :: u :: u :: u :: u :: u :: .bool true :: u :: [])) rfl ?_
                                  exact cut_n hK231 ⟨_, (Option.some.inj h).symm, rfl, (hS.sel 6 [2, 3, 4, 5] (by decide))⟩
                                · try simp only [W, EE, Nat.reduceAdd, Nat.reduceBEq, hS.var 1 rfl, hc]
                                  refine w_grdT h (fun hc h => ?_) (fun hc h => ?_)
                                  · try simp only [W, EE, reduceIte, Nat.reduceAdd, Nat.reduceBEq, hS.var 0 rfl, hc]
                                    refine w_grdT h (fun hc h => ?_) (fun hc h => ?_)
                                    · try simp only [W, EE, reduceIte, Nat.reduceAdd, Nat.reduceBEq, Bool.false_eq_true, hS.var 1 rfl, hc]
                                      refine seq_n hK232 ?_
                                      refine w_killE (s' := (u :: u :: u :: u :: u :: u :: u :: u :: u :: u :: u :: u :: u :: u :: u :: u :: u :: u :: u :: u :: u :: .ptr ip148 wp148 0 0 :: u :: u :: u :: u :: u :: u :: u :: u :: u :: u :: u :: u :: u :: u :: u :: u :: u :: u :: u :: u :: u :: u :: u :: u :: u :: u :: u :: u :: u :: u :: u :: u :: u :: u :: u :: u :: u :: u :: u :: u :: u :: u :: u :: u :: u :: u :: u :: u :: u :: u :: u :: u :: u :: u :: u :: u :: u :: u :: u :: u :: u :: u :: u :: u :: u :: u :: u :: u :: u :: u :: u :: u :: u :: u :: u :: u :: u :: u :: u :: u :: u :: u :: u :: u :: u :: u :: u :: u :: u :: u :: u :: u :: u :: u :: u :: u :: u :: u :: u :: u :: u :: u :: u :: u :: u :: u :: u :: u :: u :: u :: u :: u :: u :: u :: u :: u :: u :: u :: u :: u :: u :: u :: u :: u :: u :: u :: u :: u :: u :: u :: u :: u :: u :: u :: u :: u :: u :: u :: u :: u :: u :: u :: u :: u :: u :: u :: u :: u :: u :: u :: u :: u :: u :: u :: u :: u :: u :: u :: u :: u :: u :: u :: u :: u :: u :: u :: u :: u :: u :: u :: u :: u :: u :: u :: u :: u :: v22 :: .int .i64 (b15.Cases.length : Int) :: .int .i64 x204 :: u :: u :: u :: u :: u :: u :: u :: u :: u :: u :: u :: u :: u :: u :: u :: u :: u :: u :: u :: u :: u :: u :: u :: u :: u :: u :: u :: u :: u :: u :: u :: u :: u :: .bool (!b218.Asks) :: u :: [])) rfl ?_
                                      exact cut_n hK231 ⟨_, (Option.some.inj h).symm, rfl, (hS.sel 6 [2, 3, 4, 5] (by decide))⟩
                                    · try simp only [W, reduceIte, Bool.false_eq_true, hc]
                                      refine seq_n hK232 ?_
                                      refine w_killE (s' := (u :: u :: u :: u :: u :: u :: u :: u :: u :: u :: u :: u :: u :: u :: u :: u :: u :: u :: u :: u :: u :: .ptr ip148 wp148 0 0 :: u :: u :: u :: u :: u :: u :: u :: u :: u :: u :: u :: u :: u :: u :: u :: u :: u :: u :: u :: u :: u :: u :: u :: u :: u :: u :: u :: u :: u :: u :: u :: u :: u :: u :: u :: u :: u :: u :: u :: u :: u :: u :: u :: u :: u :: u :: u :: u :: u :: u :: u :: u :: u :: u :: u :: u :: u :: u :: u :: u :: u :: u :: u :: u :: u :: u :: u :: u :: u :: u :: u :: u :: u :: u :: u :: u :: u :: u :: u :: u :: u :: u :: u :: u :: u :: u :: u :: u :: u :: u :: u :: u :: u :: u :: u :: u :: u :: u :: u :: u :: u :: u :: u :: u :: u :: u :: u :: u :: u :: u :: u :: u :: u :: u :: u :: u :: u :: u :: u :: u :: u :: u :: u :: u :: u :: u :: u :: u :: u :: u :: u :: u :: u :: u :: u :: u :: u :: u :: u :: u :: u :: u :: u :: u :: u :: u :: u :: u :: u :: u :: u :: u :: u :: u :: u :: u :: u :: u :: u :: u :: u :: u :: u :: u :: u :: u :: u :: u :: u :: u :: u :: u :: u :: u :: u :: u :: v22 :: .int .i64 (b15.Cases.length : Int) :: .int .i64 x204 :: u :: u :: u :: u :: u :: u :: u :: u :: u :: u :: u :: u :: u :: u :: u :: u :: u :: u :: u :: u :: u :: u :: u :: u :: u :: u :: u :: u :: u :: u :: u :: u :: u :: .bool false :: u :: [])) rfl ?_
                                      exact cut_n hK231 ⟨_, (Option.some.inj h).symm, rfl, (hS.sel 6 [2, 3, 4, 5] (by decide))⟩
                                  · try simp only [W, reduceIte, Bool.false_eq_true, hc]
                                    refine seq_n hK232 ?_
                                    refine w_killE (s' := (u :: u :: u :: u :: u :: u :: u :: u :: u :: u :: u :: u :: u :: u :: u :: u :: u :: u :: u :: u :: u :: .ptr ip148 wp148 0 0 :: u :: u :: u :: u :: u :: u :: u :: u :: u :: u :: u :: u :: u :: u :: u :: u :: u :: u :: u :: u :: u :: u :: u :: u :: u :: u :: u :: u :: u :: u :: u :: u :: u :: u :: u :: u :: u :: u :: u :: u :: u :: u :: u :: u :: u :: u :: u :: u :: u :: u :: u :: u :: u :: u :: u :: u :: u :: u :: u :: u :: u :: u :: u :: u :: u :: u :: u :: u :: u :: u :: u :: u :: u :: u :: u :: u :: u :: u :: u :: u :: u :: u :: u :: u :: u :: u :: u :: u :: u :: u :: u :: u :: u :: u :: u :: u :: u :: u :: u :: u :: u :: u :: u :: u :: u :: u :: u :: u :: u :: u :: u :: u :: u :: u :: u :: u :: u :: u :: u :: u :: u :: u :: u :: u :: u :: u :: u :: u :: u :: u :: u :: u :: u :: u :: u :: u :: u :: u :: u :: u :: u :: u :: u :: u :: u :: u :: u :: u :: u :: u :: u :: u :: u :: u :: u :: u :: u :: u :: u :: u :: u :: u :: u :: u :: u :: u :: u :: u :: u :: u :: u :: u :: u :: u :: u :: u :: v22 :: .int .i64 (b15.Cases.length : Int) :: .int .i64 x204 :: u :: u :: u :: u :: u :: u :: u :: u :: u :: u :: u :: u :: u :: u :: u :: u :: u :: u :: u :: u :: u :: u :: u :: u :: u :: u :: u :: u :: u :: u :: u :: u :: u :: .bool false :: u :: [])) rfl ?_
                                    exact cut_n hK231 ⟨_, (Option.some.inj h).symm, rfl, (hS.sel 6 [2, 3, 4, 5] (by decide))⟩
                              · try simp only [W, EE, Nat.reduceAdd, Nat.reduceBEq, hS.var 1 rfl, hc]
                                refine w_grdT h (fun hc h => ?_) (fun hc h => ?_)
                                · try simp only [W, EE, reduceIte, Nat.reduceAdd, Nat.reduceBEq, hS.var 0 rfl, hc]
                                  refine w_grdT h (fun hc h => ?_) (fun hc h => ?_)
                                  · try simp only [W, EE, reduceIte, Nat.reduceAdd, Nat.reduceBEq, Bool.false_eq_true, hS.var 1 rfl, hc]
                                    refine seq_n hK232 ?_
                                    refine w_killE (s' := (u :: u :: u :: u :: u :: u :: u :: u :: u :: u :: u :: u :: u :: u :: u :: u :: u :: u :: u :: u :: u :: .ptr ip148 wp148 0 0 :: u :: u :: u :: u :: u :: u :: u :: u :: u :: u :: u :: u :: u :: u :: u :: u :: u :: u :: u :: u :: u :: u :: u :: u :: u :: u :: u :: u :: u :: u :: u :: u :: u :: u :: u :: u :: u :: u :: u :: u :: u :: u :: u :: u :: u :: u :: u :: u :: u :: u :: u :: u :: u :: u :: u :: u :: u :: u :: u :: u :: u :: u :: u :: u :: u :: u :: u :: u :: u :: u :: u :: u :: u :: u :: u :: u :: u :: u :: u :: u :: u :: u :: u :: u :: u :: u :: u :: u :: u :: u :: u :: u :: u :: u :: u :: u :: u :: u :: u :: u :: u :: u :: u :: u :: u :: u :: u :: u :: u :: u :: u :: u :: u :: u :: u :: u :: u :: u :: u :: u :: u :: u :: u :: u :: u :: u :: u :: u :: u :: u :: u :: u :: u :: u :: u :: u :: u :: u :: u :: u :: u :: u :: u :: u :: u :: u :: u :: u :: u :: u :: u :: u :: u :: u :: u :: u :: u :: u :: u :: u :: u :: u :: u :: u :: u :: u :: u :: u :: u :: u :: u :: u :: u :: u :: u :: u :: v22 :: .int .i64 (b15.Cases.length : Int) :: .int .i64 x204 :: u :: u :: u :: u :: u :: u :: u :: u :: u :: u :: u :: u :: u :: u :: u :: u :: u :: u :: u :: u :: u :: u :: u :: u :: u :: u :: u :: u :: u :: u :: u :: u :: u :: .bool (!b218.Asks) :: u :: [])) rfl ?_
                                    exact cut_n hK231 ⟨_, (Option.some.inj h).symm, rfl, (hS.sel 6 [2, 3, 4, 5] (by decide))⟩
                                  · try simp only [W, reduceIte, Bool.false_eq_true, hc]
                                    refine seq_n hK232 ?_
                                    refine w_killE (s' := (u :: u :: u :: u :: u :: u :: u :: u :: u :: u :: u :: u :: u :: u :: u :: u :: u :: u :: u :: u :: u :: .ptr ip148 wp148 0 0 :: u :: u :: u :: u :: u :: u :: u :: u :: u :: u :: u :: u :: u :: u :: u :: u :: u :: u :: u :: u :: u :: u :: u :: u :: u :: u :: u :: u :: u :: u :: u :: u :: u :: u :: u :: u :: u :: u :: u :: u :: u :: u :: u :: u :: u :: u :: u :: u :: u :: u :: u :: u :: u :: u :: u :: u :: u :: u :: u :: u :: u :: u :: u :: u :: u :: u :: u :: u :: u :: u :: u :: u :: u :: u :: u :: u :: u :: u :: u :: u :: u :: u :: u :: u :: u :: u :: u :: u :: u :: u :: u :: u :: u :: u :: u :: u :: u :: u :: u :: u :: u :: u :: u :: u :: u :: u :: u :: u :: u :: u :: u :: u :: u :: u :: u :: u :: u :: u :: u :: u :: u :: u :: u :: u :: u :: u :: u :: u :: u :: u :: u :: u :: u :: u :: u :: u :: u :: u :: u :: u :: u :: u :: u :: u :: u :: u :: u :: u :: u :: u :: u :: u :: u :: u :: u :: u :: u :: u :: u :: u :: u :: u :: u :: u :: u :: u :: u :: u :: u :: u :: u :: u :: u :: u :: u :: u :: v22 :: .int .i64 (b15.Cases.length : Int) :: .int .i64 x204 :: u :: u :: u :: u :: u :: u :: u :: u :: u :: u :: u :: u :: u :: u :: u :: u :: u :: u :: u :: u :: u :: u :: u :: u :: u :: u :: u :: u :: u :: u :: u :: u :: u :: .bool false :: u :: [])) rfl ?_
                                    exact cut_n hK231 ⟨_, (Option.some.inj h).symm, rfl, (hS.sel 6 [2, 3, 4, 5] (by decide))⟩
                                · try simp only [W, reduceIte, Bool.false_eq_true, hc]
                                  refine seq_n hK232 ?_
                                  refine w_killE (s' := (u :: u :: u :: u :: u :: u :: u :: u :: u :: u :: u :: u :: u :: u :: u :: u :: u :: u :: u :: u :: u :: .ptr ip148 wp148 0 0 :: u :: u :: u :: u :: u :: u :: u :: u :: u :: u :: u :: u :: u :: u :: u :: u :: u :: u :: u :: u :: u :: u :: u :: u :: u :: u :: u :: u :: u :: u :: u :: u :: u :: u :: u :: u :: u :: u :: u :: u :: u :: u :: u :: u :: u :: u :: u :: u :: u :: u :: u :: u :: u :: u :: u :: u :: u :: u :: u :: u :: u :: u :: u :: u :: u :: u :: u :: u :: u :: u :: u :: u :: u :: u :: u :: u :: u :: u :: u :: u :: u :: u :: u :: u :: u :: u :: u :: u :: u :: u :: u :: u :: u :: u :: u :: u :: u :: u :: u :: u :: u :: u :: u :: u :: u :: u :: u :: u :: u :: u :: u :: u :: u :: u :: u :: u :: u :: u :: u :: u :: u :: u :: u :: u :: u :: u :: u :: u :: u :: u :: u :: u :: u :: u :: u :: u :: u :: u :: u :: u :: u :: u :: u :: u :: u :: u :: u :: u :: u :: u :: u :: u :: u :: u :: u :: u :: u :: u :: u :: u :: u :: u :: u :: u :: u :: u :: u :: u :: u :: u :: u :: u :: u :: u :: u :: u :: v22 :: .int .i64 (b15.Cases.length : Int) :: .int .i64 x204 :: u :: u :: u :: u :: u :: u :: u :: u :: u :: u :: u :: u :: u :: u :: u :: u :: u :: u :: u :: u :: u :: u :: u :: u :: u :: u :: u :: u :: u :: u :: u :: u :: u :: .bool false :: u :: [])) rfl ?_
                                  exact cut_n hK231 ⟨_, (Option.some.inj h).symm, rfl, (hS.sel 6 [2, 3, 4, 5] (by decide))⟩
                            · obtain ⟨x228, ey, rfl, hS⟩ := hq; obtain rfl := ey.symm
                              replace h := g230
                              try dsimp only at h
                              refine seq_n hK227 ?_
                              refine w_if ?_
                              simp only [W]
                              refine w_cnd h (fun hc h => ?_) (fun hc h => ?_)
                              · refine w_seq fun K233 hK233 => ?_
                                refine w_reg gC ?_
                                try simp only [W, Nat.reduceAdd]
                                refine seq_n hK233 ?_
                                refine w_ret ?_
                                refine blk_r hK216 ?_
                                refine seq_r hK215 ?_
                                try obtain rfl := Option.some.inj h
                                obtain rfl := hd210 _ rfl
                                have h : (some (LR.done (LR.done false)) : Option (LR Unit (LR Unit (Bool)))) = some (LR.done (LR.done false)) := rfl
                                refine lp_r hK209 ?_
                                refine blk_r hK208 ?_
                                try obtain rfl := Option.some.inj h
                                obtain rfl := Option.some.inj g212
                                have h : (some (LR.done false) : Option (LR Unit (Bool))) = some (LR.done false) := rfl
                                refine cut_r hK207 ?_
                                refine seq_r hK60 ?_
                                try obtain rfl := Option.some.inj h
                                obtain rfl := Option.some.inj g58
                                have h : (some false : Option (Bool)) = some false := rfl
                                refine cut_r hK59 ?_
                                refine seq_r hK55 ?_
                                refine fin_r1 hK0 rfl ?_
                                try obtain rfl := Option.some.inj h
                                exact hP _ (hS.sel 4 [] (by decide))
                              · refine w_skip ?_
                                refine blk_n0 hK216 ?_
                                refine seq_n hK215 ?_
                                refine w_reg gC ?_
                                try simp only [W, EE, Nat.reduceAdd]
                                exact lp_n hK209 h ⟨rfl, hS⟩
                          · refine w_exit ?_
                            refine seq_x hK214 ?_
                            try obtain rfl := Option.some.inj h
                            obtain rfl := hd210 _ rfl
                            have h : (some (LR.next ()) : Option (LR Unit (LR Unit (Bool)))) = some (LR.next ()) := rfl
                            refine lp_x hK209 ?_
                            refine blk_e hK208 ?_
                            exact cut_n hK207 ⟨(Option.some.inj h).symm, rfl, (hS.sel 4 [] (by decide))⟩
                        · obtain ⟨rfl, rfl, hS⟩ := hq
                          replace h := g212
                          try dsimp only at h
                          refine seq_n hK60 ?_
                          refine w_killE (s' := (u :: u :: u :: u :: u :: u :: u :: u :: u :: u :: u :: u :: u :: u :: u :: u :: u :: u :: u :: u :: u :: u :: u :: u :: u :: u :: u :: u :: u :: u :: u :: u :: u :: u :: u :: u :: u :: u :: u :: u :: u :: u :: u :: u :: u :: u :: u :: u :: u :: u :: u :: u :: u :: u :: u :: u :: u :: u :: u :: u :: u :: u :: u :: u :: u :: u :: u :: u :: u :: u :: u :: u :: u :: u :: u :: u :: u :: u :: u :: u :: u :: u :: u :: u :: u :: u :: u :: u :: u :: u :: u :: u :: u :: u :: u :: u :: u :: u :: u :: u :: u :: u :: u :: u :: u :: u :: u :: u :: u :: u :: u :: u :: u :: u :: u :: u :: u :: u :: u :: u :: u :: u :: u :: u :: u :: u :: u :: u :: u :: u :: u :: u :: u :: u :: u :: u :: u :: u :: u :: u :: u :: u :: u :: u :: u :: u :: u :: u :: u :: u :: u :: u :: u :: u :: u :: u :: u :: u :: u :: u :: u :: u :: u :: u :: u :: u :: u :: u :: u :: u :: u :: u :: u :: u :: u :: u :: u :: u :: u :: u :: u :: u :: u :: u :: u :: u :: u :: u :: u :: u :: u :: u :: u :: u :: u :: u :: u :: u :: u :: u :: u :: u :: u :: u :: u :: u :: u :: u :: u :: u :: u :: u :: u :: u :: u :: u :: u :: u :: u :: u :: u :: u :: u :: u :: u :: u :: u :: u :: u :: u :: u :: u :: u :: u :: u :: u :: [])) rfl ?_
                          exact cut_n hK59 ⟨(Option.some.inj h).symm, rfl, hS⟩
          · refine w_skip ?_
            refine seq_n hK60 ?_
            refine w_killE (s' := (u :: u :: u :: u :: u :: u :: u :: u :: u :: u :: u :: u :: u :: u :: u :: u :: u :: u :: u :: u :: u :: u :: u :: u :: u :: u :: u :: u :: u :: u :: u :: u :: u :: u :: u :: u :: u :: u :: u :: u :: u :: u :: u :: u :: u :: u :: u :: u :: u :: u :: u :: u :: u :: u :: u :: u :: u :: u :: u :: u :: u :: u :: u :: u :: u :: u :: u :: u :: u :: u :: u :: u :: u :: u :: u :: u :: u :: u :: u :: u :: u :: u :: u :: u :: u :: u :: u :: u :: u :: u :: u :: u :: u :: u :: u :: u :: u :: u :: u :: u :: u :: u :: u :: u :: u :: u :: u :: u :: u :: u :: u :: u :: u :: u :: u :: u :: u :: u :: u :: u :: u :: u :: u :: u :: u :: u :: u :: u :: u :: u :: u :: u :: u :: u :: u :: u :: u :: u :: u :: u :: u :: u :: u :: u :: u :: u :: u :: u :: u :: u :: u :: u :: u :: u :: u :: u :: u :: u :: u :: u :: u :: u :: u :: u :: u :: u :: u :: u :: u :: u :: u :: u :: u :: u :: u :: u :: u :: u :: u :: u :: u :: u :: u :: u :: u :: u :: u :: u :: u :: u :: u :: u :: u :: u :: u :: u :: u :: u :: u :: u :: u :: u :: u :: u :: u :: u :: u :: u :: u :: u :: u :: u :: u :: u :: u :: u :: u :: u :: u :: u :: u :: u :: u :: u :: u :: u :: u :: u :: u :: u :: u :: u :: u :: u :: u :: u :: [])) rfl ?_
            exact cut_n hK59 ⟨(Option.some.inj h).symm, rfl, (hS.sel 5 [] (by decide))⟩
        · obtain ⟨rfl, rfl, hS⟩ := hq
          replace h := g58
          try dsimp only at h
          refine seq_n hK55 ?_
          refine w_seq fun K242 hK242 => ?_
          refine w_reg gC ?_
          try simp only [W, Nat.reduceAdd]
          refine seq_n hK242 ?_
          refine w_ret ?_
          refine fin_r1 hK0 rfl ?_
          try obtain rfl := Option.some.inj h
          exact hP _ hS
end Go.VxW
