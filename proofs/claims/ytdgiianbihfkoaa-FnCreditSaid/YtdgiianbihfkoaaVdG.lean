import Derived.Test.YtdgiianbihfkoaaVdG1
import Derived.Test.YtdgiianbihfkoaaProg
import Derived.Test.YtdgiianbihfkoaaVaE
import Derived.KernelRfl
open Go Go.VS
set_option maxRecDepth 8000
set_option maxHeartbeats 4000000
namespace Go.VxW
theorem impl_areQuanta_w {a0 : List Int} {r : (Bool)} (h : impl_areQuanta a0 = some r) {F : List It} {H : Heap} (hS : Own H (F)) {P : AV → Heap → Prop} (hP : ∀ H', Own H' (F) → P (.bool r) H') : ACall C 248 [.fz (a0.map (AV.int .i64))] H P := by
  refine acall_of gC (res := [.tmp 2]) (n := 11) rfl rfl rfl rfl fun K0 hK0 => ?_
  simp only [W, Nat.reduceSub, Nat.reduceAdd, List.replicate]
  unfold impl_areQuanta at h
  refine w_seq fun K1 hK1 => ?_
  refine w_reg gC ?_
  try simp only [W, Nat.reduceAdd]
  refine seq_n hK1 ?_
  refine w_seq fun K2 hK2 => ?_
  refine w_reg gC ?_
  try simp only [W, EE, Nat.reduceAdd]
  refine w_call h fun b3 hb3 h => ?_
  refine impl_in_w hb3 hS fun H hS => ?_
  try simp only [W]
  refine w_grdT h (fun hc h => ?_) (fun hc h => ?_)
  · try simp only [W, hc]
    refine w_call h fun b4 hb4 h => ?_
    refine slices_ContainsFunc_int_w hb4 (fun h _ n hL _ hS _ hP => impl_areQuanta_1_w h hS hP) hS fun H hS => ?_
    try simp only [W, reduceIte]
    refine seq_n hK2 ?_
    refine w_ret ?_
    refine fin_r1 hK0 rfl ?_
    try obtain rfl := Option.some.inj h
    exact hP _ hS
  · try simp only [W, hc]
    refine seq_n hK2 ?_
    refine w_ret ?_
    refine fin_r1 hK0 rfl ?_
    try obtain rfl := Option.some.inj h
    exact hP _ hS
theorem impl_isPacket_w {a0 : Int} {r : (Bool)} (h : impl_isPacket a0 = some r) {F : List It} {H : Heap} (hS : Own H (F)) {P : AV → Heap → Prop} (hP : ∀ H', Own H' (F) → P (.bool r) H') : ACall C 250 [.int .i64 a0] H P := by
  refine acall_of gC (res := [.tmp 2]) (n := 5) rfl rfl rfl rfl fun K0 hK0 => ?_
  simp only [W, Nat.reduceSub, Nat.reduceAdd, List.replicate]
  unfold impl_isPacket at h
  refine w_seq fun K1 hK1 => ?_
  refine w_reg gC ?_
  try simp only [W, Nat.reduceAdd]
  refine seq_n hK1 ?_
  refine w_seq fun K2 hK2 => ?_
  refine w_reg gC ?_
  try simp only [W, Nat.reduceAdd]
  refine w_call h fun b3 hb3 h => ?_
  refine impl_in_w hb3 hS fun H hS => ?_
  try simp only [W]
  refine seq_n hK2 ?_
  refine w_ret ?_
  refine fin_r1 hK0 rfl ?_
  try obtain rfl := Option.some.inj h
  exact hP _ hS
theorem impl_GoodTurns_1_w {a0 : Int} {r : (Bool)} (h : impl_GoodTurns_1 a0 = some r) {F : List It} {H : Heap} (hS : Own H (F)) {P : AV → Heap → Prop} (hP : ∀ H', Own H' (F) → P (.bool r) H') : ACall C 249 [.int .i64 a0] H P := by
  refine acall_of gC (res := [.tmp 2]) (n := 6) rfl rfl rfl rfl fun K0 hK0 => ?_
  simp only [W, Nat.reduceSub, Nat.reduceAdd, List.replicate]
  unfold impl_GoodTurns_1 at h
  refine w_seq fun K1 hK1 => ?_
  refine w_reg gC ?_
  try simp only [W, Nat.reduceAdd]
  refine seq_n hK1 ?_
  refine w_seq fun K2 hK2 => ?_
  refine w_reg gC ?_
  try simp only [W, Nat.reduceAdd]
  refine w_call h fun b3 hb3 h => ?_
  refine impl_isPacket_w hb3 hS fun H hS => ?_
  try simp only [W]
  refine seq_n hK2 ?_
  refine w_ret ?_
  refine fin_r1 hK0 rfl ?_
  try obtain rfl := Option.some.inj h
  exact hP _ hS
theorem impl_GoodTurns_w {a0 : Turns} {r : (Bool)} (h : impl_GoodTurns a0 = some r) {F : List It} {H : Heap} (hS : Own H (F)) {P : AV → Heap → Prop} (hP : ∀ H', Own H' (F) → P (.bool r) H') : ACall C 133 [.agg [.fz (a0.Quanta.map (AV.int .i64)), .fz (a0.Queues.map (fzl (AV.int .i64))), .fz (a0.Credit.map (AV.int .i64)), .fz (a0.Sent.map (AV.int .i64)), .int .i64 a0.At]] H P := by
  refine acall_of gC (res := [.tmp 2]) (n := 87) rfl rfl rfl rfl fun K0 hK0 => ?_
  simp only [W, Nat.reduceSub, Nat.reduceAdd, List.replicate]
  unfold impl_GoodTurns at h
  refine w_seq fun K1 hK1 => ?_
  refine w_reg gC ?_
  try simp only [W, Nat.reduceAdd]
  refine w_box hS rfl rfl rfl rfl fun ip2 wp2 H hS => ?_
  try simp only [W]
  refine seq_n hK1 ?_
  refine w_seq fun K4 hK4 => ?_
  refine w_reg gC ?_
  try simp only [W, EE, Nat.reduceAdd, Nat.reduceBEq, hS.var 0 rfl]
  refine seq_n hK4 ?_
  refine w_seq fun K5 hK5 => ?_
  refine w_seq fun K6 hK6 => ?_
  obtain ⟨y8, h, g9⟩ := Option.bind_eq_some_iff.1 h
  refine w_join gC (fun s H => ∃ x7 : Bool, y8 = (x7) ∧ s = (u :: .ptr ip2 wp2 0 0 :: u :: u :: u :: u :: u :: u :: u :: u :: u :: u :: u :: u :: u :: u :: u :: u :: u :: u :: u :: u :: u :: u :: u :: u :: u :: u :: u :: u :: u :: u :: u :: u :: u :: u :: u :: u :: u :: u :: u :: .bool x7 :: u :: u :: u :: u :: u :: u :: u :: u :: u :: u :: u :: u :: u :: u :: u :: u :: u :: u :: u :: u :: u :: u :: u :: u :: u :: u :: u :: u :: u :: u :: u :: u :: u :: u :: u :: u :: u :: u :: u :: u :: u :: u :: u :: u :: u :: []) ∧ Own H (⟨.ptr ip2 wp2 0 0, 5, [.agg [.fz (a0.Quanta.map (AV.int .i64)), .fz (a0.Queues.map (fzl (AV.int .i64))), .fz (a0.Credit.map (AV.int .i64)), .fz (a0.Sent.map (AV.int .i64)), .int .i64 a0.At]]⟩ :: F)) (fun K10 hK10 => ?_) (fun s H hq => ?_)
  · refine w_seq fun K11 hK11 => ?_
    refine w_reg gC ?_
    try simp only [W, EE, Nat.reduceAdd, Nat.reduceBEq, hS.var 0 rfl]
    refine w_call h fun b12 hb12 h => ?_
    refine impl_areQuanta_w hb12 hS fun H hS => ?_
    try simp only [W]
    refine w_grdT h (fun hc h => ?_) (fun hc h => ?_)
    · try simp only [W, hc]
      refine seq_n hK11 ?_
      refine w_killE (s' := (u :: .ptr ip2 wp2 0 0 :: u :: u :: u :: u :: u :: u :: u :: u :: u :: u :: u :: u :: u :: u :: u :: u :: u :: u :: u :: u :: u :: u :: u :: u :: u :: u :: u :: u :: u :: u :: u :: u :: u :: u :: u :: u :: u :: u :: u :: .bool true :: u :: u :: u :: u :: u :: u :: u :: u :: u :: u :: u :: u :: u :: u :: u :: u :: u :: u :: u :: u :: u :: u :: u :: u :: u :: u :: u :: u :: u :: u :: u :: u :: u :: u :: u :: u :: u :: u :: u :: u :: u :: u :: u :: u :: u :: [])) rfl ?_
      exact cut_n hK10 ⟨_, (Option.some.inj h).symm, rfl, hS⟩
    · try simp only [W, EE, reduceIte, Nat.reduceAdd, Nat.reduceBEq, Bool.false_eq_true, hS.var 0 rfl, hc]
      refine w_grdT h (fun hc h => ?_) (fun hc h => ?_)
      · try simp only [W, hc]
        refine seq_n hK11 ?_
        refine w_killE (s' := (u :: .ptr ip2 wp2 0 0 :: u :: u :: u :: u :: u :: u :: u :: u :: u :: u :: u :: u :: u :: u :: u :: u :: u :: u :: u :: u :: u :: u :: u :: u :: u :: u :: u :: u :: u :: u :: u :: u :: u :: u :: u :: u :: u :: u :: u :: .bool true :: u :: u :: u :: u :: u :: u :: u :: u :: u :: u :: u :: u :: u :: u :: u :: u :: u :: u :: u :: u :: u :: u :: u :: u :: u :: u :: u :: u :: u :: u :: u :: u :: u :: u :: u :: u :: u :: u :: u :: u :: u :: u :: u :: u :: u :: [])) rfl ?_
        exact cut_n hK10 ⟨_, (Option.some.inj h).symm, rfl, hS⟩
      · try simp only [W, EE, reduceIte, Nat.reduceAdd, Nat.reduceBEq, Bool.false_eq_true, hS.var 0 rfl, hc]
        refine w_grdT h (fun hc h => ?_) (fun hc h => ?_)
        · try simp only [W, hc]
          refine seq_n hK11 ?_
          refine w_killE (s' := (u :: .ptr ip2 wp2 0 0 :: u :: u :: u :: u :: u :: u :: u :: u :: u :: u :: u :: u :: u :: u :: u :: u :: u :: u :: u :: u :: u :: u :: u :: u :: u :: u :: u :: u :: u :: u :: u :: u :: u :: u :: u :: u :: u :: u :: u :: .bool true :: u :: u :: u :: u :: u :: u :: u :: u :: u :: u :: u :: u :: u :: u :: u :: u :: u :: u :: u :: u :: u :: u :: u :: u :: u :: u :: u :: u :: u :: u :: u :: u :: u :: u :: u :: u :: u :: u :: u :: u :: u :: u :: u :: u :: u :: [])) rfl ?_
          exact cut_n hK10 ⟨_, (Option.some.inj h).symm, rfl, hS⟩
        · try simp only [W, EE, reduceIte, Nat.reduceAdd, Nat.reduceBEq, Bool.false_eq_true, hS.var 0 rfl, hc]
          refine w_grdT h (fun hc h => ?_) (fun hc h => ?_)
          · try simp only [W, hc]
            refine seq_n hK11 ?_
            refine w_killE (s' := (u :: .ptr ip2 wp2 0 0 :: u :: u :: u :: u :: u :: u :: u :: u :: u :: u :: u :: u :: u :: u :: u :: u :: u :: u :: u :: u :: u :: u :: u :: u :: u :: u :: u :: u :: u :: u :: u :: u :: u :: u :: u :: u :: u :: u :: u :: .bool true :: u :: u :: u :: u :: u :: u :: u :: u :: u :: u :: u :: u :: u :: u :: u :: u :: u :: u :: u :: u :: u :: u :: u :: u :: u :: u :: u :: u :: u :: u :: u :: u :: u :: u :: u :: u :: u :: u :: u :: u :: u :: u :: u :: u :: u :: [])) rfl ?_
            exact cut_n hK10 ⟨_, (Option.some.inj h).symm, rfl, hS⟩
          · try simp only [W, EE, Nat.reduceAdd, Nat.reduceBEq, hS.var 0 rfl, hc]
            refine w_call h fun b13 hb13 h => ?_
            refine impl_in_w hb13 hS fun H hS => ?_
            try simp only [W, reduceIte, Bool.false_eq_true]
            refine seq_n hK11 ?_
            refine w_killE (s' := (u :: .ptr ip2 wp2 0 0 :: u :: u :: u :: u :: u :: u :: u :: u :: u :: u :: u :: u :: u :: u :: u :: u :: u :: u :: u :: u :: u :: u :: u :: u :: u :: u :: u :: u :: u :: u :: u :: u :: u :: u :: u :: u :: u :: u :: u :: .bool (!b13) :: u :: u :: u :: u :: u :: u :: u :: u :: u :: u :: u :: u :: u :: u :: u :: u :: u :: u :: u :: u :: u :: u :: u :: u :: u :: u :: u :: u :: u :: u :: u :: u :: u :: u :: u :: u :: u :: u :: u :: u :: u :: u :: u :: u :: u :: [])) rfl ?_
            exact cut_n hK10 ⟨_, (Option.some.inj h).symm, rfl, hS⟩
  · obtain ⟨x7, ey, rfl, hS⟩ := hq; obtain rfl := ey.symm
    replace h := g9
    try dsimp only at h
    refine seq_n hK6 ?_
    refine w_if ?_
    simp only [W]
    refine w_cnd h (fun hc h => ?_) (fun hc h => ?_)
    · refine w_seq fun K14 hK14 => ?_
      refine w_reg gC ?_
      try simp only [W, Nat.reduceAdd]
      refine seq_n hK14 ?_
      refine w_ret ?_
      refine seq_r hK5 ?_
      refine fin_r1 hK0 rfl ?_
      try obtain rfl := Option.some.inj h
      exact hP _ (hS.sel 1 [] (by decide))
    · refine w_skip ?_
      refine seq_n hK5 ?_
      refine w_seq fun K15 hK15 => ?_
      refine w_seq fun K16 hK16 => ?_
      refine w_reg gC ?_
      try simp only [W, EE, Nat.reduceAdd, Nat.reduceBEq, hS.var 0 rfl]
      refine seq_n hK16 ?_
      obtain ⟨y18, hw19, g25⟩ := Option.bind_eq_some_iff.1 h
      refine w_join gC (fun s H => y18 = LR.next () ∧ s = (u :: u :: u :: u :: u :: u :: u :: u :: u :: u :: u :: u :: u :: u :: u :: u :: u :: u :: u :: u :: u :: u :: u :: u :: u :: u :: u :: u :: u :: u :: u :: u :: u :: u :: u :: u :: u :: u :: u :: u :: u :: u :: u :: u :: u :: u :: u :: u :: u :: u :: u :: u :: u :: u :: u :: u :: u :: u :: u :: u :: u :: u :: u :: u :: u :: u :: u :: u :: u :: u :: u :: u :: u :: u :: u :: u :: u :: u :: u :: u :: u :: u :: u :: u :: u :: u :: u :: []) ∧ Own H (F)) (fun K20 hK20 => ?_) (fun s H hq => ?_)
      · refine w_blk fun K21 hK21 => ?_
        refine w_loop gC hw19 (fun x s H => s = (u :: .ptr ip2 wp2 0 0 :: u :: u :: u :: u :: u :: u :: u :: u :: u :: u :: u :: u :: u :: u :: u :: u :: u :: u :: u :: u :: u :: u :: u :: u :: u :: u :: u :: u :: u :: u :: u :: u :: u :: u :: u :: u :: u :: u :: u :: u :: u :: .fz (a0.Queues.map (fzl (AV.int .i64))) :: .int .i64 (a0.Queues.length : Int) :: .int .i64 x :: u :: u :: u :: u :: u :: u :: u :: u :: u :: u :: u :: u :: u :: u :: u :: u :: u :: u :: u :: u :: u :: u :: u :: u :: u :: u :: u :: u :: u :: u :: u :: u :: u :: u :: u :: u :: u :: u :: u :: u :: u :: []) ∧ Own H (⟨.ptr ip2 wp2 0 0, 5, [.agg [.fz (a0.Quanta.map (AV.int .i64)), .fz (a0.Queues.map (fzl (AV.int .i64))), .fz (a0.Credit.map (AV.int .i64)), .fz (a0.Sent.map (AV.int .i64)), .int .i64 a0.At]]⟩ :: F)) ⟨rfl, hS⟩ (fun x17 y24 s H h hd23 hi K22 hK22 => ?_)
        skip
        try dsimp only at hi
        obtain ⟨rfl, hS⟩ := hi
        simp only [impl_GoodTurns_l0] at h
        refine w_seq fun K26 hK26 => ?_
        refine w_reg gC ?_
        try simp only [W, EE, Nat.reduceAdd]
        refine seq_n hK26 ?_
        refine w_seq fun K27 hK27 => ?_
        refine w_if ?_
        simp only [W]
        refine w_cnd h (fun hc h => ?_) (fun hc h => ?_)
        · refine w_skip ?_
          refine seq_n hK27 ?_
          refine w_seq fun K28 hK28 => ?_
          refine w_blk fun K29 hK29 => ?_
          refine w_seq fun K30 hK30 => ?_
          refine w_reg gC ?_
          try simp only [W, EE, Nat.reduceAdd]
          refine w_fz rfl rfl rfl (fun _ => rfl) h fun b31 hb31 h => ?_
          try simp only [W, EE, EN]
          refine seq_n hK30 ?_
          refine w_seq fun K32 hK32 => ?_
          refine w_seq fun K33 hK33 => ?_
          obtain ⟨y35, h, g36⟩ := Option.bind_eq_some_iff.1 h
          refine w_join gC (fun s H => ∃ x34 : Bool, y35 = (x34) ∧ s = (u :: .ptr ip2 wp2 0 0 :: u :: u :: .int .i64 x17 :: .fz (b31.map (AV.int .i64)) :: u :: u :: u :: u :: u :: u :: u :: u :: u :: u :: u :: u :: u :: u :: u :: u :: u :: u :: u :: u :: u :: u :: u :: u :: u :: u :: u :: u :: u :: u :: u :: u :: u :: u :: u :: u :: u :: .fz (a0.Queues.map (fzl (AV.int .i64))) :: .int .i64 (a0.Queues.length : Int) :: .int .i64 x17 :: u :: u :: u :: u :: u :: u :: u :: u :: u :: u :: .bool x34 :: u :: u :: u :: u :: u :: u :: u :: u :: u :: u :: u :: u :: u :: u :: u :: u :: u :: u :: u :: u :: u :: u :: u :: u :: u :: u :: u :: u :: u :: u :: []) ∧ Own H (⟨.ptr ip2 wp2 0 0, 5, [.agg [.fz (a0.Quanta.map (AV.int .i64)), .fz (a0.Queues.map (fzl (AV.int .i64))), .fz (a0.Credit.map (AV.int .i64)), .fz (a0.Sent.map (AV.int .i64)), .int .i64 a0.At]]⟩ :: F)) (fun K37 hK37 => ?_) (fun s H hq => ?_)
          · refine w_seq fun K38 hK38 => ?_
            refine w_reg gC ?_
            try simp only [W, EE, Nat.reduceAdd]
            refine w_grdT h (fun hc h => ?_) (fun hc h => ?_)
            · try simp only [W, hc]
              refine seq_n hK38 ?_
              refine w_killE (s' := (u :: .ptr ip2 wp2 0 0 :: u :: u :: .int .i64 x17 :: .fz (b31.map (AV.int .i64)) :: u :: u :: u :: u :: u :: u :: u :: u :: u :: u :: u :: u :: u :: u :: u :: u :: u :: u :: u :: u :: u :: u :: u :: u :: u :: u :: u :: u :: u :: u :: u :: u :: u :: u :: u :: u :: u :: .fz (a0.Queues.map (fzl (AV.int .i64))) :: .int .i64 (a0.Queues.length : Int) :: .int .i64 x17 :: u :: u :: u :: u :: u :: u :: u :: u :: u :: u :: .bool true :: u :: u :: u :: u :: u :: u :: u :: u :: u :: u :: u :: u :: u :: u :: u :: u :: u :: u :: u :: u :: u :: u :: u :: u :: u :: u :: u :: u :: u :: u :: [])) rfl ?_
              exact cut_n hK37 ⟨_, (Option.some.inj h).symm, rfl, hS⟩
            · try simp only [W, hc]
              refine w_call h fun b39 hb39 h => ?_
              refine slices_ContainsFunc_int_w hb39 (fun h _ n hL _ hS _ hP => impl_GoodTurns_1_w h hS hP) hS fun H hS => ?_
              try simp only [W, reduceIte, Bool.false_eq_true]
              refine seq_n hK38 ?_
              refine w_killE (s' := (u :: .ptr ip2 wp2 0 0 :: u :: u :: .int .i64 x17 :: .fz (b31.map (AV.int .i64)) :: u :: u :: u :: u :: u :: u :: u :: u :: u :: u :: u :: u :: u :: u :: u :: u :: u :: u :: u :: u :: u :: u :: u :: u :: u :: u :: u :: u :: u :: u :: u :: u :: u :: u :: u :: u :: u :: .fz (a0.Queues.map (fzl (AV.int .i64))) :: .int .i64 (a0.Queues.length : Int) :: .int .i64 x17 :: u :: u :: u :: u :: u :: u :: u :: u :: u :: u :: .bool b39 :: u :: u :: u :: u :: u :: u :: u :: u :: u :: u :: u :: u :: u :: u :: u :: u :: u :: u :: u :: u :: u :: u :: u :: u :: u :: u :: u :: u :: u :: u :: [])) rfl ?_
              exact cut_n hK37 ⟨_, (Option.some.inj h).symm, rfl, hS⟩
          · obtain ⟨x34, ey, rfl, hS⟩ := hq; obtain rfl := ey.symm
            replace h := g36
            try dsimp only at h
            refine seq_n hK33 ?_
            refine w_if ?_
            simp only [W]
            refine w_cnd h (fun hc h => ?_) (fun hc h => ?_)
            · refine w_seq fun K40 hK40 => ?_
              refine w_reg gC ?_
              try simp only [W, Nat.reduceAdd]
              refine seq_n hK40 ?_
              refine w_ret ?_
              refine seq_r hK32 ?_
              refine blk_r hK29 ?_
              refine seq_r hK28 ?_
              try obtain rfl := Option.some.inj h
              obtain rfl := hd23 _ rfl
              have h : (some (LR.done false) : Option (LR Unit (Bool))) = some (LR.done false) := rfl
              refine lp_r hK22 ?_
              refine blk_r hK21 ?_
              try obtain rfl := Option.some.inj h
              obtain rfl := Option.some.inj g25
              have h : (some false : Option (Bool)) = some false := rfl
              refine cut_r hK20 ?_
              refine seq_r hK15 ?_
              refine fin_r1 hK0 rfl ?_
              try obtain rfl := Option.some.inj h
              exact hP _ (hS.sel 1 [] (by decide))
            · refine w_skip ?_
              refine seq_n hK32 ?_
              refine w_seq fun K45 hK45 => ?_
              obtain ⟨y47, h, g48⟩ := Option.bind_eq_some_iff.1 h
              refine w_join gC (fun s H => ∃ x46 : Bool, y47 = (x46) ∧ s = (u :: .ptr ip2 wp2 0 0 :: u :: u :: u :: u :: u :: u :: u :: u :: u :: u :: u :: u :: u :: u :: u :: u :: u :: u :: u :: u :: u :: u :: u :: u :: u :: u :: u :: u :: u :: u :: u :: u :: u :: u :: u :: u :: u :: u :: u :: u :: u :: .fz (a0.Queues.map (fzl (AV.int .i64))) :: .int .i64 (a0.Queues.length : Int) :: .int .i64 x17 :: u :: u :: u :: u :: u :: u :: u :: u :: u :: u :: u :: u :: u :: u :: u :: u :: u :: u :: u :: u :: u :: u :: u :: u :: u :: u :: u :: u :: u :: u :: u :: u :: u :: u :: u :: u :: u :: u :: u :: .bool x46 :: u :: []) ∧ Own H (⟨.ptr ip2 wp2 0 0, 5, [.agg [.fz (a0.Quanta.map (AV.int .i64)), .fz (a0.Queues.map (fzl (AV.int .i64))), .fz (a0.Credit.map (AV.int .i64)), .fz (a0.Sent.map (AV.int .i64)), .int .i64 a0.At]]⟩ :: F)) (fun K49 hK49 => ?_) (fun s H hq => ?_)
              · refine w_seq fun K50 hK50 => ?_
                refine w_reg gC ?_
                try simp only [W, EE, Nat.reduceAdd, Nat.reduceBEq, hS.var 0 rfl]
                refine w_fz rfl rfl rfl (fun _ => rfl) h fun b51 hb51 h => ?_
                try simp only [W, EE]
                refine w_call h fun b52 hb52 h => ?_
                refine impl_in_w hb52 hS fun H hS => ?_
                try simp only [W]
                refine w_grdT h (fun hc h => ?_) (fun hc h => ?_)
                · try simp only [W, hc]
                  refine seq_n hK50 ?_
                  refine w_killE (s' := (u :: .ptr ip2 wp2 0 0 :: u :: u :: u :: u :: u :: u :: u :: u :: u :: u :: u :: u :: u :: u :: u :: u :: u :: u :: u :: u :: u :: u :: u :: u :: u :: u :: u :: u :: u :: u :: u :: u :: u :: u :: u :: u :: u :: u :: u :: u :: u :: .fz (a0.Queues.map (fzl (AV.int .i64))) :: .int .i64 (a0.Queues.length : Int) :: .int .i64 x17 :: u :: u :: u :: u :: u :: u :: u :: u :: u :: u :: u :: u :: u :: u :: u :: u :: u :: u :: u :: u :: u :: u :: u :: u :: u :: u :: u :: u :: u :: u :: u :: u :: u :: u :: u :: u :: u :: u :: u :: .bool true :: u :: [])) rfl ?_
                  exact cut_n hK49 ⟨_, (Option.some.inj h).symm, rfl, hS⟩
                · try simp only [W, EE, hc]
                  refine w_grdT h (fun hc h => ?_) (fun hc h => ?_)
                  · try simp only [W, EE, Nat.reduceAdd, Nat.reduceBEq, hS.var 0 rfl, hc]
                    refine w_fz rfl rfl rfl (fun _ => rfl) h fun b53 hb53 h => ?_
                    try simp only [W, EE, reduceIte, Bool.false_eq_true]
                    refine w_grdT h (fun hc h => ?_) (fun hc h => ?_)
                    · try simp only [W, hc]
                      refine seq_n hK50 ?_
                      refine w_killE (s' := (u :: .ptr ip2 wp2 0 0 :: u :: u :: u :: u :: u :: u :: u :: u :: u :: u :: u :: u :: u :: u :: u :: u :: u :: u :: u :: u :: u :: u :: u :: u :: u :: u :: u :: u :: u :: u :: u :: u :: u :: u :: u :: u :: u :: u :: u :: u :: u :: .fz (a0.Queues.map (fzl (AV.int .i64))) :: .int .i64 (a0.Queues.length : Int) :: .int .i64 x17 :: u :: u :: u :: u :: u :: u :: u :: u :: u :: u :: u :: u :: u :: u :: u :: u :: u :: u :: u :: u :: u :: u :: u :: u :: u :: u :: u :: u :: u :: u :: u :: u :: u :: u :: u :: u :: u :: u :: u :: .bool true :: u :: [])) rfl ?_
                      exact cut_n hK49 ⟨_, (Option.some.inj h).symm, rfl, hS⟩
                    · try simp only [W, EE, Nat.reduceAdd, Nat.reduceBEq, hS.var 0 rfl, hc]
                      refine w_fz rfl rfl rfl (fun _ => rfl) h fun b54 hb54 h => ?_
                      try simp only [W, EE]
                      refine w_call h fun b55 hb55 h => ?_
                      refine impl_in_w hb55 hS fun H hS => ?_
                      try simp only [W, reduceIte, Bool.false_eq_true]
                      refine seq_n hK50 ?_
                      refine w_killE (s' := (u :: .ptr ip2 wp2 0 0 :: u :: u :: u :: u :: u :: u :: u :: u :: u :: u :: u :: u :: u :: u :: u :: u :: u :: u :: u :: u :: u :: u :: u :: u :: u :: u :: u :: u :: u :: u :: u :: u :: u :: u :: u :: u :: u :: u :: u :: u :: u :: .fz (a0.Queues.map (fzl (AV.int .i64))) :: .int .i64 (a0.Queues.length : Int) :: .int .i64 x17 :: u :: u :: u :: u :: u :: u :: u :: u :: u :: u :: u :: u :: u :: u :: u :: u :: u :: u :: u :: u :: u :: u :: u :: u :: u :: u :: u :: u :: u :: u :: u :: u :: u :: u :: u :: u :: u :: u :: u :: .bool (!b55) :: u :: [])) rfl ?_
                      exact cut_n hK49 ⟨_, (Option.some.inj h).symm, rfl, hS⟩
                  · try simp only [W, EE, reduceIte, Nat.reduceAdd, Nat.reduceBEq, Bool.false_eq_true, hS.var 0 rfl, hc]
                    refine w_fz rfl rfl rfl (fun _ => rfl) h fun b56 hb56 h => ?_
                    try simp only [W, EE]
                    refine w_call h fun b57 hb57 h => ?_
                    refine impl_in_w hb57 hS fun H hS => ?_
                    try simp only [W, reduceIte, Bool.false_eq_true]
                    refine seq_n hK50 ?_
                    refine w_killE (s' := (u :: .ptr ip2 wp2 0 0 :: u :: u :: u :: u :: u :: u :: u :: u :: u :: u :: u :: u :: u :: u :: u :: u :: u :: u :: u :: u :: u :: u :: u :: u :: u :: u :: u :: u :: u :: u :: u :: u :: u :: u :: u :: u :: u :: u :: u :: u :: u :: .fz (a0.Queues.map (fzl (AV.int .i64))) :: .int .i64 (a0.Queues.length : Int) :: .int .i64 x17 :: u :: u :: u :: u :: u :: u :: u :: u :: u :: u :: u :: u :: u :: u :: u :: u :: u :: u :: u :: u :: u :: u :: u :: u :: u :: u :: u :: u :: u :: u :: u :: u :: u :: u :: u :: u :: u :: u :: u :: .bool (!b57) :: u :: [])) rfl ?_
                    exact cut_n hK49 ⟨_, (Option.some.inj h).symm, rfl, hS⟩
              · obtain ⟨x46, ey, rfl, hS⟩ := hq; obtain rfl := ey.symm
                replace h := g48
                try dsimp only at h
                refine seq_n hK45 ?_
                refine w_if ?_
                simp only [W]
                refine w_cnd h (fun hc h => ?_) (fun hc h => ?_)
                · refine w_seq fun K58 hK58 => ?_
                  refine w_reg gC ?_
                  try simp only [W, Nat.reduceAdd]
                  refine seq_n hK58 ?_
                  refine w_ret ?_
                  refine blk_r hK29 ?_
                  refine seq_r hK28 ?_
                  try obtain rfl := Option.some.inj h
                  obtain rfl := hd23 _ rfl
                  have h : (some (LR.done false) : Option (LR Unit (Bool))) = some (LR.done false) := rfl
                  refine lp_r hK22 ?_
                  refine blk_r hK21 ?_
                  try obtain rfl := Option.some.inj h
                  obtain rfl := Option.some.inj g25
                  have h : (some false : Option (Bool)) = some false := rfl
                  refine cut_r hK20 ?_
                  refine seq_r hK15 ?_
                  refine fin_r1 hK0 rfl ?_
                  try obtain rfl := Option.some.inj h
                  exact hP _ (hS.sel 1 [] (by decide))
                · refine w_skip ?_
                  refine blk_n0 hK29 ?_
                  refine seq_n hK28 ?_
                  refine w_reg gC ?_
                  try simp only [W, EE, Nat.reduceAdd]
                  exact lp_n hK22 h ⟨rfl, hS⟩
        · refine w_exit ?_
          refine seq_x hK27 ?_
          try obtain rfl := Option.some.inj h
          obtain rfl := hd23 _ rfl
          have h : (some (LR.next ()) : Option (LR Unit (Bool))) = some (LR.next ()) := rfl
          refine lp_x hK22 ?_
          refine blk_e hK21 ?_
          exact cut_n hK20 ⟨(Option.some.inj h).symm, rfl, (hS.sel 1 [] (by decide))⟩
      · obtain ⟨rfl, rfl, hS⟩ := hq
        replace h := g25
        try dsimp only at h
        refine seq_n hK15 ?_
        refine w_seq fun K65 hK65 => ?_
        refine w_reg gC ?_
        try simp only [W, Nat.reduceAdd]
        refine seq_n hK65 ?_
        refine w_ret ?_
        refine fin_r1 hK0 rfl ?_
        try obtain rfl := Option.some.inj h
        exact hP _ hS
theorem slices_Clone_int_w {a0 : List Int} {r : List Int} (h : slices_Clone_int a0 = some r) {F : List It} {H : Heap} (hS : Own H F) {P : AV → Heap → Prop} (hP : ∀ v0 : AV, isSl v0 → ∀ H', Own H' (⟨v0, 1, r.map (AV.int .i64)⟩ :: F) → P v0 H') : ACall C 169 [.fz (a0.map (AV.int .i64))] H P :=
  clone_w (ids := cids) rfl (sz := 1) (b := 8) (by simp [cids]) (fun _ => rfl) (by decide) h hS hP
theorem impl_Turns_copied_w {a0 : Turns} {r : (Turns)} (h : impl_Turns_copied a0 = some r) {F : List It} {H : Heap} (hS : Own H (F)) {P : AV → Heap → Prop} (hP : ∀ v61 : AV, isSl v61 → ∀ v63 : AV, isSl v63 → ∀ d65 : List AV, isSls d65 (r.Queues).length → ∀ v66 : AV, isSl v66 → ∀ v68 : AV, isSl v68 → ∀ H', Own H' (⟨v61, 1, r.Quanta.map (AV.int .i64)⟩ :: ⟨v63, 1, ouw nm_SInt d65 r.Queues⟩ :: ⟨v66, 1, r.Credit.map (AV.int .i64)⟩ :: ⟨v68, 1, r.Sent.map (AV.int .i64)⟩ :: ((inn np_SInt (AV.int .i64) 1 d65 r.Queues) ++ F)) → P (.agg [v61, v63, v66, v68, .int .i64 r.At]) H') : ACall C 187 [.agg [.fz (a0.Quanta.map (AV.int .i64)), .fz (a0.Queues.map (fzl (AV.int .i64))), .fz (a0.Credit.map (AV.int .i64)), .fz (a0.Sent.map (AV.int .i64)), .int .i64 a0.At]] H P := by
  refine acall_of gC (res := [.cell 2 75]) (n := 34) rfl rfl rfl rfl fun K0 hK0 => ?_
  simp only [W, Nat.reduceSub, Nat.reduceAdd, List.replicate]
  unfold impl_Turns_copied at h
  refine w_seq fun K1 hK1 => ?_
  refine w_reg gC ?_
  try simp only [W, Nat.reduceAdd]
  refine w_box hS rfl rfl rfl rfl fun ip2 wp2 H hS => ?_
  try simp only [W]
  refine w_alloc hS rfl rfl fun ip4 wp4 H hS => ?_
  try simp only [W]
  refine seq_n hK1 ?_
  refine w_seq fun K6 hK6 => ?_
  refine w_drawL gC [(13, [])] (by kernel_rfl) rfl (by kernel_rfl) ?_
  try simp only [W, EE, reduceIte, Nat.reduceAdd, Nat.reduceBEq, hS.var 1 rfl, tabAt, qAt, Nat.reduceEqDiff, List.contains_cons, Nat.reduceBEq, Bool.or_true, Bool.or_self]
  refine w_callO (rsh := [[.sl [.sc]]]) (ys := [.fz (a0.Quanta.map (AV.int .i64))]) h rfl (by rfl) fun b7 hb7 h => ⟨.own 1 (b7.map (AV.int .i64)), slices_Clone_int_w hb7 (Own.nil _) fun v8 qv8 H hS => TV_ok rfl (TV_o 0 hS rfl qv8 (fun _ _ => by simp [takeE, takeT, plainA]) fun H hS => TV_n rfl), (noFz_o _ (fun _ => rfl) _), ?_⟩
  refine thaw_1 ?_
  refine TH_o hS (fun _ _ => rfl) (fun _ => rfl) fun v10 H qv10 hS => ?_
  refine TH_n ?_
  try simp only [List.headD_cons]
  try simp only [W, EE, Nat.reduceAdd, Nat.reduceBEq, hS.var 2 rfl, Nat.reduceBEq]
  refine w_callO (rsh := [[.sl [.sc]]]) (ys := [.fz (a0.Credit.map (AV.int .i64))]) h rfl (by rfl) fun b11 hb11 h => ⟨.own 1 (b11.map (AV.int .i64)), slices_Clone_int_w hb11 (Own.nil _) fun v12 qv12 H hS => TV_ok rfl (TV_o 0 hS rfl qv12 (fun _ _ => by simp [takeE, takeT, plainA]) fun H hS => TV_n rfl), (noFz_o _ (fun _ => rfl) _), ?_⟩
  refine thaw_1 ?_
  refine TH_o hS (fun _ _ => rfl) (fun _ => rfl) fun v14 H qv14 hS => ?_
  refine TH_n ?_
  try simp only [List.headD_cons]
  try simp only [W, EE, Nat.reduceAdd, Nat.reduceBEq, hS.var 3 rfl, Nat.reduceBEq]
  refine w_callO (rsh := [[.sl [.sc]]]) (ys := [.fz (a0.Sent.map (AV.int .i64))]) h rfl (by rfl) fun b15 hb15 h => ⟨.own 1 (b15.map (AV.int .i64)), slices_Clone_int_w hb15 (Own.nil _) fun v16 qv16 H hS => TV_ok rfl (TV_o 0 hS rfl qv16 (fun _ _ => by simp [takeE, takeT, plainA]) fun H hS => TV_n rfl), (noFz_o _ (fun _ => rfl) _), ?_⟩
  refine thaw_1 ?_
  refine TH_o hS (fun _ _ => rfl) (fun _ => rfl) fun v18 H qv18 hS => ?_
  refine TH_n ?_
  try simp only [List.headD_cons]
  try simp only [W, EE, Nat.reduceAdd, Nat.reduceBEq, hS.var 4 rfl, Nat.reduceBEq]
  refine w_bld rfl rfl rfl rfl (by simp only [fillA, qv10.stora, qv10.cells, qv14.stora, qv14.cells, qv18.stora, qv18.cells]; simp [E, splice, AV.cells, storA, stor1] <;> rfl) ?_
  try simp only [W]
  refine w_alloc hS rfl rfl fun ip19 wp19 H hS => ?_
  try simp only [W]
  refine w_stv (a := .agg [v10, .nil, v14, v18, .int .i64 a0.At]) (y' := .agg [v10, .nil, v14, v18, .int .i64 a0.At]) 0 hS rfl rfl rfl rfl rfl (by simp only [storA, List.all_cons, List.all_nil, qv10.stor, qv14.stor, qv18.stor]; rfl) rfl rfl fun H hS => ?_
  try simp only [W]
  refine seq_n hK6 ?_
  refine w_seq fun K21 hK21 => ?_
  refine w_seq fun K22 hK22 => ?_
  refine w_reg gC ?_
  try simp only [W, EE, Nat.reduceAdd, Nat.reduceBEq, hS.var 5 rfl]
  refine seq_n hK22 ?_
  obtain ⟨y31, hw32, g38⟩ := Option.bind_eq_some_iff.1 h
  refine w_join gC (fun s H => ∃ x28 : List (List Int), y31 = (x28) ∧ ∃ v29 : AV, isSl v29 ∧ ∃ d30 : List AV, isSls d30 (x28).length ∧ s = [u, u, .ptr ip4 wp4 0 0, .ptr ip19 wp19 0 0, u, u, u, u, u, u, u, u, u, u, u, u, u, u, u, u, u, u, u, u, u, u, u, u, u, u, u, u, u, u] ∧ Own H (⟨v10, 1, b7.map (AV.int .i64)⟩ :: ⟨v29, 1, ouw nm_SInt d30 x28⟩ :: ⟨v14, 1, b11.map (AV.int .i64)⟩ :: ⟨v18, 1, b15.map (AV.int .i64)⟩ :: ⟨.ptr ip4 wp4 0 0, 5, [.agg [.nil, .nil, .nil, .nil, .int .i64 0]]⟩ :: ⟨.ptr ip19 wp19 0 0, 5, [.agg [v10, v29, v14, v18, .int .i64 a0.At]]⟩ :: ((inn np_SInt (AV.int .i64) 1 d30 x28) ++ F))) (fun K33 hK33 => ?_) (fun s H hq => ?_)
  · refine w_blk fun K34 hK34 => ?_
    have hS := hS.nil_ 1
    obtain ⟨d59, qd59, hS⟩ := noneN (p := np_SInt) (c := (AV.int .i64)) (z := 1) (m := nm_SInt) hS
    have hS : Own _ (⟨AV.nil, 1, ouw nm_SInt d59 ([] : List (List Int))⟩ :: ⟨.ptr ip19 wp19 0 0, 5, [.agg [v10, .nil, v14, v18, .int .i64 a0.At]]⟩ :: ⟨v18, 1, b15.map (AV.int .i64)⟩ :: ⟨v14, 1, b11.map (AV.int .i64)⟩ :: ⟨v10, 1, b7.map (AV.int .i64)⟩ :: ⟨.ptr ip4 wp4 0 0, 5, [.agg [.nil, .nil, .nil, .nil, .int .i64 0]]⟩ :: ⟨.ptr ip2 wp2 0 0, 5, [.agg [.fz (a0.Quanta.map (AV.int .i64)), .fz (a0.Queues.map (fzl (AV.int .i64))), .fz (a0.Credit.map (AV.int .i64)), .fz (a0.Sent.map (AV.int .i64)), .int .i64 a0.At]]⟩ :: ((inn np_SInt (AV.int .i64) 1 d59 ([] : List (List Int))) ++ (F))) := Own.catI_ (bl := [[⟨AV.nil, 1, ouw nm_SInt d59 ([] : List (List Int))⟩], (inn np_SInt (AV.int .i64) 1 d59 ([] : List (List Int))), [⟨.ptr ip19 wp19 0 0, 5, [.agg [v10, .nil, v14, v18, .int .i64 a0.At]]⟩], [⟨v18, 1, b15.map (AV.int .i64)⟩], [⟨v14, 1, b11.map (AV.int .i64)⟩], [⟨v10, 1, b7.map (AV.int .i64)⟩], [⟨.ptr ip4 wp4 0 0, 5, [.agg [.nil, .nil, .nil, .nil, .int .i64 0]]⟩], [⟨.ptr ip2 wp2 0 0, 5, [.agg [.fz (a0.Quanta.map (AV.int .i64)), .fz (a0.Queues.map (fzl (AV.int .i64))), .fz (a0.Credit.map (AV.int .i64)), .fz (a0.Sent.map (AV.int .i64)), .int .i64 a0.At]]⟩]]) (F := F) hS 8 rfl [0, 2, 3, 4, 5, 6, 7, 1] (by decide)
    have hS : Own _ (⟨v10, 1, b7.map (AV.int .i64)⟩ :: ⟨AV.nil, 1, ouw nm_SInt d59 ([] : List (List Int))⟩ :: ⟨v14, 1, b11.map (AV.int .i64)⟩ :: ⟨v18, 1, b15.map (AV.int .i64)⟩ :: ⟨.ptr ip4 wp4 0 0, 5, [.agg [.nil, .nil, .nil, .nil, .int .i64 0]]⟩ :: ⟨.ptr ip19 wp19 0 0, 5, [.agg [v10, .nil, v14, v18, .int .i64 a0.At]]⟩ :: ((inn np_SInt (AV.int .i64) 1 d59 ([] : List (List Int))) ++ (F))) := Own.catI_ (bl := [[⟨AV.nil, 1, ouw nm_SInt d59 ([] : List (List Int))⟩], [⟨.ptr ip19 wp19 0 0, 5, [.agg [v10, .nil, v14, v18, .int .i64 a0.At]]⟩], [⟨v18, 1, b15.map (AV.int .i64)⟩], [⟨v14, 1, b11.map (AV.int .i64)⟩], [⟨v10, 1, b7.map (AV.int .i64)⟩], [⟨.ptr ip4 wp4 0 0, 5, [.agg [.nil, .nil, .nil, .nil, .int .i64 0]]⟩], [⟨.ptr ip2 wp2 0 0, 5, [.agg [.fz (a0.Quanta.map (AV.int .i64)), .fz (a0.Queues.map (fzl (AV.int .i64))), .fz (a0.Credit.map (AV.int .i64)), .fz (a0.Sent.map (AV.int .i64)), .int .i64 a0.At]]⟩], (inn np_SInt (AV.int .i64) 1 d59 ([] : List (List Int)))]) (F := F) hS 8 rfl [4, 0, 3, 2, 5, 1, 7] (by decide)
    refine w_loop gC hw32 (fun x s H => match x with | (x23, x24) => ∃ v25 : AV, isSl v25 ∧ ∃ d27 : List AV, isSls d27 (x24).length ∧ s = [u, u, .ptr ip4 wp4 0 0, .ptr ip19 wp19 0 0, u, u, u, u, u, u, u, u, u, u, u, u, u, u, u, .fz (a0.Queues.map (fzl (AV.int .i64))), .int .i64 (a0.Queues.length : Int), .int .i64 x23, u, u, u, u, u, u, u, u, u, u, u, u] ∧ Own H (⟨v10, 1, b7.map (AV.int .i64)⟩ :: ⟨v25, 1, ouw nm_SInt d27 x24⟩ :: ⟨v14, 1, b11.map (AV.int .i64)⟩ :: ⟨v18, 1, b15.map (AV.int .i64)⟩ :: ⟨.ptr ip4 wp4 0 0, 5, [.agg [.nil, .nil, .nil, .nil, .int .i64 0]]⟩ :: ⟨.ptr ip19 wp19 0 0, 5, [.agg [v10, v25, v14, v18, .int .i64 a0.At]]⟩ :: ((inn np_SInt (AV.int .i64) 1 d27 x24) ++ F))) ⟨_, isSl_nil, _, qd59, rfl, hS⟩ (fun x y37 s H h hd36 hi K35 hK35 => ?_)
    obtain ⟨x23, x24⟩ := x
    try dsimp only at hi
    obtain ⟨v25, qv25, d27, qd27, rfl, hS⟩ := hi
    simp only [impl_Turns_copied_l0] at h
    refine w_seq fun K39 hK39 => ?_
    refine w_reg gC ?_
    try simp only [W, EE, Nat.reduceAdd]
    refine seq_n hK39 ?_
    refine w_seq fun K40 hK40 => ?_
    refine w_if ?_
    simp only [W]
    refine w_cnd h (fun hc h => ?_) (fun hc h => ?_)
    · refine w_skip ?_
      refine seq_n hK40 ?_
      refine w_seq fun K41 hK41 => ?_
      refine w_blk fun K42 hK42 => ?_
      refine w_seq fun K43 hK43 => ?_
      refine w_reg gC ?_
      try simp only [W, EE, Nat.reduceAdd]
      refine w_fz rfl rfl rfl (fun _ => rfl) h fun b44 hb44 h => ?_
      try simp only [W, EE, EN]
      refine seq_n hK43 ?_
      refine w_drawL gC [(7, []), (5, [])] (by kernel_rfl) rfl (by kernel_rfl) ?_
      try simp only [W, EE, reduceIte, Nat.reduceAdd, Nat.reduceBEq, hS.var 5 rfl, tabAt, qAt, Nat.reduceEqDiff, List.contains_cons, Nat.reduceBEq, Bool.or_self]
      refine w_callO (rsh := [[.sl [.sc]]]) (ys := [.fz (b44.map (AV.int .i64))]) h rfl (by rfl) fun b45 hb45 h => ⟨.own 1 (b45.map (AV.int .i64)), slices_Clone_int_w hb45 (Own.nil _) fun v46 qv46 H hS => TV_ok rfl (TV_o 0 hS rfl qv46 (fun _ _ => by simp [takeE, takeT, plainA]) fun H hS => TV_n rfl), (noFz_o _ (fun _ => rfl) _), ?_⟩
      refine thaw_1 ?_
      refine TH_o hS (fun _ _ => rfl) (fun _ => rfl) fun v48 H qv48 hS => ?_
      refine TH_n ?_
      try simp only [List.headD_cons]
      try simp only [W]
      refine w_lit (el := [v48]) hS rfl rfl rfl rfl (fill1 (isSl.clen qv48) qv48.stora) rfl (sz1 (isSl.clen qv48)) fun v49 H qv49 hS => ?_
      have hS : Own _ (⟨v49, 1, [v48]⟩ :: ⟨v48, 1, b45.map (AV.int .i64)⟩ :: ⟨v10, 1, b7.map (AV.int .i64)⟩ :: ⟨v25, 1, ouw nm_SInt d27 x24⟩ :: ⟨v14, 1, b11.map (AV.int .i64)⟩ :: ⟨v18, 1, b15.map (AV.int .i64)⟩ :: ⟨.ptr ip4 wp4 0 0, 5, [.agg [.nil, .nil, .nil, .nil, .int .i64 0]]⟩ :: ⟨.ptr ip19 wp19 0 0, 5, [.agg [v10, v25, v14, v18, .int .i64 a0.At]]⟩ :: ((inn np_SInt (AV.int .i64) 1 d27 x24) ++ (F))) := hS
      obtain ⟨d50, qd50, hS⟩ := oneN (m := nm_SInt) (p := np_SInt) (c := (AV.int .i64)) (b := b45) hS qv48
      have hS : Own _ (⟨v49, 1, ouw nm_SInt d50 ([b45] : List (List Int))⟩ :: ⟨v10, 1, b7.map (AV.int .i64)⟩ :: ⟨v25, 1, ouw nm_SInt d27 x24⟩ :: ⟨v14, 1, b11.map (AV.int .i64)⟩ :: ⟨v18, 1, b15.map (AV.int .i64)⟩ :: ⟨.ptr ip4 wp4 0 0, 5, [.agg [.nil, .nil, .nil, .nil, .int .i64 0]]⟩ :: ⟨.ptr ip19 wp19 0 0, 5, [.agg [v10, v25, v14, v18, .int .i64 a0.At]]⟩ :: ((inn np_SInt (AV.int .i64) 1 d50 ([b45] : List (List Int))) ++ (((inn np_SInt (AV.int .i64) 1 d27 x24) ++ (F))))) := Own.catI_ (bl := [[⟨v49, 1, ouw nm_SInt d50 ([b45] : List (List Int))⟩], (inn np_SInt (AV.int .i64) 1 d50 ([b45] : List (List Int))), [⟨v10, 1, b7.map (AV.int .i64)⟩], [⟨v25, 1, ouw nm_SInt d27 x24⟩], [⟨v14, 1, b11.map (AV.int .i64)⟩], [⟨v18, 1, b15.map (AV.int .i64)⟩], [⟨.ptr ip4 wp4 0 0, 5, [.agg [.nil, .nil, .nil, .nil, .int .i64 0]]⟩], [⟨.ptr ip19 wp19 0 0, 5, [.agg [v10, v25, v14, v18, .int .i64 a0.At]]⟩], (inn np_SInt (AV.int .i64) 1 d27 x24)]) (F := F) hS 9 rfl [0, 2, 3, 4, 5, 6, 7, 1, 8] (by decide)
      try simp only [W, EE]
      have hS : Own _ (⟨v25, 1, ouw nm_SInt d27 x24⟩ :: ⟨v49, 1, ouw nm_SInt d50 ([b45] : List (List Int))⟩ :: ((inn np_SInt (AV.int .i64) 1 d27 x24) ++ (((inn np_SInt (AV.int .i64) 1 d50 ([b45] : List (List Int))) ++ (⟨v10, 1, b7.map (AV.int .i64)⟩ :: ⟨v14, 1, b11.map (AV.int .i64)⟩ :: ⟨v18, 1, b15.map (AV.int .i64)⟩ :: ⟨.ptr ip4 wp4 0 0, 5, [.agg [.nil, .nil, .nil, .nil, .int .i64 0]]⟩ :: ⟨.ptr ip19 wp19 0 0, 5, [.agg [v10, v25, v14, v18, .int .i64 a0.At]]⟩ :: F))))) := Own.catI_ (bl := [[⟨v49, 1, ouw nm_SInt d50 ([b45] : List (List Int))⟩], [⟨v10, 1, b7.map (AV.int .i64)⟩], [⟨v25, 1, ouw nm_SInt d27 x24⟩], [⟨v14, 1, b11.map (AV.int .i64)⟩], [⟨v18, 1, b15.map (AV.int .i64)⟩], [⟨.ptr ip4 wp4 0 0, 5, [.agg [.nil, .nil, .nil, .nil, .int .i64 0]]⟩], [⟨.ptr ip19 wp19 0 0, 5, [.agg [v10, v25, v14, v18, .int .i64 a0.At]]⟩], (inn np_SInt (AV.int .i64) 1 d50 ([b45] : List (List Int))), (inn np_SInt (AV.int .i64) 1 d27 x24)]) (F := F) hS 9 rfl [2, 0, 8, 7, 1, 3, 4, 5, 6] (by decide)
      refine w_appN (l := x24) (m := nm_SInt) (p := np_SInt) (c := (AV.int .i64)) hS qv25 qv49 qd27 qd50 rfl rfl rfl nc_SInt rfl h fun v52 H n54 d53 qv52 qd53 hm h hS => ?_
      have hS : Own _ (⟨v10, 1, b7.map (AV.int .i64)⟩ :: ⟨v52, 1, ouw nm_SInt d53 n54⟩ :: ⟨v14, 1, b11.map (AV.int .i64)⟩ :: ⟨v18, 1, b15.map (AV.int .i64)⟩ :: ⟨.ptr ip4 wp4 0 0, 5, [.agg [.nil, .nil, .nil, .nil, .int .i64 0]]⟩ :: ⟨.ptr ip19 wp19 0 0, 5, [.agg [v10, v25, v14, v18, .int .i64 a0.At]]⟩ :: ((inn np_SInt (AV.int .i64) 1 d53 n54) ++ (F))) := Own.catI_ (bl := [[⟨v52, 1, ouw nm_SInt d53 n54⟩], (inn np_SInt (AV.int .i64) 1 d53 n54), [⟨v10, 1, b7.map (AV.int .i64)⟩], [⟨v14, 1, b11.map (AV.int .i64)⟩], [⟨v18, 1, b15.map (AV.int .i64)⟩], [⟨.ptr ip4 wp4 0 0, 5, [.agg [.nil, .nil, .nil, .nil, .int .i64 0]]⟩], [⟨.ptr ip19 wp19 0 0, 5, [.agg [v10, v25, v14, v18, .int .i64 a0.At]]⟩]]) (F := F) hS 7 rfl [2, 0, 3, 4, 5, 6, 1] (by decide)
      try simp only [W, EE, Nat.reduceAdd, Nat.reduceBEq, hS.var 5 rfl, Nat.reduceBEq]
      refine w_stv (a := v52) (y' := .agg [v10, v52, v14, v18, .int .i64 a0.At]) 5 hS rfl rfl rfl rfl (by rw [qv52.cells]; rfl) qv52.stora (qv52.wr _ _ (by simp)) rfl fun H hS => ?_
      try simp only [W]
      refine blk_n0 hK42 ?_
      refine seq_n hK41 ?_
      refine w_reg gC ?_
      try simp only [W, EE, Nat.reduceAdd]
      exact lp_n hK35 h ⟨_, qv52, _, qd53, rfl, hS⟩
    · refine w_exit ?_
      refine seq_x hK40 ?_
      try obtain rfl := Option.some.inj h
      obtain rfl := hd36 _ rfl
      have h : (some (x24) : Option ((List (List Int)))) = some (x24) := rfl
      refine lp_x hK35 ?_
      refine blk_e hK34 ?_
      exact cut_n hK33 ⟨_, (Option.some.inj h).symm, _, qv25, _, qd27, rfl, hS⟩
  · obtain ⟨x28, ey, v29, qv29, d30, qd30, rfl, hS⟩ := hq; obtain rfl := ey.symm
    replace h := g38
    try dsimp only at h
    refine seq_n hK21 ?_
    refine w_seq fun K60 hK60 => ?_
    refine w_reg gC ?_
    try simp only [W, EE, reduceIte, Nat.reduceAdd, Nat.reduceLeDiff, hS.var 5 rfl]
    refine w_stv (a := .agg [v10, v29, v14, v18, .int .i64 a0.At]) (y' := .agg [v10, v29, v14, v18, .int .i64 a0.At]) 4 hS rfl rfl rfl rfl rfl (by simp only [storA, List.all_cons, List.all_nil, qv10.stor, qv29.stor, qv14.stor, qv18.stor]; rfl) rfl rfl fun H hS => ?_
    try simp only [W]
    refine seq_n hK60 ?_
    refine w_ret ?_
    refine fin_r hK0 (res_c rfl rfl (hS.var 4 rfl) rfl rfl) ?_
    try obtain rfl := Option.some.inj h
    have hS : Own _ (⟨v10, 1, b7.map (AV.int .i64)⟩ :: ⟨v29, 1, ouw nm_SInt d30 x28⟩ :: ⟨v14, 1, b11.map (AV.int .i64)⟩ :: ⟨v18, 1, b15.map (AV.int .i64)⟩ :: ((inn np_SInt (AV.int .i64) 1 d30 x28) ++ (F))) := Own.catI_ (bl := [[⟨v10, 1, b7.map (AV.int .i64)⟩], [⟨v29, 1, ouw nm_SInt d30 x28⟩], [⟨v14, 1, b11.map (AV.int .i64)⟩], [⟨v18, 1, b15.map (AV.int .i64)⟩], [⟨.ptr ip4 wp4 0 0, 5, [.agg [v10, v29, v14, v18, .int .i64 a0.At]]⟩], [⟨.ptr ip19 wp19 0 0, 5, [.agg [v10, v29, v14, v18, .int .i64 a0.At]]⟩], (inn np_SInt (AV.int .i64) 1 d30 x28)]) (F := F) hS 7 rfl [0, 1, 2, 3, 6] (by decide)
    exact hP _ qv10 _ qv29 _ qd30 _ qv14 _ qv18 _ hS
theorem impl_Turns_turn_w {a0 : Turns} {i0 : Nat} {w0 : Nat} {m100 : AV} {m101 : AV} {d101 : List AV} {m102 : AV} {m103 : AV} {r : (List Int × Bool × Turns)} (h : impl_Turns_turn a0 = some r) {F : List It} {H : Heap} (hS : Own H (⟨.ptr i0 w0 0 0, 5, [.agg [m100, m101, m102, m103, .int .i64 a0.At]]⟩ :: ⟨m100, 1, a0.Quanta.map (AV.int .i64)⟩ :: ⟨m101, 1, ouw nm_SInt d101 a0.Queues⟩ :: ⟨m102, 1, a0.Credit.map (AV.int .i64)⟩ :: ⟨m103, 1, a0.Sent.map (AV.int .i64)⟩ :: ((inn np_SInt (AV.int .i64) 1 d101 a0.Queues) ++ F))) (qm100 : isSl m100) (qm101 : isSl m101) (qd101 : isSls d101 (a0.Queues).length) (qm102 : isSl m102) (qm103 : isSl m103) {P : AV → Heap → Prop} (hP : ∀ v125 : AV, isSl v125 → ∀ nm100 : AV, isSl nm100 → ∀ nm101 : AV, isSl nm101 → ∀ nd101 : List AV, isSls nd101 (r.2.2.Queues).length → ∀ nm102 : AV, isSl nm102 → ∀ nm103 : AV, isSl nm103 → ∀ H', Own H' (⟨v125, 1, r.1.map (AV.int .i64)⟩ :: ⟨.ptr i0 w0 0 0, 5, [.agg [nm100, nm101, nm102, nm103, .int .i64 r.2.2.At]]⟩ :: ⟨nm100, 1, r.2.2.Quanta.map (AV.int .i64)⟩ :: ⟨nm101, 1, ouw nm_SInt nd101 r.2.2.Queues⟩ :: ⟨nm102, 1, r.2.2.Credit.map (AV.int .i64)⟩ :: ⟨nm103, 1, r.2.2.Sent.map (AV.int .i64)⟩ :: ((inn np_SInt (AV.int .i64) 1 nd101 r.2.2.Queues) ++ F)) → P (.tup [v125, .bool r.2.1]) H') : ACall C 188 [.ptr i0 w0 0 0] H P := by
  refine acall_of gC (res := [.tmp 2, .tmp 3]) (n := 147) rfl rfl rfl rfl fun K0 hK0 => ?_
  simp only [W, Nat.reduceSub, Nat.reduceAdd, List.replicate]
  unfold impl_Turns_turn at h
  refine w_seq fun K1 hK1 => ?_
  refine w_reg gC ?_
  try simp only [W, Nat.reduceAdd]
  refine seq_n hK1 ?_
  refine w_seq fun K2 hK2 => ?_
  refine w_reg gC ?_
  try simp only [W, EE, Nat.reduceAdd, Nat.reduceBEq, hS.var 0 rfl]
  refine w_lit0 rfl rfl ?_
  try simp only [W]
  refine seq_n hK2 ?_
  refine w_seq fun K3 hK3 => ?_
  refine w_reg gC ?_
  try simp only [W, EE, Nat.reduceAdd, Nat.reduceBEq, hS.var 0 rfl]
  refine w_len 1 hS rfl qm100 rfl ?_
  try simp only [W, EE]
  refine w_num _ h fun x4 hx4 h => ?_
  try simp only [W, EE, Nat.reduceAdd, Nat.reduceBEq, hS.var 0 rfl]
  refine w_stv (a := .int .i64 x4) (y' := .agg [m100, m101, m102, m103, .int .i64 x4]) 0 hS rfl rfl rfl rfl rfl rfl rfl rfl fun H hS => ?_
  try simp only [W]
  refine seq_n hK3 ?_
  refine w_seq fun K5 hK5 => ?_
  refine w_seq fun K6 hK6 => ?_
  refine w_reg gC ?_
  try simp only [W, EE, Nat.reduceAdd, Nat.reduceBEq, hS.var 0 rfl]
  obtain ⟨b8, hb8, h⟩ := Option.bind_eq_some_iff.1 h
  have hS : Own _ (⟨m101, 1, ouw nm_SInt d101 a0.Queues⟩ :: ((inn np_SInt (AV.int .i64) 1 d101 a0.Queues) ++ (⟨.ptr i0 w0 0 0, 5, [.agg [m100, m101, m102, m103, .int .i64 x4]]⟩ :: ⟨m100, 1, a0.Quanta.map (AV.int .i64)⟩ :: ⟨m102, 1, a0.Credit.map (AV.int .i64)⟩ :: ⟨m103, 1, a0.Sent.map (AV.int .i64)⟩ :: F))) := Own.catI_ (bl := [[⟨.ptr i0 w0 0 0, 5, [.agg [m100, m101, m102, m103, .int .i64 x4]]⟩], [⟨m100, 1, a0.Quanta.map (AV.int .i64)⟩], [⟨m101, 1, ouw nm_SInt d101 a0.Queues⟩], [⟨m102, 1, a0.Credit.map (AV.int .i64)⟩], [⟨m103, 1, a0.Sent.map (AV.int .i64)⟩], (inn np_SInt (AV.int .i64) 1 d101 a0.Queues)]) (F := F) hS 6 rfl [2, 5, 0, 1, 3, 4] (by decide)
  obtain ⟨v9, qv9, hS⟩ := openN (p := np_SInt) (c := (AV.int .i64)) (m := nm_SInt) (b := b8) hS qd101 hb8
  have hS : Own _ (⟨v9, 1, b8.map (AV.int .i64)⟩ :: ⟨.ptr i0 w0 0 0, 5, [.agg [m100, m101, m102, m103, .int .i64 x4]]⟩ :: ⟨m100, 1, a0.Quanta.map (AV.int .i64)⟩ :: ⟨m101, 1, (ouw nm_SInt d101 a0.Queues).set a0.At.toNat (v9)⟩ :: ⟨m102, 1, a0.Credit.map (AV.int .i64)⟩ :: ⟨m103, 1, a0.Sent.map (AV.int .i64)⟩ :: ((inx np_SInt (AV.int .i64) 1 d101 a0.Queues a0.At.toNat) ++ (F))) := Own.catI_ (bl := [[⟨v9, 1, b8.map (AV.int .i64)⟩], [⟨m101, 1, (ouw nm_SInt d101 a0.Queues).set a0.At.toNat (v9)⟩], (inx np_SInt (AV.int .i64) 1 d101 a0.Queues a0.At.toNat), [⟨.ptr i0 w0 0 0, 5, [.agg [m100, m101, m102, m103, .int .i64 x4]]⟩], [⟨m100, 1, a0.Quanta.map (AV.int .i64)⟩], [⟨m102, 1, a0.Credit.map (AV.int .i64)⟩], [⟨m103, 1, a0.Sent.map (AV.int .i64)⟩]]) (F := F) hS 7 rfl [0, 3, 4, 1, 5, 6, 2] (by decide)
  refine w_owE (x := v9) 3 hS rfl rfl rfl rfl rfl (idx_some hb8).1 (holeG qd101 hb8) qm101 (fun in7 wn7 on7 en7 hkn7 => ?_)
  obtain ⟨kn7, hbn7, hen7⟩ := hkn7
  try simp only [W, EE, hbn7, hen7, qv9.rd]
  refine w_len 0 hS rfl qv9 rfl ?_
  try simp only [W, EE]
  refine seq_n hK6 ?_
  obtain ⟨y15, h, g16⟩ := Option.bind_eq_some_iff.1 h
  refine w_join gC (fun s H => ∃ x14 : List Int, y15 = (x14) ∧ ∃ d13 : List AV, isSls d13 (a0.Queues).length ∧ s = (.ptr i0 w0 0 0 :: u :: u :: u :: .int .i64 a0.At :: .e0 :: u :: u :: u :: u :: u :: u :: u :: u :: u :: u :: u :: u :: u :: u :: u :: u :: u :: u :: u :: u :: u :: u :: u :: u :: u :: u :: u :: u :: u :: u :: u :: u :: u :: u :: u :: u :: u :: u :: u :: u :: u :: u :: u :: u :: u :: u :: u :: u :: u :: u :: u :: u :: u :: u :: u :: u :: u :: u :: u :: u :: u :: u :: u :: u :: u :: u :: u :: u :: u :: u :: u :: u :: u :: u :: u :: u :: u :: u :: u :: u :: u :: u :: u :: u :: u :: u :: u :: u :: u :: u :: u :: u :: u :: u :: u :: u :: u :: u :: u :: u :: u :: u :: u :: u :: u :: u :: u :: u :: u :: u :: u :: u :: u :: u :: u :: u :: u :: u :: u :: u :: u :: u :: u :: u :: u :: u :: u :: u :: u :: u :: u :: u :: u :: u :: u :: u :: u :: u :: u :: u :: u :: []) ∧ Own H (⟨m100, 1, a0.Quanta.map (AV.int .i64)⟩ :: ⟨m101, 1, ouw nm_SInt d13 a0.Queues⟩ :: ⟨m102, 1, x14.map (AV.int .i64)⟩ :: ⟨m103, 1, a0.Sent.map (AV.int .i64)⟩ :: ⟨.ptr i0 w0 0 0, 5, [.agg [m100, m101, m102, m103, .int .i64 x4]]⟩ :: ((inn np_SInt (AV.int .i64) 1 d13 a0.Queues) ++ F))) (fun K17 hK17 => ?_) (fun s H hq => ?_)
  · refine w_seq fun K18 hK18 => ?_
    refine w_if ?_
    simp only [W]
    refine w_cnd h (fun hc h => ?_) (fun hc h => ?_)
    · refine w_drawL gC [(16, [])] (by kernel_rfl) rfl (by kernel_rfl) ?_
      try simp only [W, EE, reduceIte, Nat.reduceAdd, Nat.reduceBEq, hS.var 1 rfl, tabAt, qAt, Nat.reduceEqDiff]
      refine w_ow 4 hS rfl rfl rfl rfl rfl h (fun b19 in20 wn20 on20 hb19 h en20 => ?_) qm102.ne
      obtain ⟨kn20, hbn20, hen20⟩ := hS.elem 4 rfl en20 hb19
      try simp only [W, EE, Nat.reduceAdd, Nat.reduceBEq, hS.var 1 rfl, hbn20, hen20]
      refine w_ow 2 hS rfl rfl rfl rfl rfl h (fun b21 in22 wn22 on22 hb21 h en22 => ?_) qm100.ne
      obtain ⟨kn22, hbn22, hen22⟩ := hS.elem 2 rfl en22 hb21
      try simp only [W, EE, hbn22, hen22]
      refine w_ow 4 hS rfl rfl rfl rfl rfl h (fun b23 in24 wn24 on24 hb23 h en24 => ?_) qm102.ne
      obtain ⟨kn24, hbn24, hen24⟩ := hS.elem 4 rfl en24 hb23
      try simp only [W]
      refine w_ste (a := .int .i64 (IntKind.i64.wrap (b19 + b21))) (y' := (IntKind.i64.wrap (b19 + b21))) 4 hS rfl en24 hb23 rfl rfl rfl rfl rfl rfl rfl fun H hS => ?_
      try simp only [W]
      refine seq_n hK18 ?_
      refine w_killE (s' := (.ptr i0 w0 0 0 :: u :: u :: u :: .int .i64 a0.At :: .e0 :: u :: u :: u :: u :: u :: u :: u :: u :: u :: u :: u :: u :: u :: u :: u :: u :: u :: u :: u :: u :: u :: u :: u :: u :: u :: u :: u :: u :: u :: u :: u :: u :: u :: u :: u :: u :: u :: u :: u :: u :: u :: u :: u :: u :: u :: u :: u :: u :: u :: u :: u :: u :: u :: u :: u :: u :: u :: u :: u :: u :: u :: u :: u :: u :: u :: u :: u :: u :: u :: u :: u :: u :: u :: u :: u :: u :: u :: u :: u :: u :: u :: u :: u :: u :: u :: u :: u :: u :: u :: u :: u :: u :: u :: u :: u :: u :: u :: u :: u :: u :: u :: u :: u :: u :: u :: u :: u :: u :: u :: u :: u :: u :: u :: u :: u :: u :: u :: u :: u :: u :: u :: u :: u :: u :: u :: u :: u :: u :: u :: u :: u :: u :: u :: u :: u :: u :: u :: u :: u :: u :: u :: [])) rfl ?_
      have hS : Own _ (⟨v9, 1, b8.map (AV.int .i64)⟩ :: ⟨m101, 1, (ouw nm_SInt d101 a0.Queues).set a0.At.toNat (v9)⟩ :: ((inx np_SInt (AV.int .i64) 1 d101 a0.Queues a0.At.toNat) ++ (⟨.ptr i0 w0 0 0, 5, [.agg [m100, m101, m102, m103, .int .i64 x4]]⟩ :: ⟨m100, 1, a0.Quanta.map (AV.int .i64)⟩ :: ⟨m102, 1, (a0.Credit.set a0.At.toNat (IntKind.i64.wrap (b19 + b21))).map (AV.int .i64)⟩ :: ⟨m103, 1, a0.Sent.map (AV.int .i64)⟩ :: F))) := Own.catI_ (bl := [[⟨v9, 1, b8.map (AV.int .i64)⟩], [⟨.ptr i0 w0 0 0, 5, [.agg [m100, m101, m102, m103, .int .i64 x4]]⟩], [⟨m100, 1, a0.Quanta.map (AV.int .i64)⟩], [⟨m101, 1, (ouw nm_SInt d101 a0.Queues).set a0.At.toNat (v9)⟩], [⟨m102, 1, (a0.Credit.set a0.At.toNat (IntKind.i64.wrap (b19 + b21))).map (AV.int .i64)⟩], [⟨m103, 1, a0.Sent.map (AV.int .i64)⟩], (inx np_SInt (AV.int .i64) 1 d101 a0.Queues a0.At.toNat)]) (F := F) hS 7 rfl [0, 3, 6, 1, 2, 4, 5] (by decide)
      obtain ⟨d25, qd25, hS⟩ := closeN0 (p := np_SInt) (c := (AV.int .i64)) (m := nm_SInt) (b := b8) hS qd101 qv9 hb8
      have hS : Own _ (⟨.ptr i0 w0 0 0, 5, [.agg [m100, m101, m102, m103, .int .i64 x4]]⟩ :: ⟨m100, 1, a0.Quanta.map (AV.int .i64)⟩ :: ⟨m101, 1, ouw nm_SInt d25 a0.Queues⟩ :: ⟨m102, 1, (a0.Credit.set a0.At.toNat (IntKind.i64.wrap (b19 + b21))).map (AV.int .i64)⟩ :: ⟨m103, 1, a0.Sent.map (AV.int .i64)⟩ :: ((inn np_SInt (AV.int .i64) 1 d25 a0.Queues) ++ (F))) := Own.catI_ (bl := [[⟨m101, 1, ouw nm_SInt d25 a0.Queues⟩], (inn np_SInt (AV.int .i64) 1 d25 a0.Queues), [⟨.ptr i0 w0 0 0, 5, [.agg [m100, m101, m102, m103, .int .i64 x4]]⟩], [⟨m100, 1, a0.Quanta.map (AV.int .i64)⟩], [⟨m102, 1, (a0.Credit.set a0.At.toNat (IntKind.i64.wrap (b19 + b21))).map (AV.int .i64)⟩], [⟨m103, 1, a0.Sent.map (AV.int .i64)⟩]]) (F := F) hS 6 rfl [2, 3, 0, 4, 5, 1] (by decide)
      have hS : Own _ (⟨m100, 1, a0.Quanta.map (AV.int .i64)⟩ :: ⟨m101, 1, ouw nm_SInt d25 a0.Queues⟩ :: ⟨m102, 1, (a0.Credit.set a0.At.toNat (IntKind.i64.wrap (b19 + b21))).map (AV.int .i64)⟩ :: ⟨m103, 1, a0.Sent.map (AV.int .i64)⟩ :: ⟨.ptr i0 w0 0 0, 5, [.agg [m100, m101, m102, m103, .int .i64 x4]]⟩ :: ((inn np_SInt (AV.int .i64) 1 d25 a0.Queues) ++ (F))) := Own.catI_ (bl := [[⟨.ptr i0 w0 0 0, 5, [.agg [m100, m101, m102, m103, .int .i64 x4]]⟩], [⟨m100, 1, a0.Quanta.map (AV.int .i64)⟩], [⟨m101, 1, ouw nm_SInt d25 a0.Queues⟩], [⟨m102, 1, (a0.Credit.set a0.At.toNat (IntKind.i64.wrap (b19 + b21))).map (AV.int .i64)⟩], [⟨m103, 1, a0.Sent.map (AV.int .i64)⟩], (inn np_SInt (AV.int .i64) 1 d25 a0.Queues)]) (F := F) hS 6 rfl [1, 2, 3, 4, 0, 5] (by decide)
      exact cut_n hK17 ⟨_, (Option.some.inj h).symm, _, qd25, rfl, hS⟩
    · refine w_skip ?_
      refine seq_n hK18 ?_
      refine w_killE (s' := (.ptr i0 w0 0 0 :: u :: u :: u :: .int .i64 a0.At :: .e0 :: u :: u :: u :: u :: u :: u :: u :: u :: u :: u :: u :: u :: u :: u :: u :: u :: u :: u :: u :: u :: u :: u :: u :: u :: u :: u :: u :: u :: u :: u :: u :: u :: u :: u :: u :: u :: u :: u :: u :: u :: u :: u :: u :: u :: u :: u :: u :: u :: u :: u :: u :: u :: u :: u :: u :: u :: u :: u :: u :: u :: u :: u :: u :: u :: u :: u :: u :: u :: u :: u :: u :: u :: u :: u :: u :: u :: u :: u :: u :: u :: u :: u :: u :: u :: u :: u :: u :: u :: u :: u :: u :: u :: u :: u :: u :: u :: u :: u :: u :: u :: u :: u :: u :: u :: u :: u :: u :: u :: u :: u :: u :: u :: u :: u :: u :: u :: u :: u :: u :: u :: u :: u :: u :: u :: u :: u :: u :: u :: u :: u :: u :: u :: u :: u :: u :: u :: u :: u :: u :: u :: u :: [])) rfl ?_
      have hS : Own _ (⟨v9, 1, b8.map (AV.int .i64)⟩ :: ⟨m101, 1, (ouw nm_SInt d101 a0.Queues).set a0.At.toNat (v9)⟩ :: ((inx np_SInt (AV.int .i64) 1 d101 a0.Queues a0.At.toNat) ++ (⟨.ptr i0 w0 0 0, 5, [.agg [m100, m101, m102, m103, .int .i64 x4]]⟩ :: ⟨m100, 1, a0.Quanta.map (AV.int .i64)⟩ :: ⟨m102, 1, a0.Credit.map (AV.int .i64)⟩ :: ⟨m103, 1, a0.Sent.map (AV.int .i64)⟩ :: F))) := Own.catI_ (bl := [[⟨v9, 1, b8.map (AV.int .i64)⟩], [⟨.ptr i0 w0 0 0, 5, [.agg [m100, m101, m102, m103, .int .i64 x4]]⟩], [⟨m100, 1, a0.Quanta.map (AV.int .i64)⟩], [⟨m101, 1, (ouw nm_SInt d101 a0.Queues).set a0.At.toNat (v9)⟩], [⟨m102, 1, a0.Credit.map (AV.int .i64)⟩], [⟨m103, 1, a0.Sent.map (AV.int .i64)⟩], (inx np_SInt (AV.int .i64) 1 d101 a0.Queues a0.At.toNat)]) (F := F) hS 7 rfl [0, 3, 6, 1, 2, 4, 5] (by decide)
      obtain ⟨d26, qd26, hS⟩ := closeN0 (p := np_SInt) (c := (AV.int .i64)) (m := nm_SInt) (b := b8) hS qd101 qv9 hb8
      have hS : Own _ (⟨.ptr i0 w0 0 0, 5, [.agg [m100, m101, m102, m103, .int .i64 x4]]⟩ :: ⟨m100, 1, a0.Quanta.map (AV.int .i64)⟩ :: ⟨m101, 1, ouw nm_SInt d26 a0.Queues⟩ :: ⟨m102, 1, a0.Credit.map (AV.int .i64)⟩ :: ⟨m103, 1, a0.Sent.map (AV.int .i64)⟩ :: ((inn np_SInt (AV.int .i64) 1 d26 a0.Queues) ++ (F))) := Own.catI_ (bl := [[⟨m101, 1, ouw nm_SInt d26 a0.Queues⟩], (inn np_SInt (AV.int .i64) 1 d26 a0.Queues), [⟨.ptr i0 w0 0 0, 5, [.agg [m100, m101, m102, m103, .int .i64 x4]]⟩], [⟨m100, 1, a0.Quanta.map (AV.int .i64)⟩], [⟨m102, 1, a0.Credit.map (AV.int .i64)⟩], [⟨m103, 1, a0.Sent.map (AV.int .i64)⟩]]) (F := F) hS 6 rfl [2, 3, 0, 4, 5, 1] (by decide)
      have hS : Own _ (⟨m100, 1, a0.Quanta.map (AV.int .i64)⟩ :: ⟨m101, 1, ouw nm_SInt d26 a0.Queues⟩ :: ⟨m102, 1, a0.Credit.map (AV.int .i64)⟩ :: ⟨m103, 1, a0.Sent.map (AV.int .i64)⟩ :: ⟨.ptr i0 w0 0 0, 5, [.agg [m100, m101, m102, m103, .int .i64 x4]]⟩ :: ((inn np_SInt (AV.int .i64) 1 d26 a0.Queues) ++ (F))) := Own.catI_ (bl := [[⟨.ptr i0 w0 0 0, 5, [.agg [m100, m101, m102, m103, .int .i64 x4]]⟩], [⟨m100, 1, a0.Quanta.map (AV.int .i64)⟩], [⟨m101, 1, ouw nm_SInt d26 a0.Queues⟩], [⟨m102, 1, a0.Credit.map (AV.int .i64)⟩], [⟨m103, 1, a0.Sent.map (AV.int .i64)⟩], (inn np_SInt (AV.int .i64) 1 d26 a0.Queues)]) (F := F) hS 6 rfl [1, 2, 3, 4, 0, 5] (by decide)
      exact cut_n hK17 ⟨_, (Option.some.inj h).symm, _, qd26, rfl, hS⟩
  · obtain ⟨x14, ey, d13, qd13, rfl, hS⟩ := hq; obtain rfl := ey.symm
    replace h := g16
    try dsimp only at h
    refine seq_n hK5 ?_
    refine w_seq fun K27 hK27 => ?_
    obtain ⟨y42, hw43, g49⟩ := Option.bind_eq_some_iff.1 h
    refine w_join gC (fun s H => ∃ x36 : List Int, ∃ x38 : List (List Int), ∃ x40 : List Int, ∃ x41 : List Int, y42 = (x36, x38, x40, x41) ∧ ∃ v37 : AV, isSl v37 ∧ ∃ d39 : List AV, isSls d39 (x38).length ∧ s = (.ptr i0 w0 0 0 :: u :: u :: u :: .int .i64 a0.At :: v37 :: u :: u :: u :: u :: u :: u :: u :: u :: u :: u :: u :: u :: u :: u :: u :: u :: u :: u :: u :: u :: u :: u :: u :: u :: u :: u :: u :: u :: u :: u :: u :: u :: u :: u :: u :: u :: u :: u :: u :: u :: u :: u :: u :: u :: u :: u :: u :: u :: u :: u :: u :: u :: u :: u :: u :: u :: u :: u :: u :: u :: u :: u :: u :: u :: u :: u :: u :: u :: u :: u :: u :: u :: u :: u :: u :: u :: u :: u :: u :: u :: u :: u :: u :: u :: u :: u :: u :: u :: u :: u :: u :: u :: u :: u :: u :: u :: u :: u :: u :: u :: u :: u :: u :: u :: u :: u :: u :: u :: u :: u :: u :: u :: u :: u :: u :: u :: u :: u :: u :: u :: u :: u :: u :: u :: u :: u :: u :: u :: u :: u :: u :: u :: u :: u :: u :: u :: u :: u :: u :: u :: u :: []) ∧ Own H (⟨v37, 1, x36.map (AV.int .i64)⟩ :: ⟨m100, 1, a0.Quanta.map (AV.int .i64)⟩ :: ⟨m101, 1, ouw nm_SInt d39 x38⟩ :: ⟨m102, 1, x40.map (AV.int .i64)⟩ :: ⟨m103, 1, x41.map (AV.int .i64)⟩ :: ⟨.ptr i0 w0 0 0, 5, [.agg [m100, m101, m102, m103, .int .i64 x4]]⟩ :: ((inn np_SInt (AV.int .i64) 1 d39 x38) ++ F))) (fun K44 hK44 => ?_) (fun s H hq => ?_)
    · refine w_blk fun K45 hK45 => ?_
      have hS := hS.e0_ 1
      refine w_loop gC hw43 (fun x s H => match x with | (x29, x32, x34, x35) => ∃ v30 : AV, isSl v30 ∧ ∃ d33 : List AV, isSls d33 (x32).length ∧ s = (.ptr i0 w0 0 0 :: u :: u :: u :: .int .i64 a0.At :: v30 :: u :: u :: u :: u :: u :: u :: u :: u :: u :: u :: u :: u :: u :: u :: u :: u :: u :: u :: u :: u :: u :: u :: u :: u :: u :: u :: u :: u :: u :: u :: u :: u :: u :: u :: u :: u :: u :: u :: u :: u :: u :: u :: u :: u :: u :: u :: u :: u :: u :: u :: u :: u :: u :: u :: u :: u :: u :: u :: u :: u :: u :: u :: u :: u :: u :: u :: u :: u :: u :: u :: u :: u :: u :: u :: u :: u :: u :: u :: u :: u :: u :: u :: u :: u :: u :: u :: u :: u :: u :: u :: u :: u :: u :: u :: u :: u :: u :: u :: u :: u :: u :: u :: u :: u :: u :: u :: u :: u :: u :: u :: u :: u :: u :: u :: u :: u :: u :: u :: u :: u :: u :: u :: u :: u :: u :: u :: u :: u :: u :: u :: u :: u :: u :: u :: u :: u :: u :: u :: u :: u :: u :: []) ∧ Own H (⟨v30, 1, x29.map (AV.int .i64)⟩ :: ⟨m100, 1, a0.Quanta.map (AV.int .i64)⟩ :: ⟨m101, 1, ouw nm_SInt d33 x32⟩ :: ⟨m102, 1, x34.map (AV.int .i64)⟩ :: ⟨m103, 1, x35.map (AV.int .i64)⟩ :: ⟨.ptr i0 w0 0 0, 5, [.agg [m100, m101, m102, m103, .int .i64 x4]]⟩ :: ((inn np_SInt (AV.int .i64) 1 d33 x32) ++ F))) ⟨_, isSl_e0, _, qd13, rfl, hS⟩ (fun x y48 s H h hd47 hi K46 hK46 => ?_)
      obtain ⟨x29, x32, x34, x35⟩ := x
      try dsimp only at hi
      obtain ⟨v30, qv30, d33, qd33, rfl, hS⟩ := hi
      simp only [impl_Turns_turn_l0] at h
      refine w_seq fun K50 hK50 => ?_
      refine w_seq fun K51 hK51 => ?_
      obtain ⟨y56, h, g57⟩ := Option.bind_eq_some_iff.1 h
      refine w_join gC (fun s H => ∃ x54 : Bool, y56 = (x54) ∧ ∃ d55 : List AV, isSls d55 (x32).length ∧ s = (.ptr i0 w0 0 0 :: u :: u :: u :: .int .i64 a0.At :: v30 :: u :: u :: u :: u :: u :: u :: u :: u :: u :: u :: u :: u :: u :: u :: u :: u :: u :: u :: u :: u :: u :: u :: u :: u :: u :: u :: u :: u :: u :: u :: u :: u :: u :: u :: u :: u :: u :: u :: u :: u :: u :: u :: u :: u :: u :: u :: u :: u :: u :: u :: u :: u :: u :: u :: u :: u :: u :: u :: u :: u :: u :: u :: u :: u :: u :: u :: u :: u :: u :: .bool x54 :: u :: u :: u :: u :: u :: u :: u :: u :: u :: u :: u :: u :: u :: u :: u :: u :: u :: u :: u :: u :: u :: u :: u :: u :: u :: u :: u :: u :: u :: u :: u :: u :: u :: u :: u :: u :: u :: u :: u :: u :: u :: u :: u :: u :: u :: u :: u :: u :: u :: u :: u :: u :: u :: u :: u :: u :: u :: u :: u :: u :: u :: u :: u :: u :: u :: u :: u :: u :: u :: u :: u :: []) ∧ Own H (⟨v30, 1, x29.map (AV.int .i64)⟩ :: ⟨m100, 1, a0.Quanta.map (AV.int .i64)⟩ :: ⟨m101, 1, ouw nm_SInt d55 x32⟩ :: ⟨m102, 1, x34.map (AV.int .i64)⟩ :: ⟨m103, 1, x35.map (AV.int .i64)⟩ :: ⟨.ptr i0 w0 0 0, 5, [.agg [m100, m101, m102, m103, .int .i64 x4]]⟩ :: ((inn np_SInt (AV.int .i64) 1 d55 x32) ++ F))) (fun K58 hK58 => ?_) (fun s H hq => ?_)
      · refine w_seq fun K59 hK59 => ?_
        refine w_draw0 gC (by kernel_rfl) ?_
        try simp only [W, EE, Nat.reduceAdd, Nat.reduceBEq, hS.var 5 rfl]
        obtain ⟨b61, hb61, h⟩ := Option.bind_eq_some_iff.1 h
        have hS : Own _ (⟨m101, 1, ouw nm_SInt d33 x32⟩ :: ((inn np_SInt (AV.int .i64) 1 d33 x32) ++ (⟨v30, 1, x29.map (AV.int .i64)⟩ :: ⟨m100, 1, a0.Quanta.map (AV.int .i64)⟩ :: ⟨m102, 1, x34.map (AV.int .i64)⟩ :: ⟨m103, 1, x35.map (AV.int .i64)⟩ :: ⟨.ptr i0 w0 0 0, 5, [.agg [m100, m101, m102, m103, .int .i64 x4]]⟩ :: F))) := Own.catI_ (bl := [[⟨v30, 1, x29.map (AV.int .i64)⟩], [⟨m100, 1, a0.Quanta.map (AV.int .i64)⟩], [⟨m101, 1, ouw nm_SInt d33 x32⟩], [⟨m102, 1, x34.map (AV.int .i64)⟩], [⟨m103, 1, x35.map (AV.int .i64)⟩], [⟨.ptr i0 w0 0 0, 5, [.agg [m100, m101, m102, m103, .int .i64 x4]]⟩], (inn np_SInt (AV.int .i64) 1 d33 x32)]) (F := F) hS 7 rfl [2, 6, 0, 1, 3, 4, 5] (by decide)
        obtain ⟨v62, qv62, hS⟩ := openN (p := np_SInt) (c := (AV.int .i64)) (m := nm_SInt) (b := b61) hS qd33 hb61
        have hS : Own _ (⟨v62, 1, b61.map (AV.int .i64)⟩ :: ⟨v30, 1, x29.map (AV.int .i64)⟩ :: ⟨m100, 1, a0.Quanta.map (AV.int .i64)⟩ :: ⟨m101, 1, (ouw nm_SInt d33 x32).set a0.At.toNat (v62)⟩ :: ⟨m102, 1, x34.map (AV.int .i64)⟩ :: ⟨m103, 1, x35.map (AV.int .i64)⟩ :: ⟨.ptr i0 w0 0 0, 5, [.agg [m100, m101, m102, m103, .int .i64 x4]]⟩ :: ((inx np_SInt (AV.int .i64) 1 d33 x32 a0.At.toNat) ++ (F))) := Own.catI_ (bl := [[⟨v62, 1, b61.map (AV.int .i64)⟩], [⟨m101, 1, (ouw nm_SInt d33 x32).set a0.At.toNat (v62)⟩], (inx np_SInt (AV.int .i64) 1 d33 x32 a0.At.toNat), [⟨v30, 1, x29.map (AV.int .i64)⟩], [⟨m100, 1, a0.Quanta.map (AV.int .i64)⟩], [⟨m102, 1, x34.map (AV.int .i64)⟩], [⟨m103, 1, x35.map (AV.int .i64)⟩], [⟨.ptr i0 w0 0 0, 5, [.agg [m100, m101, m102, m103, .int .i64 x4]]⟩]]) (F := F) hS 8 rfl [0, 3, 4, 1, 5, 6, 7, 2] (by decide)
        refine w_owE (x := v62) 3 hS rfl rfl rfl rfl rfl (idx_some hb61).1 (holeG qd33 hb61) qm101 (fun in60 wn60 on60 en60 hkn60 => ?_)
        obtain ⟨kn60, hbn60, hen60⟩ := hkn60
        try simp only [W, EE, hbn60, hen60, qv62.rd]
        refine w_len 0 hS rfl qv62 rfl ?_
        try simp only [W, EE]
        refine w_grdT h (fun hc h => ?_) (fun hc h => ?_)
        · try simp only [W, EE, Nat.reduceAdd, Nat.reduceBEq, hS.var 6 rfl, hc]
          refine w_owE (x := v62) 3 hS rfl rfl rfl rfl rfl (idx_some hb61).1 (holeG qd33 hb61) qm101 (fun in64 wn64 on64 en64 hkn64 => ?_)
          obtain ⟨kn64, hbn64, hen64⟩ := hkn64
          try simp only [W, EE, hbn64, hen64, qv62.rd]
          refine w_ow 0 hS rfl rfl rfl rfl rfl h (fun b65 in66 wn66 on66 hb65 h en66 => ?_) qv62.ne
          obtain ⟨kn66, hbn66, hen66⟩ := hS.elem 0 rfl en66 hb65
          try simp only [W, EE, Nat.reduceAdd, Nat.reduceBEq, hS.var 6 rfl, hbn66, hen66]
          refine w_ow 4 hS rfl rfl rfl rfl rfl h (fun b67 in68 wn68 on68 hb67 h en68 => ?_) qm102.ne
          obtain ⟨kn68, hbn68, hen68⟩ := hS.elem 4 rfl en68 hb67
          try simp only [W, EE, reduceIte, hbn68, hen68]
          refine seq_n hK59 ?_
          refine w_killE (s' := (.ptr i0 w0 0 0 :: u :: u :: u :: .int .i64 a0.At :: v30 :: u :: u :: u :: u :: u :: u :: u :: u :: u :: u :: u :: u :: u :: u :: u :: u :: u :: u :: u :: u :: u :: u :: u :: u :: u :: u :: u :: u :: u :: u :: u :: u :: u :: u :: u :: u :: u :: u :: u :: u :: u :: u :: u :: u :: u :: u :: u :: u :: u :: u :: u :: u :: u :: u :: u :: u :: u :: u :: u :: u :: u :: u :: u :: u :: u :: u :: u :: u :: u :: .bool (decide (b65 ≤ b67)) :: u :: u :: u :: u :: u :: u :: u :: u :: u :: u :: u :: u :: u :: u :: u :: u :: u :: u :: u :: u :: u :: u :: u :: u :: u :: u :: u :: u :: u :: u :: u :: u :: u :: u :: u :: u :: u :: u :: u :: u :: u :: u :: u :: u :: u :: u :: u :: u :: u :: u :: u :: u :: u :: u :: u :: u :: u :: u :: u :: u :: u :: u :: u :: u :: u :: u :: u :: u :: u :: u :: u :: [])) rfl ?_
          have hS : Own _ (⟨v62, 1, b61.map (AV.int .i64)⟩ :: ⟨m101, 1, (ouw nm_SInt d33 x32).set a0.At.toNat (v62)⟩ :: ((inx np_SInt (AV.int .i64) 1 d33 x32 a0.At.toNat) ++ (⟨v30, 1, x29.map (AV.int .i64)⟩ :: ⟨m100, 1, a0.Quanta.map (AV.int .i64)⟩ :: ⟨m102, 1, x34.map (AV.int .i64)⟩ :: ⟨m103, 1, x35.map (AV.int .i64)⟩ :: ⟨.ptr i0 w0 0 0, 5, [.agg [m100, m101, m102, m103, .int .i64 x4]]⟩ :: F))) := Own.catI_ (bl := [[⟨v62, 1, b61.map (AV.int .i64)⟩], [⟨v30, 1, x29.map (AV.int .i64)⟩], [⟨m100, 1, a0.Quanta.map (AV.int .i64)⟩], [⟨m101, 1, (ouw nm_SInt d33 x32).set a0.At.toNat (v62)⟩], [⟨m102, 1, x34.map (AV.int .i64)⟩], [⟨m103, 1, x35.map (AV.int .i64)⟩], [⟨.ptr i0 w0 0 0, 5, [.agg [m100, m101, m102, m103, .int .i64 x4]]⟩], (inx np_SInt (AV.int .i64) 1 d33 x32 a0.At.toNat)]) (F := F) hS 8 rfl [0, 3, 7, 1, 2, 4, 5, 6] (by decide)
          obtain ⟨d69, qd69, hS⟩ := closeN0 (p := np_SInt) (c := (AV.int .i64)) (m := nm_SInt) (b := b61) hS qd33 qv62 hb61
          have hS : Own _ (⟨v30, 1, x29.map (AV.int .i64)⟩ :: ⟨m100, 1, a0.Quanta.map (AV.int .i64)⟩ :: ⟨m101, 1, ouw nm_SInt d69 x32⟩ :: ⟨m102, 1, x34.map (AV.int .i64)⟩ :: ⟨m103, 1, x35.map (AV.int .i64)⟩ :: ⟨.ptr i0 w0 0 0, 5, [.agg [m100, m101, m102, m103, .int .i64 x4]]⟩ :: ((inn np_SInt (AV.int .i64) 1 d69 x32) ++ (F))) := Own.catI_ (bl := [[⟨m101, 1, ouw nm_SInt d69 x32⟩], (inn np_SInt (AV.int .i64) 1 d69 x32), [⟨v30, 1, x29.map (AV.int .i64)⟩], [⟨m100, 1, a0.Quanta.map (AV.int .i64)⟩], [⟨m102, 1, x34.map (AV.int .i64)⟩], [⟨m103, 1, x35.map (AV.int .i64)⟩], [⟨.ptr i0 w0 0 0, 5, [.agg [m100, m101, m102, m103, .int .i64 x4]]⟩]]) (F := F) hS 7 rfl [2, 3, 0, 4, 5, 6, 1] (by decide)
          exact cut_n hK58 ⟨_, (Option.some.inj h).symm, _, qd69, rfl, hS⟩
        · try simp only [W, hc]
          refine seq_n hK59 ?_
          refine w_killE (s' := (.ptr i0 w0 0 0 :: u :: u :: u :: .int .i64 a0.At :: v30 :: u :: u :: u :: u :: u :: u :: u :: u :: u :: u :: u :: u :: u :: u :: u :: u :: u :: u :: u :: u :: u :: u :: u :: u :: u :: u :: u :: u :: u :: u :: u :: u :: u :: u :: u :: u :: u :: u :: u :: u :: u :: u :: u :: u :: u :: u :: u :: u :: u :: u :: u :: u :: u :: u :: u :: u :: u :: u :: u :: u :: u :: u :: u :: u :: u :: u :: u :: u :: u :: .bool false :: u :: u :: u :: u :: u :: u :: u :: u :: u :: u :: u :: u :: u :: u :: u :: u :: u :: u :: u :: u :: u :: u :: u :: u :: u :: u :: u :: u :: u :: u :: u :: u :: u :: u :: u :: u :: u :: u :: u :: u :: u :: u :: u :: u :: u :: u :: u :: u :: u :: u :: u :: u :: u :: u :: u :: u :: u :: u :: u :: u :: u :: u :: u :: u :: u :: u :: u :: u :: u :: u :: u :: [])) rfl ?_
          have hS : Own _ (⟨v62, 1, b61.map (AV.int .i64)⟩ :: ⟨m101, 1, (ouw nm_SInt d33 x32).set a0.At.toNat (v62)⟩ :: ((inx np_SInt (AV.int .i64) 1 d33 x32 a0.At.toNat) ++ (⟨v30, 1, x29.map (AV.int .i64)⟩ :: ⟨m100, 1, a0.Quanta.map (AV.int .i64)⟩ :: ⟨m102, 1, x34.map (AV.int .i64)⟩ :: ⟨m103, 1, x35.map (AV.int .i64)⟩ :: ⟨.ptr i0 w0 0 0, 5, [.agg [m100, m101, m102, m103, .int .i64 x4]]⟩ :: F))) := Own.catI_ (bl := [[⟨v62, 1, b61.map (AV.int .i64)⟩], [⟨v30, 1, x29.map (AV.int .i64)⟩], [⟨m100, 1, a0.Quanta.map (AV.int .i64)⟩], [⟨m101, 1, (ouw nm_SInt d33 x32).set a0.At.toNat (v62)⟩], [⟨m102, 1, x34.map (AV.int .i64)⟩], [⟨m103, 1, x35.map (AV.int .i64)⟩], [⟨.ptr i0 w0 0 0, 5, [.agg [m100, m101, m102, m103, .int .i64 x4]]⟩], (inx np_SInt (AV.int .i64) 1 d33 x32 a0.At.toNat)]) (F := F) hS 8 rfl [0, 3, 7, 1, 2, 4, 5, 6] (by decide)
          obtain ⟨d70, qd70, hS⟩ := closeN0 (p := np_SInt) (c := (AV.int .i64)) (m := nm_SInt) (b := b61) hS qd33 qv62 hb61
          have hS : Own _ (⟨v30, 1, x29.map (AV.int .i64)⟩ :: ⟨m100, 1, a0.Quanta.map (AV.int .i64)⟩ :: ⟨m101, 1, ouw nm_SInt d70 x32⟩ :: ⟨m102, 1, x34.map (AV.int .i64)⟩ :: ⟨m103, 1, x35.map (AV.int .i64)⟩ :: ⟨.ptr i0 w0 0 0, 5, [.agg [m100, m101, m102, m103, .int .i64 x4]]⟩ :: ((inn np_SInt (AV.int .i64) 1 d70 x32) ++ (F))) := Own.catI_ (bl := [[⟨m101, 1, ouw nm_SInt d70 x32⟩], (inn np_SInt (AV.int .i64) 1 d70 x32), [⟨v30, 1, x29.map (AV.int .i64)⟩], [⟨m100, 1, a0.Quanta.map (AV.int .i64)⟩], [⟨m102, 1, x34.map (AV.int .i64)⟩], [⟨m103, 1, x35.map (AV.int .i64)⟩], [⟨.ptr i0 w0 0 0, 5, [.agg [m100, m101, m102, m103, .int .i64 x4]]⟩]]) (F := F) hS 7 rfl [2, 3, 0, 4, 5, 6, 1] (by decide)
          exact cut_n hK58 ⟨_, (Option.some.inj h).symm, _, qd70, rfl, hS⟩
      · obtain ⟨x54, ey, d55, qd55, rfl, hS⟩ := hq; obtain rfl := ey.symm
        replace h := g57
        try dsimp only at h
        refine seq_n hK51 ?_
        refine w_if ?_
        simp only [W]
        refine w_cnd h (fun hc h => ?_) (fun hc h => ?_)
        · refine w_skip ?_
          refine seq_n hK50 ?_
          refine w_blk fun K71 hK71 => ?_
          refine w_seq fun K72 hK72 => ?_
          refine w_reg gC ?_
          try simp only [W, EE, Nat.reduceAdd, Nat.reduceBEq, hS.var 5 rfl]
          obtain ⟨b74, hb74, h⟩ := Option.bind_eq_some_iff.1 h
          have hS : Own _ (⟨m101, 1, ouw nm_SInt d55 x32⟩ :: ((inn np_SInt (AV.int .i64) 1 d55 x32) ++ (⟨v30, 1, x29.map (AV.int .i64)⟩ :: ⟨m100, 1, a0.Quanta.map (AV.int .i64)⟩ :: ⟨m102, 1, x34.map (AV.int .i64)⟩ :: ⟨m103, 1, x35.map (AV.int .i64)⟩ :: ⟨.ptr i0 w0 0 0, 5, [.agg [m100, m101, m102, m103, .int .i64 x4]]⟩ :: F))) := Own.catI_ (bl := [[⟨v30, 1, x29.map (AV.int .i64)⟩], [⟨m100, 1, a0.Quanta.map (AV.int .i64)⟩], [⟨m101, 1, ouw nm_SInt d55 x32⟩], [⟨m102, 1, x34.map (AV.int .i64)⟩], [⟨m103, 1, x35.map (AV.int .i64)⟩], [⟨.ptr i0 w0 0 0, 5, [.agg [m100, m101, m102, m103, .int .i64 x4]]⟩], (inn np_SInt (AV.int .i64) 1 d55 x32)]) (F := F) hS 7 rfl [2, 6, 0, 1, 3, 4, 5] (by decide)
          obtain ⟨v75, qv75, hS⟩ := openN (p := np_SInt) (c := (AV.int .i64)) (m := nm_SInt) (b := b74) hS qd55 hb74
          have hS : Own _ (⟨v75, 1, b74.map (AV.int .i64)⟩ :: ⟨v30, 1, x29.map (AV.int .i64)⟩ :: ⟨m100, 1, a0.Quanta.map (AV.int .i64)⟩ :: ⟨m101, 1, (ouw nm_SInt d55 x32).set a0.At.toNat (v75)⟩ :: ⟨m102, 1, x34.map (AV.int .i64)⟩ :: ⟨m103, 1, x35.map (AV.int .i64)⟩ :: ⟨.ptr i0 w0 0 0, 5, [.agg [m100, m101, m102, m103, .int .i64 x4]]⟩ :: ((inx np_SInt (AV.int .i64) 1 d55 x32 a0.At.toNat) ++ (F))) := Own.catI_ (bl := [[⟨v75, 1, b74.map (AV.int .i64)⟩], [⟨m101, 1, (ouw nm_SInt d55 x32).set a0.At.toNat (v75)⟩], (inx np_SInt (AV.int .i64) 1 d55 x32 a0.At.toNat), [⟨v30, 1, x29.map (AV.int .i64)⟩], [⟨m100, 1, a0.Quanta.map (AV.int .i64)⟩], [⟨m102, 1, x34.map (AV.int .i64)⟩], [⟨m103, 1, x35.map (AV.int .i64)⟩], [⟨.ptr i0 w0 0 0, 5, [.agg [m100, m101, m102, m103, .int .i64 x4]]⟩]]) (F := F) hS 8 rfl [0, 3, 4, 1, 5, 6, 7, 2] (by decide)
          refine w_owE (x := v75) 3 hS rfl rfl rfl rfl rfl (idx_some hb74).1 (holeG qd55 hb74) qm101 (fun in73 wn73 on73 en73 hkn73 => ?_)
          obtain ⟨kn73, hbn73, hen73⟩ := hkn73
          try simp only [W, EE, hbn73, hen73, qv75.rd]
          refine w_ow 0 hS rfl rfl rfl rfl rfl h (fun b77 in78 wn78 on78 hb77 h en78 => ?_) qv75.ne
          obtain ⟨kn78, hbn78, hen78⟩ := hS.elem 0 rfl en78 hb77
          try simp only [W, EE, hbn78, hen78]
          refine seq_n hK72 ?_
          refine w_seq fun K79 hK79 => ?_
          refine w_drawL gC [(14, [])] (by kernel_rfl) rfl (by kernel_rfl) ?_
          try simp only [W, EE, reduceIte, Nat.reduceAdd, Nat.reduceBEq, hS.var 6 rfl, tabAt, qAt, Nat.reduceEqDiff]
          refine w_owE (x := v75) 3 hS rfl rfl rfl rfl rfl (idx_some hb74).1 (holeG qd55 hb74) qm101 (fun in80 wn80 on80 en80 hkn80 => ?_)
          obtain ⟨kn80, hbn80, hen80⟩ := hkn80
          try simp only [W, EE, hbn80, hen80, qv75.rd]
          refine w_slO 0 hS rfl qv75 rfl rfl rfl h fun v82 x81 qv82 hx81 h hS => ?_
          try simp only [W, EE]
          refine w_owE (x := v75) 3 hS rfl rfl rfl rfl rfl (idx_some hb74).1 (holeG qd55 hb74) qm101 (fun in84 wn84 on84 en84 hkn84 => ?_)
          obtain ⟨kn84, hbn84, hen84⟩ := hkn84
          try simp only [W]
          refine w_stE (a := v82) (y' := v82) (i := a0.At.toNat) 3 hS rfl en84 (holeG qd55 hb74) rfl rfl rfl (by rw [qv82.cells]; rfl) qv82.stora (qv82.wr2 qv75) (by first | rfl | (rw [qv82.cells]; rfl)) (List.set_set ..) fun H hS => ?_
          try simp only [W]
          refine seq_n hK79 ?_
          refine w_seq fun K85 hK85 => ?_
          refine w_reg gC ?_
          try simp only [W, EE, Nat.reduceAdd, Nat.reduceBEq, hS.var 6 rfl]
          refine w_ow 4 hS rfl rfl rfl rfl rfl h (fun b86 in87 wn87 on87 hb86 h en87 => ?_) qm102.ne
          obtain ⟨kn87, hbn87, hen87⟩ := hS.elem 4 rfl en87 hb86
          try simp only [W, EE, hbn87, hen87]
          refine w_ow 4 hS rfl rfl rfl rfl rfl h (fun b88 in89 wn89 on89 hb88 h en89 => ?_) qm102.ne
          obtain ⟨kn89, hbn89, hen89⟩ := hS.elem 4 rfl en89 hb88
          try simp only [W]
          refine w_ste (a := .int .i64 (IntKind.i64.wrap (b86 - b77))) (y' := (IntKind.i64.wrap (b86 - b77))) 4 hS rfl en89 hb88 rfl rfl rfl rfl rfl rfl rfl fun H hS => ?_
          try simp only [W]
          refine seq_n hK85 ?_
          refine w_seq fun K90 hK90 => ?_
          refine w_reg gC ?_
          try simp only [W, EE, Nat.reduceAdd, Nat.reduceBEq, hS.var 6 rfl]
          refine w_ow 5 hS rfl rfl rfl rfl rfl h (fun b91 in92 wn92 on92 hb91 h en92 => ?_) qm103.ne
          obtain ⟨kn92, hbn92, hen92⟩ := hS.elem 5 rfl en92 hb91
          try simp only [W, EE, hbn92, hen92]
          refine w_ow 5 hS rfl rfl rfl rfl rfl h (fun b93 in94 wn94 on94 hb93 h en94 => ?_) qm103.ne
          obtain ⟨kn94, hbn94, hen94⟩ := hS.elem 5 rfl en94 hb93
          try simp only [W]
          refine w_ste (a := .int .i64 (IntKind.i64.wrap (b91 + b77))) (y' := (IntKind.i64.wrap (b91 + b77))) 5 hS rfl en94 hb93 rfl rfl rfl rfl rfl rfl rfl fun H hS => ?_
          try simp only [W]
          refine seq_n hK90 ?_
          refine w_reg gC ?_
          try simp only [W, Nat.reduceAdd]
          refine w_lit (el := ([b77] : List Int).map (AV.int .i64)) hS rfl rfl rfl rfl rfl rfl rfl fun v95 H qv95 hS => ?_
          try simp only [W, EE]
          refine w_appV (l := x29) (c := (AV.int .i64)) 2 hS rfl qv30 rfl rfl rfl (hS.elems 0 rfl qv95) (fun _ => rfl) rfl h fun v98 H x97 qv98 hm h hS => ?_
          try simp only [W]
          refine blk_n0 hK71 ?_
          have hS : Own _ (⟨v82, 1, x81.map (AV.int .i64)⟩ :: ⟨m101, 1, (ouw nm_SInt d55 x32).set a0.At.toNat (v82)⟩ :: ((inx np_SInt (AV.int .i64) 1 d55 x32 a0.At.toNat) ++ (⟨v95, 1, ([b77] : List Int).map (AV.int .i64)⟩ :: ⟨v98, 1, x97.map (AV.int .i64)⟩ :: ⟨m100, 1, a0.Quanta.map (AV.int .i64)⟩ :: ⟨m102, 1, (x34.set a0.At.toNat (IntKind.i64.wrap (b86 - b77))).map (AV.int .i64)⟩ :: ⟨m103, 1, (x35.set a0.At.toNat (IntKind.i64.wrap (b91 + b77))).map (AV.int .i64)⟩ :: ⟨.ptr i0 w0 0 0, 5, [.agg [m100, m101, m102, m103, .int .i64 x4]]⟩ :: F))) := Own.catI_ (bl := [[⟨v95, 1, ([b77] : List Int).map (AV.int .i64)⟩], [⟨v82, 1, x81.map (AV.int .i64)⟩], [⟨v98, 1, x97.map (AV.int .i64)⟩], [⟨m100, 1, a0.Quanta.map (AV.int .i64)⟩], [⟨m101, 1, (ouw nm_SInt d55 x32).set a0.At.toNat (v82)⟩], [⟨m102, 1, (x34.set a0.At.toNat (IntKind.i64.wrap (b86 - b77))).map (AV.int .i64)⟩], [⟨m103, 1, (x35.set a0.At.toNat (IntKind.i64.wrap (b91 + b77))).map (AV.int .i64)⟩], [⟨.ptr i0 w0 0 0, 5, [.agg [m100, m101, m102, m103, .int .i64 x4]]⟩], (inx np_SInt (AV.int .i64) 1 d55 x32 a0.At.toNat)]) (F := F) hS 9 rfl [1, 4, 8, 0, 2, 3, 5, 6, 7] (by decide)
          obtain ⟨d100, qd100, hS⟩ := closeN (p := np_SInt) (c := (AV.int .i64)) (m := nm_SInt) (b := b74) (y := x81) hS qd55 qv82 hb74
          have hS : Own _ (⟨v95, 1, ([b77] : List Int).map (AV.int .i64)⟩ :: ⟨v98, 1, x97.map (AV.int .i64)⟩ :: ⟨m100, 1, a0.Quanta.map (AV.int .i64)⟩ :: ⟨m101, 1, ouw nm_SInt d100 (x32.set a0.At.toNat x81)⟩ :: ⟨m102, 1, (x34.set a0.At.toNat (IntKind.i64.wrap (b86 - b77))).map (AV.int .i64)⟩ :: ⟨m103, 1, (x35.set a0.At.toNat (IntKind.i64.wrap (b91 + b77))).map (AV.int .i64)⟩ :: ⟨.ptr i0 w0 0 0, 5, [.agg [m100, m101, m102, m103, .int .i64 x4]]⟩ :: ((inn np_SInt (AV.int .i64) 1 d100 (x32.set a0.At.toNat x81)) ++ (F))) := Own.catI_ (bl := [[⟨m101, 1, ouw nm_SInt d100 (x32.set a0.At.toNat x81)⟩], (inn np_SInt (AV.int .i64) 1 d100 (x32.set a0.At.toNat x81)), [⟨v95, 1, ([b77] : List Int).map (AV.int .i64)⟩], [⟨v98, 1, x97.map (AV.int .i64)⟩], [⟨m100, 1, a0.Quanta.map (AV.int .i64)⟩], [⟨m102, 1, (x34.set a0.At.toNat (IntKind.i64.wrap (b86 - b77))).map (AV.int .i64)⟩], [⟨m103, 1, (x35.set a0.At.toNat (IntKind.i64.wrap (b91 + b77))).map (AV.int .i64)⟩], [⟨.ptr i0 w0 0 0, 5, [.agg [m100, m101, m102, m103, .int .i64 x4]]⟩]]) (F := F) hS 8 rfl [2, 3, 4, 0, 5, 6, 7, 1] (by decide)
          have hS : Own _ (⟨v98, 1, x97.map (AV.int .i64)⟩ :: ⟨m100, 1, a0.Quanta.map (AV.int .i64)⟩ :: ⟨m101, 1, ouw nm_SInt d100 (x32.set a0.At.toNat x81)⟩ :: ⟨m102, 1, (x34.set a0.At.toNat (IntKind.i64.wrap (b86 - b77))).map (AV.int .i64)⟩ :: ⟨m103, 1, (x35.set a0.At.toNat (IntKind.i64.wrap (b91 + b77))).map (AV.int .i64)⟩ :: ⟨.ptr i0 w0 0 0, 5, [.agg [m100, m101, m102, m103, .int .i64 x4]]⟩ :: ((inn np_SInt (AV.int .i64) 1 d100 (x32.set a0.At.toNat x81)) ++ (F))) := Own.catI_ (bl := [[⟨v95, 1, ([b77] : List Int).map (AV.int .i64)⟩], [⟨v98, 1, x97.map (AV.int .i64)⟩], [⟨m100, 1, a0.Quanta.map (AV.int .i64)⟩], [⟨m101, 1, ouw nm_SInt d100 (x32.set a0.At.toNat x81)⟩], [⟨m102, 1, (x34.set a0.At.toNat (IntKind.i64.wrap (b86 - b77))).map (AV.int .i64)⟩], [⟨m103, 1, (x35.set a0.At.toNat (IntKind.i64.wrap (b91 + b77))).map (AV.int .i64)⟩], [⟨.ptr i0 w0 0 0, 5, [.agg [m100, m101, m102, m103, .int .i64 x4]]⟩], (inn np_SInt (AV.int .i64) 1 d100 (x32.set a0.At.toNat x81))]) (F := F) hS 8 rfl [1, 2, 3, 4, 5, 6, 7] (by decide)
          exact lp_n hK46 h ⟨_, qv98, _, qd100, rfl, hS⟩
        · refine w_exit ?_
          refine seq_x hK50 ?_
          try obtain rfl := Option.some.inj h
          obtain rfl := hd47 _ rfl
          have h : (some (x29, x32, x34, x35) : Option ((List Int) × (List (List Int)) × (List Int) × (List Int))) = some (x29, x32, x34, x35) := rfl
          refine lp_x hK46 ?_
          refine blk_e hK45 ?_
          exact cut_n hK44 ⟨_, _, _, _, (Option.some.inj h).symm, _, qv30, _, qd55, rfl, hS⟩
    · obtain ⟨x36, x38, x40, x41, rfl, v37, qv37, d39, qd39, rfl, hS⟩ := hq
      replace h := g49
      try dsimp only at h
      refine seq_n hK27 ?_
      refine w_seq fun K104 hK104 => ?_
      refine w_seq fun K105 hK105 => ?_
      refine w_reg gC ?_
      try simp only [W, EE, Nat.reduceAdd, Nat.reduceBEq, hS.var 5 rfl]
      obtain ⟨b107, hb107, h⟩ := Option.bind_eq_some_iff.1 h
      have hS : Own _ (⟨m101, 1, ouw nm_SInt d39 x38⟩ :: ((inn np_SInt (AV.int .i64) 1 d39 x38) ++ (⟨v37, 1, x36.map (AV.int .i64)⟩ :: ⟨m100, 1, a0.Quanta.map (AV.int .i64)⟩ :: ⟨m102, 1, x40.map (AV.int .i64)⟩ :: ⟨m103, 1, x41.map (AV.int .i64)⟩ :: ⟨.ptr i0 w0 0 0, 5, [.agg [m100, m101, m102, m103, .int .i64 x4]]⟩ :: F))) := Own.catI_ (bl := [[⟨v37, 1, x36.map (AV.int .i64)⟩], [⟨m100, 1, a0.Quanta.map (AV.int .i64)⟩], [⟨m101, 1, ouw nm_SInt d39 x38⟩], [⟨m102, 1, x40.map (AV.int .i64)⟩], [⟨m103, 1, x41.map (AV.int .i64)⟩], [⟨.ptr i0 w0 0 0, 5, [.agg [m100, m101, m102, m103, .int .i64 x4]]⟩], (inn np_SInt (AV.int .i64) 1 d39 x38)]) (F := F) hS 7 rfl [2, 6, 0, 1, 3, 4, 5] (by decide)
      obtain ⟨v108, qv108, hS⟩ := openN (p := np_SInt) (c := (AV.int .i64)) (m := nm_SInt) (b := b107) hS qd39 hb107
      have hS : Own _ (⟨v108, 1, b107.map (AV.int .i64)⟩ :: ⟨v37, 1, x36.map (AV.int .i64)⟩ :: ⟨m100, 1, a0.Quanta.map (AV.int .i64)⟩ :: ⟨m101, 1, (ouw nm_SInt d39 x38).set a0.At.toNat (v108)⟩ :: ⟨m102, 1, x40.map (AV.int .i64)⟩ :: ⟨m103, 1, x41.map (AV.int .i64)⟩ :: ⟨.ptr i0 w0 0 0, 5, [.agg [m100, m101, m102, m103, .int .i64 x4]]⟩ :: ((inx np_SInt (AV.int .i64) 1 d39 x38 a0.At.toNat) ++ (F))) := Own.catI_ (bl := [[⟨v108, 1, b107.map (AV.int .i64)⟩], [⟨m101, 1, (ouw nm_SInt d39 x38).set a0.At.toNat (v108)⟩], (inx np_SInt (AV.int .i64) 1 d39 x38 a0.At.toNat), [⟨v37, 1, x36.map (AV.int .i64)⟩], [⟨m100, 1, a0.Quanta.map (AV.int .i64)⟩], [⟨m102, 1, x40.map (AV.int .i64)⟩], [⟨m103, 1, x41.map (AV.int .i64)⟩], [⟨.ptr i0 w0 0 0, 5, [.agg [m100, m101, m102, m103, .int .i64 x4]]⟩]]) (F := F) hS 8 rfl [0, 3, 4, 1, 5, 6, 7, 2] (by decide)
      refine w_owE (x := v108) 3 hS rfl rfl rfl rfl rfl (idx_some hb107).1 (holeG qd39 hb107) qm101 (fun in106 wn106 on106 en106 hkn106 => ?_)
      obtain ⟨kn106, hbn106, hen106⟩ := hkn106
      try simp only [W, EE, hbn106, hen106, qv108.rd]
      refine w_len 0 hS rfl qv108 rfl ?_
      try simp only [W, EE]
      refine seq_n hK105 ?_
      obtain ⟨y114, h, g115⟩ := Option.bind_eq_some_iff.1 h
      refine w_join gC (fun s H => ∃ x113 : List Int, y114 = (x113) ∧ ∃ d112 : List AV, isSls d112 (x38).length ∧ s = (.ptr i0 w0 0 0 :: u :: u :: u :: .int .i64 a0.At :: v37 :: u :: u :: u :: u :: u :: u :: u :: u :: u :: u :: u :: u :: u :: u :: u :: u :: u :: u :: u :: u :: u :: u :: u :: u :: u :: u :: u :: u :: u :: u :: u :: u :: u :: u :: u :: u :: u :: u :: u :: u :: u :: u :: u :: u :: u :: u :: u :: u :: u :: u :: u :: u :: u :: u :: u :: u :: u :: u :: u :: u :: u :: u :: u :: u :: u :: u :: u :: u :: u :: u :: u :: u :: u :: u :: u :: u :: u :: u :: u :: u :: u :: u :: u :: u :: u :: u :: u :: u :: u :: u :: u :: u :: u :: u :: u :: u :: u :: u :: u :: u :: u :: u :: u :: u :: u :: u :: u :: u :: u :: u :: u :: u :: u :: u :: u :: u :: u :: u :: u :: u :: u :: u :: u :: u :: u :: u :: u :: u :: u :: u :: u :: u :: u :: u :: u :: u :: u :: u :: u :: u :: u :: []) ∧ Own H (⟨v37, 1, x36.map (AV.int .i64)⟩ :: ⟨m100, 1, a0.Quanta.map (AV.int .i64)⟩ :: ⟨m101, 1, ouw nm_SInt d112 x38⟩ :: ⟨m102, 1, x113.map (AV.int .i64)⟩ :: ⟨m103, 1, x41.map (AV.int .i64)⟩ :: ⟨.ptr i0 w0 0 0, 5, [.agg [m100, m101, m102, m103, .int .i64 x4]]⟩ :: ((inn np_SInt (AV.int .i64) 1 d112 x38) ++ F))) (fun K116 hK116 => ?_) (fun s H hq => ?_)
      · refine w_seq fun K117 hK117 => ?_
        refine w_if ?_
        simp only [W]
        refine w_cnd h (fun hc h => ?_) (fun hc h => ?_)
        · refine w_reg gC ?_
          try simp only [W, EE, Nat.reduceAdd, Nat.reduceBEq, hS.var 6 rfl]
          refine w_ow 4 hS rfl rfl rfl rfl rfl h (fun b118 in119 wn119 on119 hb118 h en119 => ?_) qm102.ne
          obtain ⟨kn119, hbn119, hen119⟩ := hS.elem 4 rfl en119 hb118
          try simp only [W]
          refine w_ste (a := .int .i64 0) (y' := 0) 4 hS rfl en119 hb118 rfl rfl rfl rfl rfl rfl rfl fun H hS => ?_
          try simp only [W]
          refine seq_n hK117 ?_
          refine w_killE (s' := (.ptr i0 w0 0 0 :: u :: u :: u :: .int .i64 a0.At :: v37 :: u :: u :: u :: u :: u :: u :: u :: u :: u :: u :: u :: u :: u :: u :: u :: u :: u :: u :: u :: u :: u :: u :: u :: u :: u :: u :: u :: u :: u :: u :: u :: u :: u :: u :: u :: u :: u :: u :: u :: u :: u :: u :: u :: u :: u :: u :: u :: u :: u :: u :: u :: u :: u :: u :: u :: u :: u :: u :: u :: u :: u :: u :: u :: u :: u :: u :: u :: u :: u :: u :: u :: u :: u :: u :: u :: u :: u :: u :: u :: u :: u :: u :: u :: u :: u :: u :: u :: u :: u :: u :: u :: u :: u :: u :: u :: u :: u :: u :: u :: u :: u :: u :: u :: u :: u :: u :: u :: u :: u :: u :: u :: u :: u :: u :: u :: u :: u :: u :: u :: u :: u :: u :: u :: u :: u :: u :: u :: u :: u :: u :: u :: u :: u :: u :: u :: u :: u :: u :: u :: u :: u :: [])) rfl ?_
          have hS : Own _ (⟨v108, 1, b107.map (AV.int .i64)⟩ :: ⟨m101, 1, (ouw nm_SInt d39 x38).set a0.At.toNat (v108)⟩ :: ((inx np_SInt (AV.int .i64) 1 d39 x38 a0.At.toNat) ++ (⟨v37, 1, x36.map (AV.int .i64)⟩ :: ⟨m100, 1, a0.Quanta.map (AV.int .i64)⟩ :: ⟨m102, 1, (x40.set a0.At.toNat 0).map (AV.int .i64)⟩ :: ⟨m103, 1, x41.map (AV.int .i64)⟩ :: ⟨.ptr i0 w0 0 0, 5, [.agg [m100, m101, m102, m103, .int .i64 x4]]⟩ :: F))) := Own.catI_ (bl := [[⟨v108, 1, b107.map (AV.int .i64)⟩], [⟨v37, 1, x36.map (AV.int .i64)⟩], [⟨m100, 1, a0.Quanta.map (AV.int .i64)⟩], [⟨m101, 1, (ouw nm_SInt d39 x38).set a0.At.toNat (v108)⟩], [⟨m102, 1, (x40.set a0.At.toNat 0).map (AV.int .i64)⟩], [⟨m103, 1, x41.map (AV.int .i64)⟩], [⟨.ptr i0 w0 0 0, 5, [.agg [m100, m101, m102, m103, .int .i64 x4]]⟩], (inx np_SInt (AV.int .i64) 1 d39 x38 a0.At.toNat)]) (F := F) hS 8 rfl [0, 3, 7, 1, 2, 4, 5, 6] (by decide)
          obtain ⟨d120, qd120, hS⟩ := closeN0 (p := np_SInt) (c := (AV.int .i64)) (m := nm_SInt) (b := b107) hS qd39 qv108 hb107
          have hS : Own _ (⟨v37, 1, x36.map (AV.int .i64)⟩ :: ⟨m100, 1, a0.Quanta.map (AV.int .i64)⟩ :: ⟨m101, 1, ouw nm_SInt d120 x38⟩ :: ⟨m102, 1, (x40.set a0.At.toNat 0).map (AV.int .i64)⟩ :: ⟨m103, 1, x41.map (AV.int .i64)⟩ :: ⟨.ptr i0 w0 0 0, 5, [.agg [m100, m101, m102, m103, .int .i64 x4]]⟩ :: ((inn np_SInt (AV.int .i64) 1 d120 x38) ++ (F))) := Own.catI_ (bl := [[⟨m101, 1, ouw nm_SInt d120 x38⟩], (inn np_SInt (AV.int .i64) 1 d120 x38), [⟨v37, 1, x36.map (AV.int .i64)⟩], [⟨m100, 1, a0.Quanta.map (AV.int .i64)⟩], [⟨m102, 1, (x40.set a0.At.toNat 0).map (AV.int .i64)⟩], [⟨m103, 1, x41.map (AV.int .i64)⟩], [⟨.ptr i0 w0 0 0, 5, [.agg [m100, m101, m102, m103, .int .i64 x4]]⟩]]) (F := F) hS 7 rfl [2, 3, 0, 4, 5, 6, 1] (by decide)
          exact cut_n hK116 ⟨_, (Option.some.inj h).symm, _, qd120, rfl, hS⟩
        · refine w_skip ?_
          refine seq_n hK117 ?_
          refine w_killE (s' := (.ptr i0 w0 0 0 :: u :: u :: u :: .int .i64 a0.At :: v37 :: u :: u :: u :: u :: u :: u :: u :: u :: u :: u :: u :: u :: u :: u :: u :: u :: u :: u :: u :: u :: u :: u :: u :: u :: u :: u :: u :: u :: u :: u :: u :: u :: u :: u :: u :: u :: u :: u :: u :: u :: u :: u :: u :: u :: u :: u :: u :: u :: u :: u :: u :: u :: u :: u :: u :: u :: u :: u :: u :: u :: u :: u :: u :: u :: u :: u :: u :: u :: u :: u :: u :: u :: u :: u :: u :: u :: u :: u :: u :: u :: u :: u :: u :: u :: u :: u :: u :: u :: u :: u :: u :: u :: u :: u :: u :: u :: u :: u :: u :: u :: u :: u :: u :: u :: u :: u :: u :: u :: u :: u :: u :: u :: u :: u :: u :: u :: u :: u :: u :: u :: u :: u :: u :: u :: u :: u :: u :: u :: u :: u :: u :: u :: u :: u :: u :: u :: u :: u :: u :: u :: u :: [])) rfl ?_
          have hS : Own _ (⟨v108, 1, b107.map (AV.int .i64)⟩ :: ⟨m101, 1, (ouw nm_SInt d39 x38).set a0.At.toNat (v108)⟩ :: ((inx np_SInt (AV.int .i64) 1 d39 x38 a0.At.toNat) ++ (⟨v37, 1, x36.map (AV.int .i64)⟩ :: ⟨m100, 1, a0.Quanta.map (AV.int .i64)⟩ :: ⟨m102, 1, x40.map (AV.int .i64)⟩ :: ⟨m103, 1, x41.map (AV.int .i64)⟩ :: ⟨.ptr i0 w0 0 0, 5, [.agg [m100, m101, m102, m103, .int .i64 x4]]⟩ :: F))) := Own.catI_ (bl := [[⟨v108, 1, b107.map (AV.int .i64)⟩], [⟨v37, 1, x36.map (AV.int .i64)⟩], [⟨m100, 1, a0.Quanta.map (AV.int .i64)⟩], [⟨m101, 1, (ouw nm_SInt d39 x38).set a0.At.toNat (v108)⟩], [⟨m102, 1, x40.map (AV.int .i64)⟩], [⟨m103, 1, x41.map (AV.int .i64)⟩], [⟨.ptr i0 w0 0 0, 5, [.agg [m100, m101, m102, m103, .int .i64 x4]]⟩], (inx np_SInt (AV.int .i64) 1 d39 x38 a0.At.toNat)]) (F := F) hS 8 rfl [0, 3, 7, 1, 2, 4, 5, 6] (by decide)
          obtain ⟨d121, qd121, hS⟩ := closeN0 (p := np_SInt) (c := (AV.int .i64)) (m := nm_SInt) (b := b107) hS qd39 qv108 hb107
          have hS : Own _ (⟨v37, 1, x36.map (AV.int .i64)⟩ :: ⟨m100, 1, a0.Quanta.map (AV.int .i64)⟩ :: ⟨m101, 1, ouw nm_SInt d121 x38⟩ :: ⟨m102, 1, x40.map (AV.int .i64)⟩ :: ⟨m103, 1, x41.map (AV.int .i64)⟩ :: ⟨.ptr i0 w0 0 0, 5, [.agg [m100, m101, m102, m103, .int .i64 x4]]⟩ :: ((inn np_SInt (AV.int .i64) 1 d121 x38) ++ (F))) := Own.catI_ (bl := [[⟨m101, 1, ouw nm_SInt d121 x38⟩], (inn np_SInt (AV.int .i64) 1 d121 x38), [⟨v37, 1, x36.map (AV.int .i64)⟩], [⟨m100, 1, a0.Quanta.map (AV.int .i64)⟩], [⟨m102, 1, x40.map (AV.int .i64)⟩], [⟨m103, 1, x41.map (AV.int .i64)⟩], [⟨.ptr i0 w0 0 0, 5, [.agg [m100, m101, m102, m103, .int .i64 x4]]⟩]]) (F := F) hS 7 rfl [2, 3, 0, 4, 5, 6, 1] (by decide)
          exact cut_n hK116 ⟨_, (Option.some.inj h).symm, _, qd121, rfl, hS⟩
      · obtain ⟨x113, ey, d112, qd112, rfl, hS⟩ := hq; obtain rfl := ey.symm
        replace h := g115
        try dsimp only at h
        refine seq_n hK104 ?_
        refine w_seq fun K122 hK122 => ?_
        refine w_draw0 gC (by kernel_rfl) ?_
        try simp only [W, EE, Nat.reduceAdd, Nat.reduceBEq, hS.var 5 rfl]
        refine w_ow 4 hS rfl rfl rfl rfl rfl h (fun b123 in124 wn124 on124 hb123 h en124 => ?_) qm103.ne
        obtain ⟨kn124, hbn124, hen124⟩ := hS.elem 4 rfl en124 hb123
        try simp only [W, EE, hbn124, hen124]
        refine seq_n hK122 ?_
        refine w_ret ?_
        refine fin_r2 hK0 rfl rfl ?_
        try obtain rfl := Option.some.inj h
        have hS : Own _ (⟨v37, 1, x36.map (AV.int .i64)⟩ :: ⟨.ptr i0 w0 0 0, 5, [.agg [m100, m101, m102, m103, .int .i64 x4]]⟩ :: ⟨m100, 1, a0.Quanta.map (AV.int .i64)⟩ :: ⟨m101, 1, ouw nm_SInt d112 x38⟩ :: ⟨m102, 1, x113.map (AV.int .i64)⟩ :: ⟨m103, 1, x41.map (AV.int .i64)⟩ :: ((inn np_SInt (AV.int .i64) 1 d112 x38) ++ (F))) := Own.catI_ (bl := [[⟨v37, 1, x36.map (AV.int .i64)⟩], [⟨m100, 1, a0.Quanta.map (AV.int .i64)⟩], [⟨m101, 1, ouw nm_SInt d112 x38⟩], [⟨m102, 1, x113.map (AV.int .i64)⟩], [⟨m103, 1, x41.map (AV.int .i64)⟩], [⟨.ptr i0 w0 0 0, 5, [.agg [m100, m101, m102, m103, .int .i64 x4]]⟩], (inn np_SInt (AV.int .i64) 1 d112 x38)]) (F := F) hS 7 rfl [0, 5, 1, 2, 3, 4, 6] (by decide)
        exact hP _ qv37 _ qm100 _ qm101 _ qd112 _ qm102 _ qm103 _ hS
theorem impl_RunTurns_w {a0 : Turns} {a1 : Int} {r : (Turns × Bool)} (h : impl_RunTurns a0 a1 = some r) {F : List It} {H : Heap} (hS : Own H (F)) {P : AV → Heap → Prop} (hP : ∀ v95 : AV, isSl v95 → ∀ v97 : AV, isSl v97 → ∀ d99 : List AV, isSls d99 (r.1.Queues).length → ∀ v100 : AV, isSl v100 → ∀ v102 : AV, isSl v102 → ∀ H', Own H' (⟨v95, 1, r.1.Quanta.map (AV.int .i64)⟩ :: ⟨v97, 1, ouw nm_SInt d99 r.1.Queues⟩ :: ⟨v100, 1, r.1.Credit.map (AV.int .i64)⟩ :: ⟨v102, 1, r.1.Sent.map (AV.int .i64)⟩ :: ((inn np_SInt (AV.int .i64) 1 d99 r.1.Queues) ++ F)) → P (.tup [.agg [v95, v97, v100, v102, .int .i64 r.1.At], .bool r.2]) H') : ACall C 59 [.agg [.fz (a0.Quanta.map (AV.int .i64)), .fz (a0.Queues.map (fzl (AV.int .i64))), .fz (a0.Credit.map (AV.int .i64)), .fz (a0.Sent.map (AV.int .i64)), .int .i64 a0.At], .int .i64 a1] H P := by
  refine acall_of gC (res := [.cell 4 75, .tmp 5]) (n := 32) rfl rfl rfl rfl fun K0 hK0 => ?_
  simp only [W, Nat.reduceSub, Nat.reduceAdd, List.replicate]
  unfold impl_RunTurns at h
  refine w_seq fun K1 hK1 => ?_
  refine w_reg gC ?_
  try simp only [W, Nat.reduceAdd]
  refine w_box hS rfl rfl rfl rfl fun ip2 wp2 H hS => ?_
  try simp only [W]
  refine w_alloc hS rfl rfl fun ip4 wp4 H hS => ?_
  try simp only [W]
  refine seq_n hK1 ?_
  refine w_seq fun K6 hK6 => ?_
  refine w_seq fun K7 hK7 => ?_
  obtain ⟨y9, h, g10⟩ := Option.bind_eq_some_iff.1 h
  refine w_join gC (fun s H => ∃ x8 : Bool, y9 = (x8) ∧ s = [u, .int .i64 a1, .ptr ip2 wp2 0 0, u, .ptr ip4 wp4 0 0, u, u, u, u, u, u, u, u, u, u, u, .bool x8, u, u, u, u, u, u, u, u, u, u, u, u, u, u, u] ∧ Own H (⟨.ptr ip2 wp2 0 0, 5, [.agg [.fz (a0.Quanta.map (AV.int .i64)), .fz (a0.Queues.map (fzl (AV.int .i64))), .fz (a0.Credit.map (AV.int .i64)), .fz (a0.Sent.map (AV.int .i64)), .int .i64 a0.At]]⟩ :: ⟨.ptr ip4 wp4 0 0, 5, [.agg [.nil, .nil, .nil, .nil, .int .i64 0]]⟩ :: F)) (fun K11 hK11 => ?_) (fun s H hq => ?_)
  · refine w_seq fun K12 hK12 => ?_
    refine w_reg gC ?_
    try simp only [W, EE, reduceIte, Nat.reduceAdd, Nat.reduceLeDiff, hS.var 1 rfl]
    refine w_call h fun b13 hb13 h => ?_
    refine impl_GoodTurns_w hb13 hS fun H hS => ?_
    try simp only [W]
    refine w_grdT h (fun hc h => ?_) (fun hc h => ?_)
    · try simp only [W, hc]
      refine seq_n hK12 ?_
      refine w_kill ?_
      exact cut_n hK11 ⟨_, (Option.some.inj h).symm, rfl, (hS.sel 2 [1, 0] (by decide))⟩
    · try simp only [W, hc]
      refine w_call h fun b14 hb14 h => ?_
      refine impl_in_w hb14 hS fun H hS => ?_
      try simp only [W, reduceIte, Bool.false_eq_true]
      refine seq_n hK12 ?_
      refine w_kill ?_
      exact cut_n hK11 ⟨_, (Option.some.inj h).symm, rfl, (hS.sel 2 [1, 0] (by decide))⟩
  · obtain ⟨x8, ey, rfl, hS⟩ := hq; obtain rfl := ey.symm
    replace h := g10
    try dsimp only at h
    refine seq_n hK7 ?_
    refine w_if ?_
    simp only [W]
    refine w_cnd h (fun hc h => ?_) (fun hc h => ?_)
    · refine w_seq fun K15 hK15 => ?_
      refine w_reg gC ?_
      try simp only [W, EE, Nat.reduceAdd]
      refine w_bld rfl rfl rfl rfl rfl ?_
      try simp only [W]
      refine w_stv (a := .agg [.nil, .nil, .nil, .nil, .int .i64 0]) (y' := .agg [.nil, .nil, .nil, .nil, .int .i64 0]) 1 hS rfl rfl rfl rfl rfl rfl rfl rfl fun H hS => ?_
      try simp only [W]
      refine seq_n hK15 ?_
      refine w_ret ?_
      refine seq_r hK6 ?_
      have hS := hS.nil_ 1
      have hS := hS.nil_ 1
      obtain ⟨d18, qd18, hS⟩ := noneN (p := np_SInt) (c := (AV.int .i64)) (z := 1) (m := nm_SInt) hS
      have hS : Own _ (⟨AV.nil, 1, ouw nm_SInt d18 ([] : List (List Int))⟩ :: ⟨AV.nil, 1, ([] : List Int).map (AV.int .i64)⟩ :: ⟨.ptr ip2 wp2 0 0, 5, [.agg [.fz (a0.Quanta.map (AV.int .i64)), .fz (a0.Queues.map (fzl (AV.int .i64))), .fz (a0.Credit.map (AV.int .i64)), .fz (a0.Sent.map (AV.int .i64)), .int .i64 a0.At]]⟩ :: ⟨.ptr ip4 wp4 0 0, 5, [.agg [.nil, .nil, .nil, .nil, .int .i64 0]]⟩ :: ((inn np_SInt (AV.int .i64) 1 d18 ([] : List (List Int))) ++ (F))) := Own.catI_ (bl := [[⟨AV.nil, 1, ouw nm_SInt d18 ([] : List (List Int))⟩], (inn np_SInt (AV.int .i64) 1 d18 ([] : List (List Int))), [⟨AV.nil, 1, ([] : List Int).map (AV.int .i64)⟩], [⟨.ptr ip2 wp2 0 0, 5, [.agg [.fz (a0.Quanta.map (AV.int .i64)), .fz (a0.Queues.map (fzl (AV.int .i64))), .fz (a0.Credit.map (AV.int .i64)), .fz (a0.Sent.map (AV.int .i64)), .int .i64 a0.At]]⟩], [⟨.ptr ip4 wp4 0 0, 5, [.agg [.nil, .nil, .nil, .nil, .int .i64 0]]⟩]]) (F := F) hS 5 rfl [0, 2, 3, 4, 1] (by decide)
      have hS := hS.nil_ 1
      have hS := hS.nil_ 1
      refine fin_r hK0 (res_c rfl rfl (hS.var 5 rfl) rfl (res_tc rfl rfl)) ?_
      try obtain rfl := Option.some.inj h
      have hS : Own _ (⟨AV.nil, 1, ([] : List Int).map (AV.int .i64)⟩ :: ⟨AV.nil, 1, ouw nm_SInt d18 ([] : List (List Int))⟩ :: ⟨AV.nil, 1, ([] : List Int).map (AV.int .i64)⟩ :: ⟨AV.nil, 1, ([] : List Int).map (AV.int .i64)⟩ :: ((inn np_SInt (AV.int .i64) 1 d18 ([] : List (List Int))) ++ (F))) := Own.catI_ (bl := [[⟨AV.nil, 1, ([] : List Int).map (AV.int .i64)⟩], [⟨AV.nil, 1, ([] : List Int).map (AV.int .i64)⟩], [⟨AV.nil, 1, ouw nm_SInt d18 ([] : List (List Int))⟩], [⟨AV.nil, 1, ([] : List Int).map (AV.int .i64)⟩], [⟨.ptr ip2 wp2 0 0, 5, [.agg [.fz (a0.Quanta.map (AV.int .i64)), .fz (a0.Queues.map (fzl (AV.int .i64))), .fz (a0.Credit.map (AV.int .i64)), .fz (a0.Sent.map (AV.int .i64)), .int .i64 a0.At]]⟩], [⟨.ptr ip4 wp4 0 0, 5, [.agg [.nil, .nil, .nil, .nil, .int .i64 0]]⟩], (inn np_SInt (AV.int .i64) 1 d18 ([] : List (List Int)))]) (F := F) hS 7 rfl [3, 2, 1, 0, 6] (by decide)
      exact hP _ isSl_nil _ isSl_nil _ qd18 _ isSl_nil _ isSl_nil _ hS
    · refine w_skip ?_
      refine seq_n hK6 ?_
      refine w_seq fun K21 hK21 => ?_
      refine w_reg gC ?_
      try simp only [W, EE, reduceIte, Nat.reduceAdd, Nat.reduceLeDiff, hS.var 0 rfl]
      refine w_call h fun b22 hb22 h => ?_
      refine impl_Turns_copied_w hb22 hS fun v23 qv23 v25 qv25 d27 qd27 v28 qv28 v30 qv30 H hS => ?_
      have hS : Own _ (⟨v23, 1, b22.Quanta.map (AV.int .i64)⟩ :: ⟨v25, 1, ouw nm_SInt d27 b22.Queues⟩ :: ⟨v28, 1, b22.Credit.map (AV.int .i64)⟩ :: ⟨v30, 1, b22.Sent.map (AV.int .i64)⟩ :: ⟨.ptr ip2 wp2 0 0, 5, [.agg [.fz (a0.Quanta.map (AV.int .i64)), .fz (a0.Queues.map (fzl (AV.int .i64))), .fz (a0.Credit.map (AV.int .i64)), .fz (a0.Sent.map (AV.int .i64)), .int .i64 a0.At]]⟩ :: ⟨.ptr ip4 wp4 0 0, 5, [.agg [.nil, .nil, .nil, .nil, .int .i64 0]]⟩ :: ((inn np_SInt (AV.int .i64) 1 d27 b22.Queues) ++ (F))) := Own.catI_ (bl := [[⟨v23, 1, b22.Quanta.map (AV.int .i64)⟩], [⟨v25, 1, ouw nm_SInt d27 b22.Queues⟩], [⟨v28, 1, b22.Credit.map (AV.int .i64)⟩], [⟨v30, 1, b22.Sent.map (AV.int .i64)⟩], (inn np_SInt (AV.int .i64) 1 d27 b22.Queues), [⟨.ptr ip2 wp2 0 0, 5, [.agg [.fz (a0.Quanta.map (AV.int .i64)), .fz (a0.Queues.map (fzl (AV.int .i64))), .fz (a0.Credit.map (AV.int .i64)), .fz (a0.Sent.map (AV.int .i64)), .int .i64 a0.At]]⟩], [⟨.ptr ip4 wp4 0 0, 5, [.agg [.nil, .nil, .nil, .nil, .int .i64 0]]⟩]]) (F := F) hS 7 rfl [0, 1, 2, 3, 5, 6, 4] (by decide)
      try simp only [W]
      refine w_alloc hS rfl rfl fun ip32 wp32 H hS => ?_
      try simp only [W]
      refine w_stv (a := .agg [v23, v25, v28, v30, .int .i64 b22.At]) (y' := .agg [v23, v25, v28, v30, .int .i64 b22.At]) 0 hS rfl rfl rfl rfl rfl (by simp only [storA, List.all_cons, List.all_nil, qv23.stor, qv25.stor, qv28.stor, qv30.stor]; rfl) rfl rfl fun H hS => ?_
      try simp only [W]
      refine seq_n hK21 ?_
      refine w_seq fun K34 hK34 => ?_
      refine w_seq fun K35 hK35 => ?_
      refine w_reg gC ?_
      try simp only [W, Nat.reduceAdd]
      refine seq_n hK35 ?_
      obtain ⟨y57, hw58, g64⟩ := Option.bind_eq_some_iff.1 h
      refine w_join gC (fun s H => ∃ x47 : List Int, ∃ x49 : List (List Int), ∃ x52 : List Int, ∃ x54 : List Int, ∃ x56 : Int, y57 = LR.next (x47, x49, x52, x54, x56) ∧ ∃ v48 : AV, isSl v48 ∧ ∃ v50 : AV, isSl v50 ∧ ∃ v53 : AV, isSl v53 ∧ ∃ v55 : AV, isSl v55 ∧ ∃ d51 : List AV, isSls d51 (x49).length ∧ s = [u, u, u, u, .ptr ip4 wp4 0 0, u, .ptr ip32 wp32 0 0, u, u, u, u, u, u, u, u, u, u, u, u, u, u, u, u, u, u, u, u, u, u, u, u, u] ∧ Own H (⟨v48, 1, x47.map (AV.int .i64)⟩ :: ⟨v50, 1, ouw nm_SInt d51 x49⟩ :: ⟨v53, 1, x52.map (AV.int .i64)⟩ :: ⟨v55, 1, x54.map (AV.int .i64)⟩ :: ⟨.ptr ip4 wp4 0 0, 5, [.agg [.nil, .nil, .nil, .nil, .int .i64 0]]⟩ :: ⟨.ptr ip32 wp32 0 0, 5, [.agg [v48, v50, v53, v55, .int .i64 x56]]⟩ :: ((inn np_SInt (AV.int .i64) 1 d51 x49) ++ F))) (fun K59 hK59 => ?_) (fun s H hq => ?_)
      · refine w_blk fun K60 hK60 => ?_
        have hS : Own _ (⟨v23, 1, b22.Quanta.map (AV.int .i64)⟩ :: ⟨v25, 1, ouw nm_SInt d27 b22.Queues⟩ :: ⟨v28, 1, b22.Credit.map (AV.int .i64)⟩ :: ⟨v30, 1, b22.Sent.map (AV.int .i64)⟩ :: ⟨.ptr ip4 wp4 0 0, 5, [.agg [.nil, .nil, .nil, .nil, .int .i64 0]]⟩ :: ⟨.ptr ip32 wp32 0 0, 5, [.agg [v23, v25, v28, v30, .int .i64 b22.At]]⟩ :: ((inn np_SInt (AV.int .i64) 1 d27 b22.Queues) ++ (F))) := Own.catI_ (bl := [[⟨.ptr ip32 wp32 0 0, 5, [.agg [v23, v25, v28, v30, .int .i64 b22.At]]⟩], [⟨v23, 1, b22.Quanta.map (AV.int .i64)⟩], [⟨v25, 1, ouw nm_SInt d27 b22.Queues⟩], [⟨v28, 1, b22.Credit.map (AV.int .i64)⟩], [⟨v30, 1, b22.Sent.map (AV.int .i64)⟩], [⟨.ptr ip2 wp2 0 0, 5, [.agg [.fz (a0.Quanta.map (AV.int .i64)), .fz (a0.Queues.map (fzl (AV.int .i64))), .fz (a0.Credit.map (AV.int .i64)), .fz (a0.Sent.map (AV.int .i64)), .int .i64 a0.At]]⟩], [⟨.ptr ip4 wp4 0 0, 5, [.agg [.nil, .nil, .nil, .nil, .int .i64 0]]⟩], (inn np_SInt (AV.int .i64) 1 d27 b22.Queues)]) (F := F) hS 8 rfl [1, 2, 3, 4, 6, 0, 7] (by decide)
        refine w_loop gC hw58 (fun x s H => match x with | (x36, x37, x39, x42, x44, x46) => ∃ v38 : AV, isSl v38 ∧ ∃ v40 : AV, isSl v40 ∧ ∃ v43 : AV, isSl v43 ∧ ∃ v45 : AV, isSl v45 ∧ ∃ d41 : List AV, isSls d41 (x39).length ∧ s = [u, u, u, u, .ptr ip4 wp4 0 0, u, .ptr ip32 wp32 0 0, u, u, u, u, u, u, u, u, u, u, u, u, u, .int .i64 a1, .int .i64 x36, u, u, u, u, u, u, u, u, u, u] ∧ Own H (⟨v38, 1, x37.map (AV.int .i64)⟩ :: ⟨v40, 1, ouw nm_SInt d41 x39⟩ :: ⟨v43, 1, x42.map (AV.int .i64)⟩ :: ⟨v45, 1, x44.map (AV.int .i64)⟩ :: ⟨.ptr ip4 wp4 0 0, 5, [.agg [.nil, .nil, .nil, .nil, .int .i64 0]]⟩ :: ⟨.ptr ip32 wp32 0 0, 5, [.agg [v38, v40, v43, v45, .int .i64 x46]]⟩ :: ((inn np_SInt (AV.int .i64) 1 d41 x39) ++ F))) ⟨_, qv23, _, qv25, _, qv28, _, qv30, _, qd27, rfl, hS⟩ (fun x y63 s H h hd62 hi K61 hK61 => ?_)
        obtain ⟨x36, x37, x39, x42, x44, x46⟩ := x
        try dsimp only at hi
        obtain ⟨v38, qv38, v40, qv40, v43, qv43, v45, qv45, d41, qd41, rfl, hS⟩ := hi
        simp only [impl_RunTurns_l0] at h
        refine w_seq fun K65 hK65 => ?_
        refine w_reg gC ?_
        try simp only [W, EE, Nat.reduceAdd]
        refine seq_n hK65 ?_
        refine w_seq fun K66 hK66 => ?_
        refine w_if ?_
        simp only [W]
        refine w_cnd h (fun hc h => ?_) (fun hc h => ?_)
        · refine w_skip ?_
          refine seq_n hK66 ?_
          refine w_seq fun K67 hK67 => ?_
          refine w_blk fun K68 hK68 => ?_
          refine w_seq fun K69 hK69 => ?_
          refine w_reg gC ?_
          try simp only [W, Nat.reduceAdd]
          have hS : Own _ (⟨.ptr ip32 wp32 0 0, 5, [.agg [v38, v40, v43, v45, .int .i64 x46]]⟩ :: ⟨v38, 1, x37.map (AV.int .i64)⟩ :: ⟨v40, 1, ouw nm_SInt d41 x39⟩ :: ⟨v43, 1, x42.map (AV.int .i64)⟩ :: ⟨v45, 1, x44.map (AV.int .i64)⟩ :: ((inn np_SInt (AV.int .i64) 1 d41 x39) ++ (⟨.ptr ip4 wp4 0 0, 5, [.agg [.nil, .nil, .nil, .nil, .int .i64 0]]⟩ :: F))) := Own.catI_ (bl := [[⟨v38, 1, x37.map (AV.int .i64)⟩], [⟨v40, 1, ouw nm_SInt d41 x39⟩], [⟨v43, 1, x42.map (AV.int .i64)⟩], [⟨v45, 1, x44.map (AV.int .i64)⟩], [⟨.ptr ip4 wp4 0 0, 5, [.agg [.nil, .nil, .nil, .nil, .int .i64 0]]⟩], [⟨.ptr ip32 wp32 0 0, 5, [.agg [v38, v40, v43, v45, .int .i64 x46]]⟩], (inn np_SInt (AV.int .i64) 1 d41 x39)]) (F := F) hS 7 rfl [5, 0, 1, 2, 3, 6, 4] (by decide)
          refine w_call h fun b70 hb70 h => ?_
          obtain ⟨b71, b72, b73⟩ := b70
          try dsimp only at h
          refine impl_Turns_turn_w hb70 hS qv38 qv40 qd41 qv43 qv45 fun v79 qv79 v74 qv74 v75 qv75 d76 qd76 v77 qv77 v78 qv78 H hS => ?_
          have hS : Own _ (⟨v79, 1, b71.map (AV.int .i64)⟩ :: ⟨.ptr ip32 wp32 0 0, 5, [.agg [v74, v75, v77, v78, .int .i64 b73.At]]⟩ :: ⟨v74, 1, b73.Quanta.map (AV.int .i64)⟩ :: ⟨v75, 1, ouw nm_SInt d76 b73.Queues⟩ :: ⟨v77, 1, b73.Credit.map (AV.int .i64)⟩ :: ⟨v78, 1, b73.Sent.map (AV.int .i64)⟩ :: ⟨.ptr ip4 wp4 0 0, 5, [.agg [.nil, .nil, .nil, .nil, .int .i64 0]]⟩ :: ((inn np_SInt (AV.int .i64) 1 d76 b73.Queues) ++ (F))) := Own.catI_ (bl := [[⟨v79, 1, b71.map (AV.int .i64)⟩], [⟨.ptr ip32 wp32 0 0, 5, [.agg [v74, v75, v77, v78, .int .i64 b73.At]]⟩], [⟨v74, 1, b73.Quanta.map (AV.int .i64)⟩], [⟨v75, 1, ouw nm_SInt d76 b73.Queues⟩], [⟨v77, 1, b73.Credit.map (AV.int .i64)⟩], [⟨v78, 1, b73.Sent.map (AV.int .i64)⟩], (inn np_SInt (AV.int .i64) 1 d76 b73.Queues), [⟨.ptr ip4 wp4 0 0, 5, [.agg [.nil, .nil, .nil, .nil, .int .i64 0]]⟩]]) (F := F) hS 8 rfl [0, 1, 2, 3, 4, 5, 7, 6] (by decide)
          try simp only [W]
          refine seq_n hK69 ?_
          refine w_seq fun K81 hK81 => ?_
          refine w_reg gC ?_
          try simp only [W, Nat.reduceAdd]
          refine seq_n hK81 ?_
          refine w_if ?_
          simp only [W]
          refine w_cnd h (fun hc h => ?_) (fun hc h => ?_)
          · refine w_seq fun K82 hK82 => ?_
            refine w_reg gC ?_
            try simp only [W, EE, Nat.reduceAdd]
            refine w_bld rfl rfl rfl rfl rfl ?_
            try simp only [W]
            refine w_stv (a := .agg [.nil, .nil, .nil, .nil, .int .i64 0]) (y' := .agg [.nil, .nil, .nil, .nil, .int .i64 0]) 6 hS rfl rfl rfl rfl rfl rfl rfl rfl fun H hS => ?_
            try simp only [W]
            refine seq_n hK82 ?_
            refine w_ret ?_
            refine blk_r hK68 ?_
            refine seq_r hK67 ?_
            try obtain rfl := Option.some.inj h
            obtain rfl := hd62 _ rfl
            have h : (some (LR.done ((⟨([] : List Int), ([] : List (List Int)), ([] : List Int), ([] : List Int), 0⟩ : Turns), false)) : Option (LR ((List Int) × (List (List Int)) × (List Int) × (List Int) × Int) (Turns × Bool))) = some (LR.done ((⟨([] : List Int), ([] : List (List Int)), ([] : List Int), ([] : List Int), 0⟩ : Turns), false)) := rfl
            refine lp_r hK61 ?_
            refine blk_r hK60 ?_
            try obtain rfl := Option.some.inj h
            obtain rfl := Option.some.inj g64
            have h : (some ((⟨([] : List Int), ([] : List (List Int)), ([] : List Int), ([] : List Int), 0⟩ : Turns), false) : Option (Turns × Bool)) = some ((⟨([] : List Int), ([] : List (List Int)), ([] : List Int), ([] : List Int), 0⟩ : Turns), false) := rfl
            refine cut_r hK59 ?_
            refine seq_r hK34 ?_
            have hS := hS.nil_ 1
            have hS := hS.nil_ 1
            obtain ⟨d85, qd85, hS⟩ := noneN (p := np_SInt) (c := (AV.int .i64)) (z := 1) (m := nm_SInt) hS
            have hS : Own _ (⟨AV.nil, 1, ouw nm_SInt d85 ([] : List (List Int))⟩ :: ⟨AV.nil, 1, ([] : List Int).map (AV.int .i64)⟩ :: ⟨v79, 1, b71.map (AV.int .i64)⟩ :: ⟨.ptr ip32 wp32 0 0, 5, [.agg [v74, v75, v77, v78, .int .i64 b73.At]]⟩ :: ⟨v74, 1, b73.Quanta.map (AV.int .i64)⟩ :: ⟨v75, 1, ouw nm_SInt d76 b73.Queues⟩ :: ⟨v77, 1, b73.Credit.map (AV.int .i64)⟩ :: ⟨v78, 1, b73.Sent.map (AV.int .i64)⟩ :: ⟨.ptr ip4 wp4 0 0, 5, [.agg [.nil, .nil, .nil, .nil, .int .i64 0]]⟩ :: ((inn np_SInt (AV.int .i64) 1 d85 ([] : List (List Int))) ++ (((inn np_SInt (AV.int .i64) 1 d76 b73.Queues) ++ (F))))) := Own.catI_ (bl := [[⟨AV.nil, 1, ouw nm_SInt d85 ([] : List (List Int))⟩], (inn np_SInt (AV.int .i64) 1 d85 ([] : List (List Int))), [⟨AV.nil, 1, ([] : List Int).map (AV.int .i64)⟩], [⟨v79, 1, b71.map (AV.int .i64)⟩], [⟨.ptr ip32 wp32 0 0, 5, [.agg [v74, v75, v77, v78, .int .i64 b73.At]]⟩], [⟨v74, 1, b73.Quanta.map (AV.int .i64)⟩], [⟨v75, 1, ouw nm_SInt d76 b73.Queues⟩], [⟨v77, 1, b73.Credit.map (AV.int .i64)⟩], [⟨v78, 1, b73.Sent.map (AV.int .i64)⟩], [⟨.ptr ip4 wp4 0 0, 5, [.agg [.nil, .nil, .nil, .nil, .int .i64 0]]⟩], (inn np_SInt (AV.int .i64) 1 d76 b73.Queues)]) (F := F) hS 11 rfl [0, 2, 3, 4, 5, 6, 7, 8, 9, 1, 10] (by decide)
            have hS := hS.nil_ 1
            have hS := hS.nil_ 1
            refine fin_r hK0 (res_c rfl rfl (hS.var 10 rfl) rfl (res_tc rfl rfl)) ?_
            try obtain rfl := Option.some.inj h
            have hS : Own _ (⟨AV.nil, 1, ([] : List Int).map (AV.int .i64)⟩ :: ⟨AV.nil, 1, ouw nm_SInt d85 ([] : List (List Int))⟩ :: ⟨AV.nil, 1, ([] : List Int).map (AV.int .i64)⟩ :: ⟨AV.nil, 1, ([] : List Int).map (AV.int .i64)⟩ :: ((inn np_SInt (AV.int .i64) 1 d85 ([] : List (List Int))) ++ (F))) := Own.catI_ (bl := [[⟨AV.nil, 1, ([] : List Int).map (AV.int .i64)⟩], [⟨AV.nil, 1, ([] : List Int).map (AV.int .i64)⟩], [⟨AV.nil, 1, ouw nm_SInt d85 ([] : List (List Int))⟩], [⟨AV.nil, 1, ([] : List Int).map (AV.int .i64)⟩], [⟨v79, 1, b71.map (AV.int .i64)⟩], [⟨.ptr ip32 wp32 0 0, 5, [.agg [v74, v75, v77, v78, .int .i64 b73.At]]⟩], [⟨v74, 1, b73.Quanta.map (AV.int .i64)⟩], [⟨v75, 1, ouw nm_SInt d76 b73.Queues⟩], [⟨v77, 1, b73.Credit.map (AV.int .i64)⟩], [⟨v78, 1, b73.Sent.map (AV.int .i64)⟩], [⟨.ptr ip4 wp4 0 0, 5, [.agg [.nil, .nil, .nil, .nil, .int .i64 0]]⟩], (inn np_SInt (AV.int .i64) 1 d85 ([] : List (List Int))), (inn np_SInt (AV.int .i64) 1 d76 b73.Queues)]) (F := F) hS 13 rfl [3, 2, 1, 0, 11] (by decide)
            exact hP _ isSl_nil _ isSl_nil _ qd85 _ isSl_nil _ isSl_nil _ hS
          · refine w_skip ?_
            refine blk_n0 hK68 ?_
            refine seq_n hK67 ?_
            refine w_reg gC ?_
            try simp only [W, EE, Nat.reduceAdd]
            have hS : Own _ (⟨v74, 1, b73.Quanta.map (AV.int .i64)⟩ :: ⟨v75, 1, ouw nm_SInt d76 b73.Queues⟩ :: ⟨v77, 1, b73.Credit.map (AV.int .i64)⟩ :: ⟨v78, 1, b73.Sent.map (AV.int .i64)⟩ :: ⟨.ptr ip4 wp4 0 0, 5, [.agg [.nil, .nil, .nil, .nil, .int .i64 0]]⟩ :: ⟨.ptr ip32 wp32 0 0, 5, [.agg [v74, v75, v77, v78, .int .i64 b73.At]]⟩ :: ((inn np_SInt (AV.int .i64) 1 d76 b73.Queues) ++ (F))) := Own.catI_ (bl := [[⟨v79, 1, b71.map (AV.int .i64)⟩], [⟨.ptr ip32 wp32 0 0, 5, [.agg [v74, v75, v77, v78, .int .i64 b73.At]]⟩], [⟨v74, 1, b73.Quanta.map (AV.int .i64)⟩], [⟨v75, 1, ouw nm_SInt d76 b73.Queues⟩], [⟨v77, 1, b73.Credit.map (AV.int .i64)⟩], [⟨v78, 1, b73.Sent.map (AV.int .i64)⟩], [⟨.ptr ip4 wp4 0 0, 5, [.agg [.nil, .nil, .nil, .nil, .int .i64 0]]⟩], (inn np_SInt (AV.int .i64) 1 d76 b73.Queues)]) (F := F) hS 8 rfl [2, 3, 4, 5, 6, 1, 7] (by decide)
            exact lp_n hK61 h ⟨_, qv74, _, qv75, _, qv77, _, qv78, _, qd76, rfl, hS⟩
        · refine w_exit ?_
          refine seq_x hK66 ?_
          try obtain rfl := Option.some.inj h
          obtain rfl := hd62 _ rfl
          have h : (some (LR.next (x37, x39, x42, x44, x46)) : Option (LR ((List Int) × (List (List Int)) × (List Int) × (List Int) × Int) (Turns × Bool))) = some (LR.next (x37, x39, x42, x44, x46)) := rfl
          refine lp_x hK61 ?_
          refine blk_e hK60 ?_
          exact cut_n hK59 ⟨_, _, _, _, _, (Option.some.inj h).symm, _, qv38, _, qv40, _, qv43, _, qv45, _, qd41, rfl, hS⟩
      · obtain ⟨x47, x49, x52, x54, x56, rfl, v48, qv48, v50, qv50, v53, qv53, v55, qv55, d51, qd51, rfl, hS⟩ := hq
        replace h := g64
        try dsimp only at h
        refine seq_n hK34 ?_
        refine w_seq fun K94 hK94 => ?_
        refine w_reg gC ?_
        try simp only [W, EE, reduceIte, Nat.reduceAdd, Nat.reduceLeDiff, hS.var 5 rfl]
        refine w_stv (a := .agg [v48, v50, v53, v55, .int .i64 x56]) (y' := .agg [v48, v50, v53, v55, .int .i64 x56]) 4 hS rfl rfl rfl rfl rfl (by simp only [storA, List.all_cons, List.all_nil, qv48.stor, qv50.stor, qv53.stor, qv55.stor]; rfl) rfl rfl fun H hS => ?_
        try simp only [W]
        refine seq_n hK94 ?_
        refine w_ret ?_
        refine fin_r hK0 (res_c rfl rfl (hS.var 4 rfl) rfl (res_tc rfl rfl)) ?_
        try obtain rfl := Option.some.inj h
        have hS : Own _ (⟨v48, 1, x47.map (AV.int .i64)⟩ :: ⟨v50, 1, ouw nm_SInt d51 x49⟩ :: ⟨v53, 1, x52.map (AV.int .i64)⟩ :: ⟨v55, 1, x54.map (AV.int .i64)⟩ :: ((inn np_SInt (AV.int .i64) 1 d51 x49) ++ (F))) := Own.catI_ (bl := [[⟨v48, 1, x47.map (AV.int .i64)⟩], [⟨v50, 1, ouw nm_SInt d51 x49⟩], [⟨v53, 1, x52.map (AV.int .i64)⟩], [⟨v55, 1, x54.map (AV.int .i64)⟩], [⟨.ptr ip4 wp4 0 0, 5, [.agg [v48, v50, v53, v55, .int .i64 x56]]⟩], [⟨.ptr ip32 wp32 0 0, 5, [.agg [v48, v50, v53, v55, .int .i64 x56]]⟩], (inn np_SInt (AV.int .i64) 1 d51 x49)]) (F := F) hS 7 rfl [0, 1, 2, 3, 6] (by decide)
        exact hP _ qv48 _ qv50 _ qd51 _ qv53 _ qv55 _ hS
theorem spec_RunTurns_w {a0 : Turns} {a1 : Int} {r : (Turns × Bool)} (h : spec_RunTurns a0 a1 = some r) {F : List It} {H : Heap} (hS : Own H (F)) {P : AV → Heap → Prop} (hP : ∀ v111 : AV, isSl v111 → ∀ v113 : AV, isSl v113 → ∀ d115 : List AV, isSls d115 (r.1.Queues).length → ∀ v116 : AV, isSl v116 → ∀ v118 : AV, isSl v118 → ∀ H', Own H' (⟨v111, 1, r.1.Quanta.map (AV.int .i64)⟩ :: ⟨v113, 1, ouw nm_SInt d115 r.1.Queues⟩ :: ⟨v116, 1, r.1.Credit.map (AV.int .i64)⟩ :: ⟨v118, 1, r.1.Sent.map (AV.int .i64)⟩ :: ((inn np_SInt (AV.int .i64) 1 d115 r.1.Queues) ++ F)) → P (.tup [.agg [v111, v113, v116, v118, .int .i64 r.1.At], .bool r.2]) H') : ACall C 60 [.agg [.fz (a0.Quanta.map (AV.int .i64)), .fz (a0.Queues.map (fzl (AV.int .i64))), .fz (a0.Credit.map (AV.int .i64)), .fz (a0.Sent.map (AV.int .i64)), .int .i64 a0.At], .int .i64 a1] H P := by
  refine acall_of gC (res := [.cell 4 75, .tmp 5]) (n := 36) rfl rfl rfl rfl fun K0 hK0 => ?_
  simp only [W, Nat.reduceSub, Nat.reduceAdd, List.replicate]
  unfold spec_RunTurns at h
  refine w_seq fun K1 hK1 => ?_
  refine w_reg gC ?_
  try simp only [W, Nat.reduceAdd]
  refine w_box hS rfl rfl rfl rfl fun ip2 wp2 H hS => ?_
  try simp only [W]
  refine w_alloc hS rfl rfl fun ip4 wp4 H hS => ?_
  try simp only [W]
  refine seq_n hK1 ?_
  refine w_seq fun K6 hK6 => ?_
  refine w_seq fun K7 hK7 => ?_
  obtain ⟨y9, h, g10⟩ := Option.bind_eq_some_iff.1 h
  refine w_join gC (fun s H => ∃ x8 : Bool, y9 = (x8) ∧ s = [u, .int .i64 a1, .ptr ip2 wp2 0 0, u, .ptr ip4 wp4 0 0, u, u, u, u, u, u, u, u, u, u, u, u, .bool x8, u, u, u, u, u, u, u, u, u, u, u, u, u, u, u, u, u, u] ∧ Own H (⟨.ptr ip2 wp2 0 0, 5, [.agg [.fz (a0.Quanta.map (AV.int .i64)), .fz (a0.Queues.map (fzl (AV.int .i64))), .fz (a0.Credit.map (AV.int .i64)), .fz (a0.Sent.map (AV.int .i64)), .int .i64 a0.At]]⟩ :: ⟨.ptr ip4 wp4 0 0, 5, [.agg [.nil, .nil, .nil, .nil, .int .i64 0]]⟩ :: F)) (fun K11 hK11 => ?_) (fun s H hq => ?_)
  · refine w_seq fun K12 hK12 => ?_
    refine w_reg gC ?_
    try simp only [W, EE, reduceIte, Nat.reduceAdd, Nat.reduceLeDiff, hS.var 1 rfl]
    refine w_call h fun b13 hb13 h => ?_
    refine spec_GoodTurns_w hb13 hS fun H hS => ?_
    try simp only [W]
    refine w_grdT h (fun hc h => ?_) (fun hc h => ?_)
    · try simp only [W, hc]
      refine seq_n hK12 ?_
      refine w_kill ?_
      exact cut_n hK11 ⟨_, (Option.some.inj h).symm, rfl, (hS.sel 2 [1, 0] (by decide))⟩
    · try simp only [W, hc]
      refine w_call h fun b14 hb14 h => ?_
      refine spec_l1In_w hb14 hS fun H hS => ?_
      try simp only [W, reduceIte, Bool.false_eq_true]
      refine seq_n hK12 ?_
      refine w_kill ?_
      exact cut_n hK11 ⟨_, (Option.some.inj h).symm, rfl, (hS.sel 2 [1, 0] (by decide))⟩
  · obtain ⟨x8, ey, rfl, hS⟩ := hq; obtain rfl := ey.symm
    replace h := g10
    try dsimp only at h
    refine seq_n hK7 ?_
    refine w_if ?_
    simp only [W]
    refine w_cnd h (fun hc h => ?_) (fun hc h => ?_)
    · refine w_seq fun K15 hK15 => ?_
      refine w_reg gC ?_
      try simp only [W, EE, Nat.reduceAdd]
      refine w_bld rfl rfl rfl rfl rfl ?_
      try simp only [W]
      refine w_stv (a := .agg [.nil, .nil, .nil, .nil, .int .i64 0]) (y' := .agg [.nil, .nil, .nil, .nil, .int .i64 0]) 1 hS rfl rfl rfl rfl rfl rfl rfl rfl fun H hS => ?_
      try simp only [W]
      refine seq_n hK15 ?_
      refine w_ret ?_
      refine seq_r hK6 ?_
      have hS := hS.nil_ 1
      have hS := hS.nil_ 1
      obtain ⟨d18, qd18, hS⟩ := noneN (p := np_SInt) (c := (AV.int .i64)) (z := 1) (m := nm_SInt) hS
      have hS : Own _ (⟨AV.nil, 1, ouw nm_SInt d18 ([] : List (List Int))⟩ :: ⟨AV.nil, 1, ([] : List Int).map (AV.int .i64)⟩ :: ⟨.ptr ip2 wp2 0 0, 5, [.agg [.fz (a0.Quanta.map (AV.int .i64)), .fz (a0.Queues.map (fzl (AV.int .i64))), .fz (a0.Credit.map (AV.int .i64)), .fz (a0.Sent.map (AV.int .i64)), .int .i64 a0.At]]⟩ :: ⟨.ptr ip4 wp4 0 0, 5, [.agg [.nil, .nil, .nil, .nil, .int .i64 0]]⟩ :: ((inn np_SInt (AV.int .i64) 1 d18 ([] : List (List Int))) ++ (F))) := Own.catI_ (bl := [[⟨AV.nil, 1, ouw nm_SInt d18 ([] : List (List Int))⟩], (inn np_SInt (AV.int .i64) 1 d18 ([] : List (List Int))), [⟨AV.nil, 1, ([] : List Int).map (AV.int .i64)⟩], [⟨.ptr ip2 wp2 0 0, 5, [.agg [.fz (a0.Quanta.map (AV.int .i64)), .fz (a0.Queues.map (fzl (AV.int .i64))), .fz (a0.Credit.map (AV.int .i64)), .fz (a0.Sent.map (AV.int .i64)), .int .i64 a0.At]]⟩], [⟨.ptr ip4 wp4 0 0, 5, [.agg [.nil, .nil, .nil, .nil, .int .i64 0]]⟩]]) (F := F) hS 5 rfl [0, 2, 3, 4, 1] (by decide)
      have hS := hS.nil_ 1
      have hS := hS.nil_ 1
      refine fin_r hK0 (res_c rfl rfl (hS.var 5 rfl) rfl (res_tc rfl rfl)) ?_
      try obtain rfl := Option.some.inj h
      have hS : Own _ (⟨AV.nil, 1, ([] : List Int).map (AV.int .i64)⟩ :: ⟨AV.nil, 1, ouw nm_SInt d18 ([] : List (List Int))⟩ :: ⟨AV.nil, 1, ([] : List Int).map (AV.int .i64)⟩ :: ⟨AV.nil, 1, ([] : List Int).map (AV.int .i64)⟩ :: ((inn np_SInt (AV.int .i64) 1 d18 ([] : List (List Int))) ++ (F))) := Own.catI_ (bl := [[⟨AV.nil, 1, ([] : List Int).map (AV.int .i64)⟩], [⟨AV.nil, 1, ([] : List Int).map (AV.int .i64)⟩], [⟨AV.nil, 1, ouw nm_SInt d18 ([] : List (List Int))⟩], [⟨AV.nil, 1, ([] : List Int).map (AV.int .i64)⟩], [⟨.ptr ip2 wp2 0 0, 5, [.agg [.fz (a0.Quanta.map (AV.int .i64)), .fz (a0.Queues.map (fzl (AV.int .i64))), .fz (a0.Credit.map (AV.int .i64)), .fz (a0.Sent.map (AV.int .i64)), .int .i64 a0.At]]⟩], [⟨.ptr ip4 wp4 0 0, 5, [.agg [.nil, .nil, .nil, .nil, .int .i64 0]]⟩], (inn np_SInt (AV.int .i64) 1 d18 ([] : List (List Int)))]) (F := F) hS 7 rfl [3, 2, 1, 0, 6] (by decide)
      exact hP _ isSl_nil _ isSl_nil _ qd18 _ isSl_nil _ isSl_nil _ hS
    · refine w_skip ?_
      refine seq_n hK6 ?_
      refine w_seq fun K21 hK21 => ?_
      refine w_reg gC ?_
      try simp only [W, EE, reduceIte, Nat.reduceAdd, Nat.reduceLeDiff, hS.var 0 rfl]
      refine w_call h fun b22 hb22 h => ?_
      refine spec_l8Own_w hb22 hS fun v23 qv23 v25 qv25 d27 qd27 v28 qv28 v30 qv30 H hS => ?_
      have hS : Own _ (⟨v23, 1, b22.Quanta.map (AV.int .i64)⟩ :: ⟨v25, 1, ouw nm_SInt d27 b22.Queues⟩ :: ⟨v28, 1, b22.Credit.map (AV.int .i64)⟩ :: ⟨v30, 1, b22.Sent.map (AV.int .i64)⟩ :: ⟨.ptr ip2 wp2 0 0, 5, [.agg [.fz (a0.Quanta.map (AV.int .i64)), .fz (a0.Queues.map (fzl (AV.int .i64))), .fz (a0.Credit.map (AV.int .i64)), .fz (a0.Sent.map (AV.int .i64)), .int .i64 a0.At]]⟩ :: ⟨.ptr ip4 wp4 0 0, 5, [.agg [.nil, .nil, .nil, .nil, .int .i64 0]]⟩ :: ((inn np_SInt (AV.int .i64) 1 d27 b22.Queues) ++ (F))) := Own.catI_ (bl := [[⟨v23, 1, b22.Quanta.map (AV.int .i64)⟩], [⟨v25, 1, ouw nm_SInt d27 b22.Queues⟩], [⟨v28, 1, b22.Credit.map (AV.int .i64)⟩], [⟨v30, 1, b22.Sent.map (AV.int .i64)⟩], (inn np_SInt (AV.int .i64) 1 d27 b22.Queues), [⟨.ptr ip2 wp2 0 0, 5, [.agg [.fz (a0.Quanta.map (AV.int .i64)), .fz (a0.Queues.map (fzl (AV.int .i64))), .fz (a0.Credit.map (AV.int .i64)), .fz (a0.Sent.map (AV.int .i64)), .int .i64 a0.At]]⟩], [⟨.ptr ip4 wp4 0 0, 5, [.agg [.nil, .nil, .nil, .nil, .int .i64 0]]⟩]]) (F := F) hS 7 rfl [0, 1, 2, 3, 5, 6, 4] (by decide)
      try simp only [W]
      refine w_alloc hS rfl rfl fun ip32 wp32 H hS => ?_
      try simp only [W]
      refine w_stv (a := .agg [v23, v25, v28, v30, .int .i64 b22.At]) (y' := .agg [v23, v25, v28, v30, .int .i64 b22.At]) 0 hS rfl rfl rfl rfl rfl (by simp only [storA, List.all_cons, List.all_nil, qv23.stor, qv25.stor, qv28.stor, qv30.stor]; rfl) rfl rfl fun H hS => ?_
      try simp only [W]
      refine seq_n hK21 ?_
      refine w_seq fun K34 hK34 => ?_
      obtain ⟨y60, hw61, g67⟩ := Option.bind_eq_some_iff.1 h
      refine w_join gC (fun s H => ∃ x50 : List Int, ∃ x52 : List (List Int), ∃ x55 : List Int, ∃ x57 : List Int, ∃ x59 : Int, y60 = LR.next (x50, x52, x55, x57, x59) ∧ ∃ v51 : AV, isSl v51 ∧ ∃ v53 : AV, isSl v53 ∧ ∃ v56 : AV, isSl v56 ∧ ∃ v58 : AV, isSl v58 ∧ ∃ d54 : List AV, isSls d54 (x52).length ∧ s = [u, u, u, u, .ptr ip4 wp4 0 0, u, .ptr ip32 wp32 0 0, u, u, u, u, u, u, u, u, u, u, u, u, u, u, u, u, u, u, u, u, u, u, u, u, u, u, u, u, u] ∧ Own H (⟨v51, 1, x50.map (AV.int .i64)⟩ :: ⟨v53, 1, ouw nm_SInt d54 x52⟩ :: ⟨v56, 1, x55.map (AV.int .i64)⟩ :: ⟨v58, 1, x57.map (AV.int .i64)⟩ :: ⟨.ptr ip4 wp4 0 0, 5, [.agg [.nil, .nil, .nil, .nil, .int .i64 0]]⟩ :: ⟨.ptr ip32 wp32 0 0, 5, [.agg [v51, v53, v56, v58, .int .i64 x59]]⟩ :: ((inn np_SInt (AV.int .i64) 1 d54 x52) ++ F))) (fun K62 hK62 => ?_) (fun s H hq => ?_)
      · refine w_blk fun K63 hK63 => ?_
        have hS : Own _ (⟨v23, 1, b22.Quanta.map (AV.int .i64)⟩ :: ⟨v25, 1, ouw nm_SInt d27 b22.Queues⟩ :: ⟨v28, 1, b22.Credit.map (AV.int .i64)⟩ :: ⟨v30, 1, b22.Sent.map (AV.int .i64)⟩ :: ⟨.ptr ip4 wp4 0 0, 5, [.agg [.nil, .nil, .nil, .nil, .int .i64 0]]⟩ :: ⟨.ptr ip32 wp32 0 0, 5, [.agg [v23, v25, v28, v30, .int .i64 b22.At]]⟩ :: ((inn np_SInt (AV.int .i64) 1 d27 b22.Queues) ++ (F))) := Own.catI_ (bl := [[⟨.ptr ip32 wp32 0 0, 5, [.agg [v23, v25, v28, v30, .int .i64 b22.At]]⟩], [⟨v23, 1, b22.Quanta.map (AV.int .i64)⟩], [⟨v25, 1, ouw nm_SInt d27 b22.Queues⟩], [⟨v28, 1, b22.Credit.map (AV.int .i64)⟩], [⟨v30, 1, b22.Sent.map (AV.int .i64)⟩], [⟨.ptr ip2 wp2 0 0, 5, [.agg [.fz (a0.Quanta.map (AV.int .i64)), .fz (a0.Queues.map (fzl (AV.int .i64))), .fz (a0.Credit.map (AV.int .i64)), .fz (a0.Sent.map (AV.int .i64)), .int .i64 a0.At]]⟩], [⟨.ptr ip4 wp4 0 0, 5, [.agg [.nil, .nil, .nil, .nil, .int .i64 0]]⟩], (inn np_SInt (AV.int .i64) 1 d27 b22.Queues)]) (F := F) hS 8 rfl [1, 2, 3, 4, 6, 0, 7] (by decide)
        refine w_loop gC hw61 (fun x s H => match x with | (x35, x36, x39, x43, x46, x49) => ∃ v37 : AV, isSl v37 ∧ ∃ v40 : AV, isSl v40 ∧ ∃ v44 : AV, isSl v44 ∧ ∃ v47 : AV, isSl v47 ∧ ∃ d42 : List AV, isSls d42 (x39).length ∧ s = [u, .int .i64 x35, u, u, .ptr ip4 wp4 0 0, u, .ptr ip32 wp32 0 0, u, u, u, u, u, u, u, u, u, u, u, u, u, u, u, u, u, u, u, u, u, u, u, u, u, u, u, u, u] ∧ Own H (⟨v37, 1, x36.map (AV.int .i64)⟩ :: ⟨v40, 1, ouw nm_SInt d42 x39⟩ :: ⟨v44, 1, x43.map (AV.int .i64)⟩ :: ⟨v47, 1, x46.map (AV.int .i64)⟩ :: ⟨.ptr ip4 wp4 0 0, 5, [.agg [.nil, .nil, .nil, .nil, .int .i64 0]]⟩ :: ⟨.ptr ip32 wp32 0 0, 5, [.agg [v37, v40, v44, v47, .int .i64 x49]]⟩ :: ((inn np_SInt (AV.int .i64) 1 d42 x39) ++ F))) ⟨_, qv23, _, qv25, _, qv28, _, qv30, _, qd27, rfl, hS⟩ (fun x y66 s H h hd65 hi K64 hK64 => ?_)
        obtain ⟨x35, x36, x39, x43, x46, x49⟩ := x
        try dsimp only at hi
        obtain ⟨v37, qv37, v40, qv40, v44, qv44, v47, qv47, d42, qd42, rfl, hS⟩ := hi
        simp only [spec_RunTurns_l0] at h
        refine w_seq fun K68 hK68 => ?_
        refine w_seq fun K69 hK69 => ?_
        refine w_reg gC ?_
        try simp only [W, EE, Nat.reduceAdd]
        refine seq_n hK69 ?_
        refine w_if ?_
        simp only [W]
        refine w_cnd h (fun hc h => ?_) (fun hc h => ?_)
        · refine w_skip ?_
          refine seq_n hK68 ?_
          refine w_seq fun K70 hK70 => ?_
          refine w_blk fun K71 hK71 => ?_
          refine w_seq fun K72 hK72 => ?_
          refine w_reg gC ?_
          try simp only [W, EE, reduceIte, Nat.reduceAdd, Nat.reduceLeDiff, Nat.reduceBEq, hS.var 5 rfl, List.contains_cons, Nat.reduceBEq, Bool.or_self]
          have hS : Own _ (⟨v37, 1, x36.map (AV.int .i64)⟩ :: ⟨v40, 1, ouw nm_SInt d42 x39⟩ :: ⟨v44, 1, x43.map (AV.int .i64)⟩ :: ⟨v47, 1, x46.map (AV.int .i64)⟩ :: ⟨.ptr ip4 wp4 0 0, 5, [.agg [.nil, .nil, .nil, .nil, .int .i64 0]]⟩ :: ⟨.ptr ip32 wp32 0 0, 5, [.agg [v37, v40, v44, v47, .int .i64 x49]]⟩ :: ((inn np_SInt (AV.int .i64) 1 d42 x39) ++ F)) := hS
          refine w_callO (rsh := [[.sl [.sc], .sl [.sl [.sc]], .sl [.sc], .sl [.sc], .sc], [.sl [.sc]], [.sc]]) (ys := [.agg [.fz (x36.map (AV.int .i64)), .fz (x39.map (fzl (AV.int .i64))), .fz (x43.map (AV.int .i64)), .fz (x46.map (AV.int .i64)), .int .i64 x49]]) h rfl (pv_c (sn_agg (sm_c (sn_ow hS 0 rfl qv37 (fun _ => rfl)) (sm_c (sn_owN (enc := (fzl (AV.int .i64))) hS 1 rfl qv40 qd42 (fun _ h => (List.mem_cons_of_mem _ (List.mem_cons_of_mem _ (List.mem_cons_of_mem _ (List.mem_cons_of_mem _ (List.mem_cons_of_mem _ (List.mem_cons_of_mem _ (List.mem_append_left _ h)))))))) (fun _ _ ha hk => sn_it hk ha (fun _ => rfl))) (sm_c (sn_ow hS 2 rfl qv44 (fun _ => rfl)) (sm_c (sn_ow hS 3 rfl qv47 (fun _ => rfl)) (sm_c rfl (sm_n _))))))) pv_n) fun b73 hb73 h => ⟨.tup [.agg [.own 1 (b73.1.Quanta.map (AV.int .i64)), .own 1 (b73.1.Queues.map nd_SInt), .own 1 (b73.1.Credit.map (AV.int .i64)), .own 1 (b73.1.Sent.map (AV.int .i64)), .int .i64 b73.1.At], .own 1 (b73.2.1.map (AV.int .i64)), .bool b73.2.2], spec_NextTurn_w hb73 (Own.nil _) fun v77 qv77 v78 qv78 d79 qd79 v80 qv80 v81 qv81 v82 qv82 H hS => TV_ok rfl (TV_a (TC_ow 0 hS rfl qv77 (fun _ _ => by simp [takeE, takeT, plainA]) fun H hS => TC_owN (d := nd_SInt) (Own.catI_ (bl := [[⟨v78, 1, ouw nm_SInt d79 b73.1.Queues⟩], [⟨v80, 1, b73.1.Credit.map (AV.int .i64)⟩], [⟨v81, 1, b73.1.Sent.map (AV.int .i64)⟩], [⟨v82, 1, b73.2.1.map (AV.int .i64)⟩], (inn np_SInt (AV.int .i64) 1 d79 b73.1.Queues)]) (F := []) hS 5 rfl [0, 4, 1, 2, 3] (by decide)) qv78 qd79 nt_SInt fun H hS => TC_ow 0 hS rfl qv80 (fun _ _ => by simp [takeE, takeT, plainA]) fun H hS => TC_ow 0 hS rfl qv81 (fun _ _ => by simp [takeE, takeT, plainA]) fun H hS => TC_sc rfl (TC_nil (TV_o 0 hS rfl qv82 (fun _ _ => by simp [takeE, takeT, plainA]) fun H hS => TV_p rfl (TV_n rfl))))), (nf_t (nf_c (nf_a (nf_c (noFz_o _ (fun _ => rfl) _) (nf_c (noFz_o _ nf_SInt _) (nf_c (noFz_o _ (fun _ => rfl) _) (nf_c (noFz_o _ (fun _ => rfl) _) (nf_c rfl nf_n)))))) (nf_c (noFz_o _ (fun _ => rfl) _) (nf_c rfl nf_n)))), ?_⟩
          obtain ⟨b74, b75, b76⟩ := b73
          try dsimp only at h
          dsimp only
          refine thaw_tup ?_
          refine TH_a ?_
          refine TH_o hS (fun _ _ => rfl) (fun _ => rfl) fun v84 H qv84 hS => ?_
          refine TH_oN (l := b74.Queues) (d := nd_SInt) (m := nm_SInt) (p := np_SInt) (c := (AV.int .i64)) hS nc_SInt nh_SInt fun v86 d87 H qv86 qd87 hS => ?_
          have hS : Own _ (⟨v86, 1, ouw nm_SInt d87 b74.Queues⟩ :: ⟨v84, 1, b74.Quanta.map (AV.int .i64)⟩ :: ⟨v37, 1, x36.map (AV.int .i64)⟩ :: ⟨v40, 1, ouw nm_SInt d42 x39⟩ :: ⟨v44, 1, x43.map (AV.int .i64)⟩ :: ⟨v47, 1, x46.map (AV.int .i64)⟩ :: ⟨.ptr ip4 wp4 0 0, 5, [.agg [.nil, .nil, .nil, .nil, .int .i64 0]]⟩ :: ⟨.ptr ip32 wp32 0 0, 5, [.agg [v37, v40, v44, v47, .int .i64 x49]]⟩ :: ((inn np_SInt (AV.int .i64) 1 d87 b74.Queues) ++ (((inn np_SInt (AV.int .i64) 1 d42 x39) ++ (F))))) := Own.catI_ (bl := [[⟨v86, 1, ouw nm_SInt d87 b74.Queues⟩], (inn np_SInt (AV.int .i64) 1 d87 b74.Queues), [⟨v84, 1, b74.Quanta.map (AV.int .i64)⟩], [⟨v37, 1, x36.map (AV.int .i64)⟩], [⟨v40, 1, ouw nm_SInt d42 x39⟩], [⟨v44, 1, x43.map (AV.int .i64)⟩], [⟨v47, 1, x46.map (AV.int .i64)⟩], [⟨.ptr ip4 wp4 0 0, 5, [.agg [.nil, .nil, .nil, .nil, .int .i64 0]]⟩], [⟨.ptr ip32 wp32 0 0, 5, [.agg [v37, v40, v44, v47, .int .i64 x49]]⟩], (inn np_SInt (AV.int .i64) 1 d42 x39)]) (F := F) hS 10 rfl [0, 2, 3, 4, 5, 6, 7, 8, 1, 9] (by decide)
          refine TH_o hS (fun _ _ => rfl) (fun _ => rfl) fun v89 H qv89 hS => ?_
          refine TH_o hS (fun _ _ => rfl) (fun _ => rfl) fun v91 H qv91 hS => ?_
          refine TH_p (fun _ => rfl) ?_
          refine TH_n ?_
          refine TH_o hS (fun _ _ => rfl) (fun _ => rfl) fun v93 H qv93 hS => ?_
          refine TH_p (fun _ => rfl) ?_
          refine TH_n ?_
          try simp only [List.headD_cons]
          try simp only [W]
          refine w_alloc hS rfl rfl fun ip94 wp94 H hS => ?_
          try simp only [W]
          refine w_stv (a := .agg [v84, v86, v89, v91, .int .i64 b74.At]) (y' := .agg [v84, v86, v89, v91, .int .i64 b74.At]) 0 hS rfl rfl rfl rfl rfl (by simp only [storA, List.all_cons, List.all_nil, qv84.stor, qv86.stor, qv89.stor, qv91.stor]; rfl) rfl rfl fun H hS => ?_
          try simp only [W]
          refine seq_n hK72 ?_
          refine w_seq fun K96 hK96 => ?_
          refine w_seq fun K97 hK97 => ?_
          refine w_reg gC ?_
          try simp only [W, Nat.reduceAdd]
          refine seq_n hK97 ?_
          refine w_if ?_
          simp only [W]
          refine w_cnd h (fun hc h => ?_) (fun hc h => ?_)
          · refine w_seq fun K98 hK98 => ?_
            refine w_reg gC ?_
            try simp only [W, EE, Nat.reduceAdd]
            refine w_bld rfl rfl rfl rfl rfl ?_
            try simp only [W]
            refine w_stv (a := .agg [.nil, .nil, .nil, .nil, .int .i64 0]) (y' := .agg [.nil, .nil, .nil, .nil, .int .i64 0]) 10 hS rfl rfl rfl rfl rfl rfl rfl rfl fun H hS => ?_
            try simp only [W]
            refine seq_n hK98 ?_
            refine w_ret ?_
            refine seq_r hK96 ?_
            refine blk_r hK71 ?_
            refine seq_r hK70 ?_
            try obtain rfl := Option.some.inj h
            obtain rfl := hd65 _ rfl
            have h : (some (LR.done ((⟨([] : List Int), ([] : List (List Int)), ([] : List Int), ([] : List Int), 0⟩ : Turns), false)) : Option (LR ((List Int) × (List (List Int)) × (List Int) × (List Int) × Int) (Turns × Bool))) = some (LR.done ((⟨([] : List Int), ([] : List (List Int)), ([] : List Int), ([] : List Int), 0⟩ : Turns), false)) := rfl
            refine lp_r hK64 ?_
            refine blk_r hK63 ?_
            try obtain rfl := Option.some.inj h
            obtain rfl := Option.some.inj g67
            have h : (some ((⟨([] : List Int), ([] : List (List Int)), ([] : List Int), ([] : List Int), 0⟩ : Turns), false) : Option (Turns × Bool)) = some ((⟨([] : List Int), ([] : List (List Int)), ([] : List Int), ([] : List Int), 0⟩ : Turns), false) := rfl
            refine cut_r hK62 ?_
            refine seq_r hK34 ?_
            have hS := hS.nil_ 1
            have hS := hS.nil_ 1
            obtain ⟨d101, qd101, hS⟩ := noneN (p := np_SInt) (c := (AV.int .i64)) (z := 1) (m := nm_SInt) hS
            have hS : Own _ (⟨AV.nil, 1, ouw nm_SInt d101 ([] : List (List Int))⟩ :: ⟨AV.nil, 1, ([] : List Int).map (AV.int .i64)⟩ :: ⟨.ptr ip94 wp94 0 0, 5, [.agg [v84, v86, v89, v91, .int .i64 b74.At]]⟩ :: ⟨v93, 1, b75.map (AV.int .i64)⟩ :: ⟨v91, 1, b74.Sent.map (AV.int .i64)⟩ :: ⟨v89, 1, b74.Credit.map (AV.int .i64)⟩ :: ⟨v86, 1, ouw nm_SInt d87 b74.Queues⟩ :: ⟨v84, 1, b74.Quanta.map (AV.int .i64)⟩ :: ⟨v37, 1, x36.map (AV.int .i64)⟩ :: ⟨v40, 1, ouw nm_SInt d42 x39⟩ :: ⟨v44, 1, x43.map (AV.int .i64)⟩ :: ⟨v47, 1, x46.map (AV.int .i64)⟩ :: ⟨.ptr ip4 wp4 0 0, 5, [.agg [.nil, .nil, .nil, .nil, .int .i64 0]]⟩ :: ⟨.ptr ip32 wp32 0 0, 5, [.agg [v37, v40, v44, v47, .int .i64 x49]]⟩ :: ((inn np_SInt (AV.int .i64) 1 d101 ([] : List (List Int))) ++ (((inn np_SInt (AV.int .i64) 1 d87 b74.Queues) ++ (((inn np_SInt (AV.int .i64) 1 d42 x39) ++ (F))))))) := Own.catI_ (bl := [[⟨AV.nil, 1, ouw nm_SInt d101 ([] : List (List Int))⟩], (inn np_SInt (AV.int .i64) 1 d101 ([] : List (List Int))), [⟨AV.nil, 1, ([] : List Int).map (AV.int .i64)⟩], [⟨.ptr ip94 wp94 0 0, 5, [.agg [v84, v86, v89, v91, .int .i64 b74.At]]⟩], [⟨v93, 1, b75.map (AV.int .i64)⟩], [⟨v91, 1, b74.Sent.map (AV.int .i64)⟩], [⟨v89, 1, b74.Credit.map (AV.int .i64)⟩], [⟨v86, 1, ouw nm_SInt d87 b74.Queues⟩], [⟨v84, 1, b74.Quanta.map (AV.int .i64)⟩], [⟨v37, 1, x36.map (AV.int .i64)⟩], [⟨v40, 1, ouw nm_SInt d42 x39⟩], [⟨v44, 1, x43.map (AV.int .i64)⟩], [⟨v47, 1, x46.map (AV.int .i64)⟩], [⟨.ptr ip4 wp4 0 0, 5, [.agg [.nil, .nil, .nil, .nil, .int .i64 0]]⟩], [⟨.ptr ip32 wp32 0 0, 5, [.agg [v37, v40, v44, v47, .int .i64 x49]]⟩], (inn np_SInt (AV.int .i64) 1 d87 b74.Queues), (inn np_SInt (AV.int .i64) 1 d42 x39)]) (F := F) hS 17 rfl [0, 2, 3, 4, 5, 6, 7, 8, 9, 10, 11, 12, 13, 14, 1, 15, 16] (by decide)
            have hS := hS.nil_ 1
            have hS := hS.nil_ 1
            refine fin_r hK0 (res_c rfl rfl (hS.var 14 rfl) rfl (res_tc rfl rfl)) ?_
            try obtain rfl := Option.some.inj h
            have hS : Own _ (⟨AV.nil, 1, ([] : List Int).map (AV.int .i64)⟩ :: ⟨AV.nil, 1, ouw nm_SInt d101 ([] : List (List Int))⟩ :: ⟨AV.nil, 1, ([] : List Int).map (AV.int .i64)⟩ :: ⟨AV.nil, 1, ([] : List Int).map (AV.int .i64)⟩ :: ((inn np_SInt (AV.int .i64) 1 d101 ([] : List (List Int))) ++ (F))) := Own.catI_ (bl := [[⟨AV.nil, 1, ([] : List Int).map (AV.int .i64)⟩], [⟨AV.nil, 1, ([] : List Int).map (AV.int .i64)⟩], [⟨AV.nil, 1, ouw nm_SInt d101 ([] : List (List Int))⟩], [⟨AV.nil, 1, ([] : List Int).map (AV.int .i64)⟩], [⟨.ptr ip94 wp94 0 0, 5, [.agg [v84, v86, v89, v91, .int .i64 b74.At]]⟩], [⟨v93, 1, b75.map (AV.int .i64)⟩], [⟨v91, 1, b74.Sent.map (AV.int .i64)⟩], [⟨v89, 1, b74.Credit.map (AV.int .i64)⟩], [⟨v86, 1, ouw nm_SInt d87 b74.Queues⟩], [⟨v84, 1, b74.Quanta.map (AV.int .i64)⟩], [⟨v37, 1, x36.map (AV.int .i64)⟩], [⟨v40, 1, ouw nm_SInt d42 x39⟩], [⟨v44, 1, x43.map (AV.int .i64)⟩], [⟨v47, 1, x46.map (AV.int .i64)⟩], [⟨.ptr ip4 wp4 0 0, 5, [.agg [.nil, .nil, .nil, .nil, .int .i64 0]]⟩], [⟨.ptr ip32 wp32 0 0, 5, [.agg [v37, v40, v44, v47, .int .i64 x49]]⟩], (inn np_SInt (AV.int .i64) 1 d101 ([] : List (List Int))), (inn np_SInt (AV.int .i64) 1 d87 b74.Queues), (inn np_SInt (AV.int .i64) 1 d42 x39)]) (F := F) hS 19 rfl [3, 2, 1, 0, 16] (by decide)
            exact hP _ isSl_nil _ isSl_nil _ qd101 _ isSl_nil _ isSl_nil _ hS
          · refine w_skip ?_
            refine seq_n hK96 ?_
            refine w_reg gC ?_
            try simp only [W, EE, reduceIte, Nat.reduceAdd, Nat.reduceLeDiff, hS.var 0 rfl]
            refine w_stv (a := .agg [v84, v86, v89, v91, .int .i64 b74.At]) (y' := .agg [v84, v86, v89, v91, .int .i64 b74.At]) 11 hS rfl rfl rfl rfl rfl (by simp only [storA, List.all_cons, List.all_nil, qv84.stor, qv86.stor, qv89.stor, qv91.stor]; rfl) rfl rfl fun H hS => ?_
            try simp only [W]
            refine blk_n0 hK71 ?_
            refine seq_n hK70 ?_
            refine w_reg gC ?_
            try simp only [W, EE, Nat.reduceAdd]
            have hS : Own _ (⟨v84, 1, b74.Quanta.map (AV.int .i64)⟩ :: ⟨v86, 1, ouw nm_SInt d87 b74.Queues⟩ :: ⟨v89, 1, b74.Credit.map (AV.int .i64)⟩ :: ⟨v91, 1, b74.Sent.map (AV.int .i64)⟩ :: ⟨.ptr ip4 wp4 0 0, 5, [.agg [.nil, .nil, .nil, .nil, .int .i64 0]]⟩ :: ⟨.ptr ip32 wp32 0 0, 5, [.agg [v84, v86, v89, v91, .int .i64 b74.At]]⟩ :: ((inn np_SInt (AV.int .i64) 1 d87 b74.Queues) ++ (F))) := Own.catI_ (bl := [[⟨.ptr ip94 wp94 0 0, 5, [.agg [v84, v86, v89, v91, .int .i64 b74.At]]⟩], [⟨v93, 1, b75.map (AV.int .i64)⟩], [⟨v91, 1, b74.Sent.map (AV.int .i64)⟩], [⟨v89, 1, b74.Credit.map (AV.int .i64)⟩], [⟨v86, 1, ouw nm_SInt d87 b74.Queues⟩], [⟨v84, 1, b74.Quanta.map (AV.int .i64)⟩], [⟨v37, 1, x36.map (AV.int .i64)⟩], [⟨v40, 1, ouw nm_SInt d42 x39⟩], [⟨v44, 1, x43.map (AV.int .i64)⟩], [⟨v47, 1, x46.map (AV.int .i64)⟩], [⟨.ptr ip4 wp4 0 0, 5, [.agg [.nil, .nil, .nil, .nil, .int .i64 0]]⟩], [⟨.ptr ip32 wp32 0 0, 5, [.agg [v84, v86, v89, v91, .int .i64 b74.At]]⟩], (inn np_SInt (AV.int .i64) 1 d87 b74.Queues), (inn np_SInt (AV.int .i64) 1 d42 x39)]) (F := F) hS 14 rfl [5, 4, 3, 2, 10, 11, 12] (by decide)
            exact lp_n hK64 h ⟨_, qv84, _, qv86, _, qv89, _, qv91, _, qd87, rfl, hS⟩
        · refine w_exit ?_
          refine seq_x hK68 ?_
          try obtain rfl := Option.some.inj h
          obtain rfl := hd65 _ rfl
          have h : (some (LR.next (x36, x39, x43, x46, x49)) : Option (LR ((List Int) × (List (List Int)) × (List Int) × (List Int) × Int) (Turns × Bool))) = some (LR.next (x36, x39, x43, x46, x49)) := rfl
          refine lp_x hK64 ?_
          refine blk_e hK63 ?_
          exact cut_n hK62 ⟨_, _, _, _, _, (Option.some.inj h).symm, _, qv37, _, qv40, _, qv44, _, qv47, _, qd42, rfl, hS⟩
      · obtain ⟨x50, x52, x55, x57, x59, rfl, v51, qv51, v53, qv53, v56, qv56, v58, qv58, d54, qd54, rfl, hS⟩ := hq
        replace h := g67
        try dsimp only at h
        refine seq_n hK34 ?_
        refine w_seq fun K110 hK110 => ?_
        refine w_reg gC ?_
        try simp only [W, EE, reduceIte, Nat.reduceAdd, Nat.reduceLeDiff, hS.var 5 rfl]
        refine w_stv (a := .agg [v51, v53, v56, v58, .int .i64 x59]) (y' := .agg [v51, v53, v56, v58, .int .i64 x59]) 4 hS rfl rfl rfl rfl rfl (by simp only [storA, List.all_cons, List.all_nil, qv51.stor, qv53.stor, qv56.stor, qv58.stor]; rfl) rfl rfl fun H hS => ?_
        try simp only [W]
        refine seq_n hK110 ?_
        refine w_ret ?_
        refine fin_r hK0 (res_c rfl rfl (hS.var 4 rfl) rfl (res_tc rfl rfl)) ?_
        try obtain rfl := Option.some.inj h
        have hS : Own _ (⟨v51, 1, x50.map (AV.int .i64)⟩ :: ⟨v53, 1, ouw nm_SInt d54 x52⟩ :: ⟨v56, 1, x55.map (AV.int .i64)⟩ :: ⟨v58, 1, x57.map (AV.int .i64)⟩ :: ((inn np_SInt (AV.int .i64) 1 d54 x52) ++ (F))) := Own.catI_ (bl := [[⟨v51, 1, x50.map (AV.int .i64)⟩], [⟨v53, 1, ouw nm_SInt d54 x52⟩], [⟨v56, 1, x55.map (AV.int .i64)⟩], [⟨v58, 1, x57.map (AV.int .i64)⟩], [⟨.ptr ip4 wp4 0 0, 5, [.agg [v51, v53, v56, v58, .int .i64 x59]]⟩], [⟨.ptr ip32 wp32 0 0, 5, [.agg [v51, v53, v56, v58, .int .i64 x59]]⟩], (inn np_SInt (AV.int .i64) 1 d54 x52)]) (F := F) hS 7 rfl [0, 1, 2, 3, 6] (by decide)
        exact hP _ qv51 _ qv53 _ qd54 _ qv56 _ qv58 _ hS
theorem laws_sameInts_w {a0 : List Int} {a1 : List Int} {r : (Bool)} (h : laws_sameInts a0 a1 = some r) {F : List It} {H : Heap} (hS : Own H (F)) {P : AV → Heap → Prop} (hP : ∀ H', Own H' (F) → P (.bool r) H') : ACall C 22 [.fz (a0.map (AV.int .i64)), .fz (a1.map (AV.int .i64))] H P := by
  refine acall_of gC (res := [.tmp 4]) (n := 26) rfl rfl rfl rfl fun K0 hK0 => ?_
  simp only [W, Nat.reduceSub, Nat.reduceAdd, List.replicate]
  unfold laws_sameInts at h
  refine w_seq fun K1 hK1 => ?_
  refine w_reg gC ?_
  try simp only [W, Nat.reduceAdd]
  refine seq_n hK1 ?_
  refine w_seq fun K2 hK2 => ?_
  refine w_seq fun K3 hK3 => ?_
  refine w_reg gC ?_
  try simp only [W, EE, Nat.reduceAdd]
  refine seq_n hK3 ?_
  refine w_if ?_
  simp only [W]
  refine w_cnd h (fun hc h => ?_) (fun hc h => ?_)
  · refine w_seq fun K4 hK4 => ?_
    refine w_reg gC ?_
    try simp only [W, Nat.reduceAdd]
    refine seq_n hK4 ?_
    refine w_ret ?_
    refine seq_r hK2 ?_
    refine fin_r1 hK0 rfl ?_
    try obtain rfl := Option.some.inj h
    exact hP _ hS
  · refine w_skip ?_
    refine seq_n hK2 ?_
    refine w_seq fun K5 hK5 => ?_
    refine w_seq fun K6 hK6 => ?_
    refine w_reg gC ?_
    try simp only [W, EE, Nat.reduceAdd]
    refine seq_n hK6 ?_
    obtain ⟨y8, hw9, g15⟩ := Option.bind_eq_some_iff.1 h
    refine w_join gC (fun s H => y8 = LR.next () ∧ s = [u, u, u, u, u, u, u, u, u, u, u, u, u, u, u, u, u, u, u, u, u, u, u, u, u, u] ∧ Own H (F)) (fun K10 hK10 => ?_) (fun s H hq => ?_)
    · refine w_blk fun K11 hK11 => ?_
      refine w_loop gC hw9 (fun x s H => s = [.fz (a0.map (AV.int .i64)), .fz (a1.map (AV.int .i64)), u, u, u, u, u, u, u, u, u, u, .int .i64 (a0.length : Int), .int .i64 x, u, u, u, u, u, u, u, u, u, u, u, u] ∧ Own H (F)) ⟨rfl, hS⟩ (fun x7 y14 s H h hd13 hi K12 hK12 => ?_)
      skip
      try dsimp only at hi
      obtain ⟨rfl, hS⟩ := hi
      simp only [laws_sameInts_l0] at h
      refine w_seq fun K16 hK16 => ?_
      refine w_reg gC ?_
      try simp only [W, EE, Nat.reduceAdd]
      refine seq_n hK16 ?_
      refine w_seq fun K17 hK17 => ?_
      refine w_if ?_
      simp only [W]
      refine w_cnd h (fun hc h => ?_) (fun hc h => ?_)
      · refine w_skip ?_
        refine seq_n hK17 ?_
        refine w_seq fun K18 hK18 => ?_
        refine w_blk fun K19 hK19 => ?_
        refine w_seq fun K20 hK20 => ?_
        refine w_reg gC ?_
        try simp only [W, Nat.reduceAdd]
        refine seq_n hK20 ?_
        refine w_seq fun K21 hK21 => ?_
        refine w_draw0 gC (by kernel_rfl) ?_
        try simp only [W, EE, Nat.reduceAdd]
        refine w_fz rfl rfl rfl (fun _ => rfl) h fun b22 hb22 h => ?_
        try simp only [W, EE]
        refine w_fz rfl rfl rfl (fun _ => rfl) h fun b23 hb23 h => ?_
        try simp only [W, EE]
        refine seq_n hK21 ?_
        refine w_if ?_
        simp only [W]
        refine w_cnd h (fun hc h => ?_) (fun hc h => ?_)
        · refine w_seq fun K24 hK24 => ?_
          refine w_reg gC ?_
          try simp only [W, Nat.reduceAdd]
          refine seq_n hK24 ?_
          refine w_ret ?_
          refine blk_r hK19 ?_
          refine seq_r hK18 ?_
          try obtain rfl := Option.some.inj h
          obtain rfl := hd13 _ rfl
          have h : (some (LR.done false) : Option (LR Unit (Bool))) = some (LR.done false) := rfl
          refine lp_r hK12 ?_
          refine blk_r hK11 ?_
          try obtain rfl := Option.some.inj h
          obtain rfl := Option.some.inj g15
          have h : (some false : Option (Bool)) = some false := rfl
          refine cut_r hK10 ?_
          refine seq_r hK5 ?_
          refine fin_r1 hK0 rfl ?_
          try obtain rfl := Option.some.inj h
          exact hP _ hS
        · refine w_skip ?_
          refine blk_n0 hK19 ?_
          refine seq_n hK18 ?_
          refine w_reg gC ?_
          try simp only [W, EE, Nat.reduceAdd]
          exact lp_n hK12 h ⟨rfl, hS⟩
      · refine w_exit ?_
        refine seq_x hK17 ?_
        try obtain rfl := Option.some.inj h
        obtain rfl := hd13 _ rfl
        have h : (some (LR.next ()) : Option (LR Unit (Bool))) = some (LR.next ()) := rfl
        refine lp_x hK12 ?_
        refine blk_e hK11 ?_
        exact cut_n hK10 ⟨(Option.some.inj h).symm, rfl, hS⟩
    · obtain ⟨rfl, rfl, hS⟩ := hq
      replace h := g15
      try dsimp only at h
      refine seq_n hK5 ?_
      refine w_seq fun K31 hK31 => ?_
      refine w_reg gC ?_
      try simp only [W, Nat.reduceAdd]
      refine seq_n hK31 ?_
      refine w_ret ?_
      refine fin_r1 hK0 rfl ?_
      try obtain rfl := Option.some.inj h
      exact hP _ hS
theorem laws_sameTurns_w {a0 : Turns} {a1 : Turns} {r : (Bool)} (h : laws_sameTurns a0 a1 = some r) {F : List It} {H : Heap} (hS : Own H (F)) {P : AV → Heap → Prop} (hP : ∀ H', Own H' (F) → P (.bool r) H') : ACall C 61 [.agg [.fz (a0.Quanta.map (AV.int .i64)), .fz (a0.Queues.map (fzl (AV.int .i64))), .fz (a0.Credit.map (AV.int .i64)), .fz (a0.Sent.map (AV.int .i64)), .int .i64 a0.At], .agg [.fz (a1.Quanta.map (AV.int .i64)), .fz (a1.Queues.map (fzl (AV.int .i64))), .fz (a1.Credit.map (AV.int .i64)), .fz (a1.Sent.map (AV.int .i64)), .int .i64 a1.At]] H P := by
  refine acall_of gC (res := [.tmp 4]) (n := 63) rfl rfl rfl rfl fun K0 hK0 => ?_
  simp only [W, Nat.reduceSub, Nat.reduceAdd, List.replicate]
  unfold laws_sameTurns at h
  refine w_seq fun K1 hK1 => ?_
  refine w_reg gC ?_
  try simp only [W, Nat.reduceAdd]
  refine w_box hS rfl rfl rfl rfl fun ip2 wp2 H hS => ?_
  try simp only [W]
  refine w_box hS rfl rfl rfl rfl fun ip4 wp4 H hS => ?_
  try simp only [W]
  refine seq_n hK1 ?_
  refine w_seq fun K6 hK6 => ?_
  refine w_seq fun K7 hK7 => ?_
  obtain ⟨y9, h, g10⟩ := Option.bind_eq_some_iff.1 h
  refine w_join gC (fun s H => ∃ x8 : Bool, y9 = (x8) ∧ s = (u :: u :: .ptr ip2 wp2 0 0 :: .ptr ip4 wp4 0 0 :: u :: u :: u :: u :: u :: u :: u :: u :: u :: u :: u :: u :: u :: u :: u :: u :: u :: u :: u :: u :: u :: u :: u :: u :: u :: u :: u :: u :: u :: u :: u :: u :: u :: u :: u :: u :: u :: u :: u :: .bool x8 :: u :: u :: u :: u :: u :: u :: u :: u :: u :: u :: u :: u :: u :: u :: u :: u :: u :: u :: u :: []) ∧ Own H (⟨.ptr ip2 wp2 0 0, 5, [.agg [.fz (a0.Quanta.map (AV.int .i64)), .fz (a0.Queues.map (fzl (AV.int .i64))), .fz (a0.Credit.map (AV.int .i64)), .fz (a0.Sent.map (AV.int .i64)), .int .i64 a0.At]]⟩ :: ⟨.ptr ip4 wp4 0 0, 5, [.agg [.fz (a1.Quanta.map (AV.int .i64)), .fz (a1.Queues.map (fzl (AV.int .i64))), .fz (a1.Credit.map (AV.int .i64)), .fz (a1.Sent.map (AV.int .i64)), .int .i64 a1.At]]⟩ :: F)) (fun K11 hK11 => ?_) (fun s H hq => ?_)
  · refine w_seq fun K12 hK12 => ?_
    refine w_reg gC ?_
    try simp only [W, EE, Nat.reduceAdd, Nat.reduceBEq, hS.var 1 rfl, hS.var 0 rfl]
    refine w_call h fun b13 hb13 h => ?_
    refine laws_sameInts_w hb13 hS fun H hS => ?_
    try simp only [W]
    refine w_grdT h (fun hc h => ?_) (fun hc h => ?_)
    · try simp only [W, hc]
      refine seq_n hK12 ?_
      refine w_killE (s' := (u :: u :: .ptr ip2 wp2 0 0 :: .ptr ip4 wp4 0 0 :: u :: u :: u :: u :: u :: u :: u :: u :: u :: u :: u :: u :: u :: u :: u :: u :: u :: u :: u :: u :: u :: u :: u :: u :: u :: u :: u :: u :: u :: u :: u :: u :: u :: u :: u :: u :: u :: u :: u :: .bool true :: u :: u :: u :: u :: u :: u :: u :: u :: u :: u :: u :: u :: u :: u :: u :: u :: u :: u :: u :: [])) rfl ?_
      exact cut_n hK11 ⟨_, (Option.some.inj h).symm, rfl, (hS.sel 2 [1, 0] (by decide))⟩
    · try simp only [W, EE, Nat.reduceAdd, Nat.reduceBEq, hS.var 1 rfl, hS.var 0 rfl, hc]
      refine w_call h fun b14 hb14 h => ?_
      refine laws_sameInts_w hb14 hS fun H hS => ?_
      try simp only [W, reduceIte, Bool.false_eq_true]
      refine w_grdT h (fun hc h => ?_) (fun hc h => ?_)
      · try simp only [W, hc]
        refine seq_n hK12 ?_
        refine w_killE (s' := (u :: u :: .ptr ip2 wp2 0 0 :: .ptr ip4 wp4 0 0 :: u :: u :: u :: u :: u :: u :: u :: u :: u :: u :: u :: u :: u :: u :: u :: u :: u :: u :: u :: u :: u :: u :: u :: u :: u :: u :: u :: u :: u :: u :: u :: u :: u :: u :: u :: u :: u :: u :: u :: .bool true :: u :: u :: u :: u :: u :: u :: u :: u :: u :: u :: u :: u :: u :: u :: u :: u :: u :: u :: u :: [])) rfl ?_
        exact cut_n hK11 ⟨_, (Option.some.inj h).symm, rfl, (hS.sel 2 [1, 0] (by decide))⟩
      · try simp only [W, EE, Nat.reduceAdd, Nat.reduceBEq, hS.var 1 rfl, hS.var 0 rfl, hc]
        refine w_call h fun b15 hb15 h => ?_
        refine laws_sameInts_w hb15 hS fun H hS => ?_
        try simp only [W, reduceIte, Bool.false_eq_true]
        refine w_grdT h (fun hc h => ?_) (fun hc h => ?_)
        · try simp only [W, hc]
          refine seq_n hK12 ?_
          refine w_killE (s' := (u :: u :: .ptr ip2 wp2 0 0 :: .ptr ip4 wp4 0 0 :: u :: u :: u :: u :: u :: u :: u :: u :: u :: u :: u :: u :: u :: u :: u :: u :: u :: u :: u :: u :: u :: u :: u :: u :: u :: u :: u :: u :: u :: u :: u :: u :: u :: u :: u :: u :: u :: u :: u :: .bool true :: u :: u :: u :: u :: u :: u :: u :: u :: u :: u :: u :: u :: u :: u :: u :: u :: u :: u :: u :: [])) rfl ?_
          exact cut_n hK11 ⟨_, (Option.some.inj h).symm, rfl, (hS.sel 2 [1, 0] (by decide))⟩
        · try simp only [W, EE, reduceIte, Nat.reduceAdd, Nat.reduceBEq, Bool.false_eq_true, hS.var 1 rfl, hS.var 0 rfl, hc]
          refine w_grdT h (fun hc h => ?_) (fun hc h => ?_)
          · try simp only [W, hc]
            refine seq_n hK12 ?_
            refine w_killE (s' := (u :: u :: .ptr ip2 wp2 0 0 :: .ptr ip4 wp4 0 0 :: u :: u :: u :: u :: u :: u :: u :: u :: u :: u :: u :: u :: u :: u :: u :: u :: u :: u :: u :: u :: u :: u :: u :: u :: u :: u :: u :: u :: u :: u :: u :: u :: u :: u :: u :: u :: u :: u :: u :: .bool true :: u :: u :: u :: u :: u :: u :: u :: u :: u :: u :: u :: u :: u :: u :: u :: u :: u :: u :: u :: [])) rfl ?_
            exact cut_n hK11 ⟨_, (Option.some.inj h).symm, rfl, (hS.sel 2 [1, 0] (by decide))⟩
          · try simp only [W, EE, reduceIte, Nat.reduceAdd, Nat.reduceBEq, Bool.false_eq_true, hS.var 1 rfl, hS.var 0 rfl, hc]
            refine seq_n hK12 ?_
            refine w_killE (s' := (u :: u :: .ptr ip2 wp2 0 0 :: .ptr ip4 wp4 0 0 :: u :: u :: u :: u :: u :: u :: u :: u :: u :: u :: u :: u :: u :: u :: u :: u :: u :: u :: u :: u :: u :: u :: u :: u :: u :: u :: u :: u :: u :: u :: u :: u :: u :: u :: u :: u :: u :: u :: u :: .bool ((a0.Queues.length : Int) != (a1.Queues.length : Int)) :: u :: u :: u :: u :: u :: u :: u :: u :: u :: u :: u :: u :: u :: u :: u :: u :: u :: u :: u :: [])) rfl ?_
            exact cut_n hK11 ⟨_, (Option.some.inj h).symm, rfl, (hS.sel 2 [1, 0] (by decide))⟩
  · obtain ⟨x8, ey, rfl, hS⟩ := hq; obtain rfl := ey.symm
    replace h := g10
    try dsimp only at h
    refine seq_n hK7 ?_
    refine w_if ?_
    simp only [W]
    refine w_cnd h (fun hc h => ?_) (fun hc h => ?_)
    · refine w_seq fun K16 hK16 => ?_
      refine w_reg gC ?_
      try simp only [W, Nat.reduceAdd]
      refine seq_n hK16 ?_
      refine w_ret ?_
      refine seq_r hK6 ?_
      refine fin_r1 hK0 rfl ?_
      try obtain rfl := Option.some.inj h
      exact hP _ (hS.sel 2 [] (by decide))
    · refine w_skip ?_
      refine seq_n hK6 ?_
      refine w_seq fun K17 hK17 => ?_
      refine w_seq fun K18 hK18 => ?_
      refine w_reg gC ?_
      try simp only [W, EE, Nat.reduceAdd, Nat.reduceBEq, hS.var 0 rfl]
      refine seq_n hK18 ?_
      obtain ⟨y20, hw21, g27⟩ := Option.bind_eq_some_iff.1 h
      refine w_join gC (fun s H => y20 = LR.next () ∧ s = (u :: u :: u :: u :: u :: u :: u :: u :: u :: u :: u :: u :: u :: u :: u :: u :: u :: u :: u :: u :: u :: u :: u :: u :: u :: u :: u :: u :: u :: u :: u :: u :: u :: u :: u :: u :: u :: u :: u :: u :: u :: u :: u :: u :: u :: u :: u :: u :: u :: u :: u :: u :: u :: u :: u :: u :: u :: u :: u :: u :: u :: u :: u :: []) ∧ Own H (F)) (fun K22 hK22 => ?_) (fun s H hq => ?_)
      · refine w_blk fun K23 hK23 => ?_
        refine w_loop gC hw21 (fun x s H => s = (u :: u :: .ptr ip2 wp2 0 0 :: .ptr ip4 wp4 0 0 :: u :: u :: u :: u :: u :: u :: u :: u :: u :: u :: u :: u :: u :: u :: u :: u :: u :: u :: u :: u :: u :: u :: u :: u :: u :: u :: u :: u :: u :: u :: u :: u :: u :: u :: u :: u :: u :: u :: u :: u :: u :: u :: .int .i64 (a0.Queues.length : Int) :: .int .i64 x :: u :: u :: u :: u :: u :: u :: u :: u :: u :: u :: u :: u :: u :: u :: u :: []) ∧ Own H (⟨.ptr ip2 wp2 0 0, 5, [.agg [.fz (a0.Quanta.map (AV.int .i64)), .fz (a0.Queues.map (fzl (AV.int .i64))), .fz (a0.Credit.map (AV.int .i64)), .fz (a0.Sent.map (AV.int .i64)), .int .i64 a0.At]]⟩ :: ⟨.ptr ip4 wp4 0 0, 5, [.agg [.fz (a1.Quanta.map (AV.int .i64)), .fz (a1.Queues.map (fzl (AV.int .i64))), .fz (a1.Credit.map (AV.int .i64)), .fz (a1.Sent.map (AV.int .i64)), .int .i64 a1.At]]⟩ :: F)) ⟨rfl, hS⟩ (fun x19 y26 s H h hd25 hi K24 hK24 => ?_)
        skip
        try dsimp only at hi
        obtain ⟨rfl, hS⟩ := hi
        simp only [laws_sameTurns_l0] at h
        refine w_seq fun K28 hK28 => ?_
        refine w_reg gC ?_
        try simp only [W, EE, Nat.reduceAdd]
        refine seq_n hK28 ?_
        refine w_seq fun K29 hK29 => ?_
        refine w_if ?_
        simp only [W]
        refine w_cnd h (fun hc h => ?_) (fun hc h => ?_)
        · refine w_skip ?_
          refine seq_n hK29 ?_
          refine w_seq fun K30 hK30 => ?_
          refine w_blk fun K31 hK31 => ?_
          refine w_seq fun K32 hK32 => ?_
          refine w_reg gC ?_
          try simp only [W, Nat.reduceAdd]
          refine seq_n hK32 ?_
          refine w_seq fun K33 hK33 => ?_
          refine w_draw0 gC (by kernel_rfl) ?_
          try simp only [W, EE, Nat.reduceAdd, Nat.reduceBEq, hS.var 0 rfl]
          refine w_fz rfl rfl rfl (fun _ => rfl) h fun b34 hb34 h => ?_
          try simp only [W, EE, EN, Nat.reduceAdd, Nat.reduceBEq, hS.var 1 rfl]
          refine w_fz rfl rfl rfl (fun _ => rfl) h fun b35 hb35 h => ?_
          try simp only [W, EE, EN]
          refine w_callS (rsh := [[.sc]]) (ys := [.fz (b34.map (AV.int .i64)), .fz (b35.map (AV.int .i64))]) h rfl (by rfl) fun b36 hb36 h => ⟨.bool b36, laws_sameInts_w hb36 (Own.nil _) fun H hS => TV_ok rfl (TV_p rfl (TV_n rfl)), ⟨rfl, rfl, fun _ => rfl⟩, ?_⟩
          try simp only [W]
          refine seq_n hK33 ?_
          refine w_if ?_
          simp only [W]
          refine w_cnd h (fun hc h => ?_) (fun hc h => ?_)
          · refine w_seq fun K37 hK37 => ?_
            refine w_reg gC ?_
            try simp only [W, Nat.reduceAdd]
            refine seq_n hK37 ?_
            refine w_ret ?_
            refine blk_r hK31 ?_
            refine seq_r hK30 ?_
            try obtain rfl := Option.some.inj h
            obtain rfl := hd25 _ rfl
            have h : (some (LR.done false) : Option (LR Unit (Bool))) = some (LR.done false) := rfl
            refine lp_r hK24 ?_
            refine blk_r hK23 ?_
            try obtain rfl := Option.some.inj h
            obtain rfl := Option.some.inj g27
            have h : (some false : Option (Bool)) = some false := rfl
            refine cut_r hK22 ?_
            refine seq_r hK17 ?_
            refine fin_r1 hK0 rfl ?_
            try obtain rfl := Option.some.inj h
            exact hP _ (hS.sel 2 [] (by decide))
          · refine w_skip ?_
            refine blk_n0 hK31 ?_
            refine seq_n hK30 ?_
            refine w_reg gC ?_
            try simp only [W, EE, Nat.reduceAdd]
            exact lp_n hK24 h ⟨rfl, hS⟩
        · refine w_exit ?_
          refine seq_x hK29 ?_
          try obtain rfl := Option.some.inj h
          obtain rfl := hd25 _ rfl
          have h : (some (LR.next ()) : Option (LR Unit (Bool))) = some (LR.next ()) := rfl
          refine lp_x hK24 ?_
          refine blk_e hK23 ?_
          exact cut_n hK22 ⟨(Option.some.inj h).symm, rfl, (hS.sel 2 [] (by decide))⟩
      · obtain ⟨rfl, rfl, hS⟩ := hq
        replace h := g27
        try dsimp only at h
        refine seq_n hK17 ?_
        refine w_seq fun K44 hK44 => ?_
        refine w_reg gC ?_
        try simp only [W, Nat.reduceAdd]
        refine seq_n hK44 ?_
        refine w_ret ?_
        refine fin_r1 hK0 rfl ?_
        try obtain rfl := Option.some.inj h
        exact hP _ hS
theorem laws_FnCredit_w {a0 : List Int} {a1 : List Int} {r : (Bool)} (h : laws_FnCredit a0 a1 = some r) {F : List It} {H : Heap} (hS : Own H (F)) {P : AV → Heap → Prop} (hP : ∀ H', Own H' (F) → P (.bool r) H') : ACall C 7 [.fz (a0.map (AV.int .u8)), .fz (a1.map (AV.int .u8))] H P := by
  refine acall_of gC (res := [.tmp 4]) (n := 137) rfl rfl rfl rfl fun K0 hK0 => ?_
  simp only [W, Nat.reduceSub, Nat.reduceAdd, List.replicate]
  unfold laws_FnCredit at h
  refine w_seq fun K1 hK1 => ?_
  refine w_reg gC ?_
  try simp only [W, Nat.reduceAdd]
  refine seq_n hK1 ?_
  refine w_seq fun K2 hK2 => ?_
  refine w_seq fun K3 hK3 => ?_
  refine w_reg gC ?_
  try simp only [W, EE, Nat.reduceAdd]
  refine seq_n hK3 ?_
  refine w_if ?_
  simp only [W]
  refine w_cnd h (fun hc h => ?_) (fun hc h => ?_)
  · refine w_seq fun K4 hK4 => ?_
    refine w_reg gC ?_
    try simp only [W, Nat.reduceAdd]
    refine seq_n hK4 ?_
    refine w_ret ?_
    refine seq_r hK2 ?_
    refine fin_r1 hK0 rfl ?_
    try obtain rfl := Option.some.inj h
    exact hP _ hS
  · refine w_skip ?_
    refine seq_n hK2 ?_
    refine w_seq fun K5 hK5 => ?_
    refine w_reg gC ?_
    try simp only [W, Nat.reduceAdd]
    refine w_call h fun b6 hb6 h => ?_
    obtain ⟨b7, b8⟩ := b6
    try dsimp only at h
    refine spec_DrawRunTurns_w hb6 hS fun v9 qv9 v11 qv11 d13 qd13 v14 qv14 v16 qv16 H hS => ?_
    have hS : Own _ (⟨v9, 1, b7.Quanta.map (AV.int .i64)⟩ :: ⟨v11, 1, ouw nm_SInt d13 b7.Queues⟩ :: ⟨v14, 1, b7.Credit.map (AV.int .i64)⟩ :: ⟨v16, 1, b7.Sent.map (AV.int .i64)⟩ :: ((inn np_SInt (AV.int .i64) 1 d13 b7.Queues) ++ (F))) := hS
    try simp only [W]
    refine w_alloc hS rfl rfl fun ip18 wp18 H hS => ?_
    try simp only [W]
    refine w_stv (a := .agg [v9, v11, v14, v16, .int .i64 b7.At]) (y' := .agg [v9, v11, v14, v16, .int .i64 b7.At]) 0 hS rfl rfl rfl rfl rfl (by simp only [storA, List.all_cons, List.all_nil, qv9.stor, qv11.stor, qv14.stor, qv16.stor]; rfl) rfl rfl fun H hS => ?_
    try simp only [W]
    refine seq_n hK5 ?_
    refine w_seq fun K20 hK20 => ?_
    refine w_reg gC ?_
    try simp only [W, EE, reduceIte, Nat.reduceAdd, Nat.reduceLeDiff, Nat.reduceBEq, hS.var 0 rfl, List.contains_cons, Nat.reduceBEq, Bool.or_self]
    have hS : Own _ (⟨.ptr ip18 wp18 0 0, 5, [.agg [v9, v11, v14, v16, .int .i64 b7.At]]⟩ :: ⟨v9, 1, b7.Quanta.map (AV.int .i64)⟩ :: ⟨v11, 1, ouw nm_SInt d13 b7.Queues⟩ :: ⟨v14, 1, b7.Credit.map (AV.int .i64)⟩ :: ⟨v16, 1, b7.Sent.map (AV.int .i64)⟩ :: ((inn np_SInt (AV.int .i64) 1 d13 b7.Queues) ++ F)) := hS
    refine w_callO (rsh := [[.sl [.sc], .sl [.sl [.sc]], .sl [.sc], .sl [.sc], .sc], [.sc]]) (ys := [.agg [.fz (b7.Quanta.map (AV.int .i64)), .fz (b7.Queues.map (fzl (AV.int .i64))), .fz (b7.Credit.map (AV.int .i64)), .fz (b7.Sent.map (AV.int .i64)), .int .i64 b7.At], .int .i64 b8]) h rfl (pv_c (sn_agg (sm_c (sn_ow hS 1 rfl qv9 (fun _ => rfl)) (sm_c (sn_owN (enc := (fzl (AV.int .i64))) hS 2 rfl qv11 qd13 (fun _ h => (List.mem_cons_of_mem _ (List.mem_cons_of_mem _ (List.mem_cons_of_mem _ (List.mem_cons_of_mem _ (List.mem_cons_of_mem _ (List.mem_append_left _ h))))))) (fun _ _ ha hk => sn_it hk ha (fun _ => rfl))) (sm_c (sn_ow hS 3 rfl qv14 (fun _ => rfl)) (sm_c (sn_ow hS 4 rfl qv16 (fun _ => rfl)) (sm_c rfl (sm_n _))))))) (pv_c rfl pv_n)) fun b21 hb21 h => ⟨.tup [.agg [.own 1 (b21.1.Quanta.map (AV.int .i64)), .own 1 (b21.1.Queues.map nd_SInt), .own 1 (b21.1.Credit.map (AV.int .i64)), .own 1 (b21.1.Sent.map (AV.int .i64)), .int .i64 b21.1.At], .bool b21.2], impl_RunTurns_w hb21 (Own.nil _) fun v24 qv24 v25 qv25 d26 qd26 v27 qv27 v28 qv28 H hS => TV_ok rfl (TV_a (TC_ow 0 hS rfl qv24 (fun _ _ => by simp [takeE, takeT, plainA]) fun H hS => TC_owN (d := nd_SInt) (Own.catI_ (bl := [[⟨v25, 1, ouw nm_SInt d26 b21.1.Queues⟩], [⟨v27, 1, b21.1.Credit.map (AV.int .i64)⟩], [⟨v28, 1, b21.1.Sent.map (AV.int .i64)⟩], (inn np_SInt (AV.int .i64) 1 d26 b21.1.Queues)]) (F := []) hS 4 rfl [0, 3, 1, 2] (by decide)) qv25 qd26 nt_SInt fun H hS => TC_ow 0 hS rfl qv27 (fun _ _ => by simp [takeE, takeT, plainA]) fun H hS => TC_ow 0 hS rfl qv28 (fun _ _ => by simp [takeE, takeT, plainA]) fun H hS => TC_sc rfl (TC_nil (TV_p rfl (TV_n rfl))))), (nf_t (nf_c (nf_a (nf_c (noFz_o _ (fun _ => rfl) _) (nf_c (noFz_o _ nf_SInt _) (nf_c (noFz_o _ (fun _ => rfl) _) (nf_c (noFz_o _ (fun _ => rfl) _) (nf_c rfl nf_n)))))) (nf_c rfl nf_n))), ?_⟩
    obtain ⟨b22, b23⟩ := b21
    try dsimp only at h
    dsimp only
    refine thaw_tup ?_
    refine TH_a ?_
    refine TH_o hS (fun _ _ => rfl) (fun _ => rfl) fun v30 H qv30 hS => ?_
    refine TH_oN (l := b22.Queues) (d := nd_SInt) (m := nm_SInt) (p := np_SInt) (c := (AV.int .i64)) hS nc_SInt nh_SInt fun v32 d33 H qv32 qd33 hS => ?_
    have hS : Own _ (⟨v32, 1, ouw nm_SInt d33 b22.Queues⟩ :: ⟨v30, 1, b22.Quanta.map (AV.int .i64)⟩ :: ⟨.ptr ip18 wp18 0 0, 5, [.agg [v9, v11, v14, v16, .int .i64 b7.At]]⟩ :: ⟨v9, 1, b7.Quanta.map (AV.int .i64)⟩ :: ⟨v11, 1, ouw nm_SInt d13 b7.Queues⟩ :: ⟨v14, 1, b7.Credit.map (AV.int .i64)⟩ :: ⟨v16, 1, b7.Sent.map (AV.int .i64)⟩ :: ((inn np_SInt (AV.int .i64) 1 d33 b22.Queues) ++ (((inn np_SInt (AV.int .i64) 1 d13 b7.Queues) ++ (F))))) := Own.catI_ (bl := [[⟨v32, 1, ouw nm_SInt d33 b22.Queues⟩], (inn np_SInt (AV.int .i64) 1 d33 b22.Queues), [⟨v30, 1, b22.Quanta.map (AV.int .i64)⟩], [⟨.ptr ip18 wp18 0 0, 5, [.agg [v9, v11, v14, v16, .int .i64 b7.At]]⟩], [⟨v9, 1, b7.Quanta.map (AV.int .i64)⟩], [⟨v11, 1, ouw nm_SInt d13 b7.Queues⟩], [⟨v14, 1, b7.Credit.map (AV.int .i64)⟩], [⟨v16, 1, b7.Sent.map (AV.int .i64)⟩], (inn np_SInt (AV.int .i64) 1 d13 b7.Queues)]) (F := F) hS 9 rfl [0, 2, 3, 4, 5, 6, 7, 1, 8] (by decide)
    refine TH_o hS (fun _ _ => rfl) (fun _ => rfl) fun v35 H qv35 hS => ?_
    refine TH_o hS (fun _ _ => rfl) (fun _ => rfl) fun v37 H qv37 hS => ?_
    refine TH_p (fun _ => rfl) ?_
    refine TH_n ?_
    refine TH_p (fun _ => rfl) ?_
    refine TH_n ?_
    try simp only [List.headD_cons]
    try simp only [W]
    refine w_alloc hS rfl rfl fun ip38 wp38 H hS => ?_
    try simp only [W]
    refine w_stv (a := .agg [v30, v32, v35, v37, .int .i64 b22.At]) (y' := .agg [v30, v32, v35, v37, .int .i64 b22.At]) 0 hS rfl rfl rfl rfl rfl (by simp only [storA, List.all_cons, List.all_nil, qv30.stor, qv32.stor, qv35.stor, qv37.stor]; rfl) rfl rfl fun H hS => ?_
    try simp only [W]
    refine seq_n hK20 ?_
    refine w_seq fun K40 hK40 => ?_
    refine w_reg gC ?_
    try simp only [W, EE, reduceIte, Nat.reduceAdd, Nat.reduceLeDiff, Nat.reduceBEq, hS.var 5 rfl, List.contains_cons, Nat.reduceBEq, Bool.or_self]
    have hS : Own _ (⟨.ptr ip38 wp38 0 0, 5, [.agg [v30, v32, v35, v37, .int .i64 b22.At]]⟩ :: ⟨v37, 1, b22.Sent.map (AV.int .i64)⟩ :: ⟨v35, 1, b22.Credit.map (AV.int .i64)⟩ :: ⟨v32, 1, ouw nm_SInt d33 b22.Queues⟩ :: ⟨v30, 1, b22.Quanta.map (AV.int .i64)⟩ :: ⟨.ptr ip18 wp18 0 0, 5, [.agg [v9, v11, v14, v16, .int .i64 b7.At]]⟩ :: ⟨v9, 1, b7.Quanta.map (AV.int .i64)⟩ :: ⟨v11, 1, ouw nm_SInt d13 b7.Queues⟩ :: ⟨v14, 1, b7.Credit.map (AV.int .i64)⟩ :: ⟨v16, 1, b7.Sent.map (AV.int .i64)⟩ :: ((inn np_SInt (AV.int .i64) 1 d33 b22.Queues) ++ ((inn np_SInt (AV.int .i64) 1 d13 b7.Queues) ++ F))) := hS
    refine w_callO (rsh := [[.sl [.sc], .sl [.sl [.sc]], .sl [.sc], .sl [.sc], .sc], [.sc]]) (ys := [.agg [.fz (b7.Quanta.map (AV.int .i64)), .fz (b7.Queues.map (fzl (AV.int .i64))), .fz (b7.Credit.map (AV.int .i64)), .fz (b7.Sent.map (AV.int .i64)), .int .i64 b7.At], .int .i64 b8]) h rfl (pv_c (sn_agg (sm_c (sn_ow hS 6 rfl qv9 (fun _ => rfl)) (sm_c (sn_owN (enc := (fzl (AV.int .i64))) hS 7 rfl qv11 qd13 (fun _ h => (List.mem_cons_of_mem _ (List.mem_cons_of_mem _ (List.mem_cons_of_mem _ (List.mem_cons_of_mem _ (List.mem_cons_of_mem _ (List.mem_cons_of_mem _ (List.mem_cons_of_mem _ (List.mem_cons_of_mem _ (List.mem_cons_of_mem _ (List.mem_cons_of_mem _ (List.mem_append_right _ (List.mem_append_left _ h))))))))))))) (fun _ _ ha hk => sn_it hk ha (fun _ => rfl))) (sm_c (sn_ow hS 8 rfl qv14 (fun _ => rfl)) (sm_c (sn_ow hS 9 rfl qv16 (fun _ => rfl)) (sm_c rfl (sm_n _))))))) (pv_c rfl pv_n)) fun b41 hb41 h => ⟨.tup [.agg [.own 1 (b41.1.Quanta.map (AV.int .i64)), .own 1 (b41.1.Queues.map nd_SInt), .own 1 (b41.1.Credit.map (AV.int .i64)), .own 1 (b41.1.Sent.map (AV.int .i64)), .int .i64 b41.1.At], .bool b41.2], spec_RunTurns_w hb41 (Own.nil _) fun v44 qv44 v45 qv45 d46 qd46 v47 qv47 v48 qv48 H hS => TV_ok rfl (TV_a (TC_ow 0 hS rfl qv44 (fun _ _ => by simp [takeE, takeT, plainA]) fun H hS => TC_owN (d := nd_SInt) (Own.catI_ (bl := [[⟨v45, 1, ouw nm_SInt d46 b41.1.Queues⟩], [⟨v47, 1, b41.1.Credit.map (AV.int .i64)⟩], [⟨v48, 1, b41.1.Sent.map (AV.int .i64)⟩], (inn np_SInt (AV.int .i64) 1 d46 b41.1.Queues)]) (F := []) hS 4 rfl [0, 3, 1, 2] (by decide)) qv45 qd46 nt_SInt fun H hS => TC_ow 0 hS rfl qv47 (fun _ _ => by simp [takeE, takeT, plainA]) fun H hS => TC_ow 0 hS rfl qv48 (fun _ _ => by simp [takeE, takeT, plainA]) fun H hS => TC_sc rfl (TC_nil (TV_p rfl (TV_n rfl))))), (nf_t (nf_c (nf_a (nf_c (noFz_o _ (fun _ => rfl) _) (nf_c (noFz_o _ nf_SInt _) (nf_c (noFz_o _ (fun _ => rfl) _) (nf_c (noFz_o _ (fun _ => rfl) _) (nf_c rfl nf_n)))))) (nf_c rfl nf_n))), ?_⟩
    obtain ⟨b42, b43⟩ := b41
    try dsimp only at h
    dsimp only
    refine thaw_tup ?_
    refine TH_a ?_
    refine TH_o hS (fun _ _ => rfl) (fun _ => rfl) fun v50 H qv50 hS => ?_
    refine TH_oN (l := b42.Queues) (d := nd_SInt) (m := nm_SInt) (p := np_SInt) (c := (AV.int .i64)) hS nc_SInt nh_SInt fun v52 d53 H qv52 qd53 hS => ?_
    have hS : Own _ (⟨v52, 1, ouw nm_SInt d53 b42.Queues⟩ :: ⟨v50, 1, b42.Quanta.map (AV.int .i64)⟩ :: ⟨.ptr ip38 wp38 0 0, 5, [.agg [v30, v32, v35, v37, .int .i64 b22.At]]⟩ :: ⟨v37, 1, b22.Sent.map (AV.int .i64)⟩ :: ⟨v35, 1, b22.Credit.map (AV.int .i64)⟩ :: ⟨v32, 1, ouw nm_SInt d33 b22.Queues⟩ :: ⟨v30, 1, b22.Quanta.map (AV.int .i64)⟩ :: ⟨.ptr ip18 wp18 0 0, 5, [.agg [v9, v11, v14, v16, .int .i64 b7.At]]⟩ :: ⟨v9, 1, b7.Quanta.map (AV.int .i64)⟩ :: ⟨v11, 1, ouw nm_SInt d13 b7.Queues⟩ :: ⟨v14, 1, b7.Credit.map (AV.int .i64)⟩ :: ⟨v16, 1, b7.Sent.map (AV.int .i64)⟩ :: ((inn np_SInt (AV.int .i64) 1 d53 b42.Queues) ++ (((inn np_SInt (AV.int .i64) 1 d33 b22.Queues) ++ (((inn np_SInt (AV.int .i64) 1 d13 b7.Queues) ++ (F))))))) := Own.catI_ (bl := [[⟨v52, 1, ouw nm_SInt d53 b42.Queues⟩], (inn np_SInt (AV.int .i64) 1 d53 b42.Queues), [⟨v50, 1, b42.Quanta.map (AV.int .i64)⟩], [⟨.ptr ip38 wp38 0 0, 5, [.agg [v30, v32, v35, v37, .int .i64 b22.At]]⟩], [⟨v37, 1, b22.Sent.map (AV.int .i64)⟩], [⟨v35, 1, b22.Credit.map (AV.int .i64)⟩], [⟨v32, 1, ouw nm_SInt d33 b22.Queues⟩], [⟨v30, 1, b22.Quanta.map (AV.int .i64)⟩], [⟨.ptr ip18 wp18 0 0, 5, [.agg [v9, v11, v14, v16, .int .i64 b7.At]]⟩], [⟨v9, 1, b7.Quanta.map (AV.int .i64)⟩], [⟨v11, 1, ouw nm_SInt d13 b7.Queues⟩], [⟨v14, 1, b7.Credit.map (AV.int .i64)⟩], [⟨v16, 1, b7.Sent.map (AV.int .i64)⟩], (inn np_SInt (AV.int .i64) 1 d33 b22.Queues), (inn np_SInt (AV.int .i64) 1 d13 b7.Queues)]) (F := F) hS 15 rfl [0, 2, 3, 4, 5, 6, 7, 8, 9, 10, 11, 12, 1, 13, 14] (by decide)
    refine TH_o hS (fun _ _ => rfl) (fun _ => rfl) fun v55 H qv55 hS => ?_
    refine TH_o hS (fun _ _ => rfl) (fun _ => rfl) fun v57 H qv57 hS => ?_
    refine TH_p (fun _ => rfl) ?_
    refine TH_n ?_
    refine TH_p (fun _ => rfl) ?_
    refine TH_n ?_
    try simp only [List.headD_cons]
    try simp only [W]
    refine w_alloc hS rfl rfl fun ip58 wp58 H hS => ?_
    try simp only [W]
    refine w_stv (a := .agg [v50, v52, v55, v57, .int .i64 b42.At]) (y' := .agg [v50, v52, v55, v57, .int .i64 b42.At]) 0 hS rfl rfl rfl rfl rfl (by simp only [storA, List.all_cons, List.all_nil, qv50.stor, qv52.stor, qv55.stor, qv57.stor]; rfl) rfl rfl fun H hS => ?_
    try simp only [W]
    refine seq_n hK40 ?_
    refine w_seq fun K60 hK60 => ?_
    refine w_seq fun K61 hK61 => ?_
    obtain ⟨y63, h, g64⟩ := Option.bind_eq_some_iff.1 h
    refine w_join gC (fun s H => ∃ x62 : Bool, y63 = (x62) ∧ s = (u :: .fz (a1.map (AV.int .u8)) :: u :: u :: u :: .ptr ip18 wp18 0 0 :: .int .i64 b8 :: .ptr ip38 wp38 0 0 :: .bool b23 :: u :: u :: u :: u :: u :: u :: u :: u :: u :: u :: u :: u :: u :: u :: u :: u :: u :: u :: u :: u :: u :: u :: u :: u :: u :: u :: u :: u :: u :: u :: u :: u :: u :: u :: u :: u :: u :: .bool x62 :: u :: u :: u :: u :: u :: u :: u :: u :: u :: u :: u :: u :: u :: u :: u :: u :: u :: u :: u :: u :: u :: u :: u :: u :: u :: u :: u :: u :: u :: u :: u :: u :: u :: u :: u :: u :: u :: u :: u :: u :: u :: u :: u :: u :: u :: u :: u :: u :: u :: u :: u :: u :: u :: u :: u :: u :: u :: u :: u :: u :: u :: u :: u :: u :: u :: u :: u :: u :: u :: u :: u :: u :: u :: u :: u :: u :: u :: u :: u :: u :: u :: u :: u :: u :: u :: u :: u :: u :: u :: u :: []) ∧ Own H (⟨v9, 1, b7.Quanta.map (AV.int .i64)⟩ :: ⟨v11, 1, ouw nm_SInt d13 b7.Queues⟩ :: ⟨v14, 1, b7.Credit.map (AV.int .i64)⟩ :: ⟨v16, 1, b7.Sent.map (AV.int .i64)⟩ :: ⟨v30, 1, b22.Quanta.map (AV.int .i64)⟩ :: ⟨v32, 1, ouw nm_SInt d33 b22.Queues⟩ :: ⟨v35, 1, b22.Credit.map (AV.int .i64)⟩ :: ⟨v37, 1, b22.Sent.map (AV.int .i64)⟩ :: ⟨.ptr ip18 wp18 0 0, 5, [.agg [v9, v11, v14, v16, .int .i64 b7.At]]⟩ :: ⟨.ptr ip38 wp38 0 0, 5, [.agg [v30, v32, v35, v37, .int .i64 b22.At]]⟩ :: ((inn np_SInt (AV.int .i64) 1 d13 b7.Queues) ++ ((inn np_SInt (AV.int .i64) 1 d33 b22.Queues) ++ F)))) (fun K65 hK65 => ?_) (fun s H hq => ?_)
    · refine w_seq fun K66 hK66 => ?_
      refine w_reg gC ?_
      try simp only [W, EE, Nat.reduceAdd]
      rw [b_bneq _ _ _ _ (h := rfl) rfl, resV_s]
      try simp only [W]
      refine w_grdT h (fun hc h => ?_) (fun hc h => ?_)
      · try simp only [W, hc]
        refine seq_n hK66 ?_
        refine w_killE (s' := (u :: .fz (a1.map (AV.int .u8)) :: u :: u :: u :: .ptr ip18 wp18 0 0 :: .int .i64 b8 :: .ptr ip38 wp38 0 0 :: .bool b23 :: u :: u :: u :: u :: u :: u :: u :: u :: u :: u :: u :: u :: u :: u :: u :: u :: u :: u :: u :: u :: u :: u :: u :: u :: u :: u :: u :: u :: u :: u :: u :: u :: u :: u :: u :: u :: u :: .bool true :: u :: u :: u :: u :: u :: u :: u :: u :: u :: u :: u :: u :: u :: u :: u :: u :: u :: u :: u :: u :: u :: u :: u :: u :: u :: u :: u :: u :: u :: u :: u :: u :: u :: u :: u :: u :: u :: u :: u :: u :: u :: u :: u :: u :: u :: u :: u :: u :: u :: u :: u :: u :: u :: u :: u :: u :: u :: u :: u :: u :: u :: u :: u :: u :: u :: u :: u :: u :: u :: u :: u :: u :: u :: u :: u :: u :: u :: u :: u :: u :: u :: u :: u :: u :: u :: u :: u :: u :: u :: u :: [])) rfl ?_
        have hS : Own _ (⟨v9, 1, b7.Quanta.map (AV.int .i64)⟩ :: ⟨v11, 1, ouw nm_SInt d13 b7.Queues⟩ :: ⟨v14, 1, b7.Credit.map (AV.int .i64)⟩ :: ⟨v16, 1, b7.Sent.map (AV.int .i64)⟩ :: ⟨v30, 1, b22.Quanta.map (AV.int .i64)⟩ :: ⟨v32, 1, ouw nm_SInt d33 b22.Queues⟩ :: ⟨v35, 1, b22.Credit.map (AV.int .i64)⟩ :: ⟨v37, 1, b22.Sent.map (AV.int .i64)⟩ :: ⟨.ptr ip18 wp18 0 0, 5, [.agg [v9, v11, v14, v16, .int .i64 b7.At]]⟩ :: ⟨.ptr ip38 wp38 0 0, 5, [.agg [v30, v32, v35, v37, .int .i64 b22.At]]⟩ :: ((inn np_SInt (AV.int .i64) 1 d13 b7.Queues) ++ (((inn np_SInt (AV.int .i64) 1 d33 b22.Queues) ++ (F))))) := Own.catI_ (bl := [[⟨.ptr ip58 wp58 0 0, 5, [.agg [v50, v52, v55, v57, .int .i64 b42.At]]⟩], [⟨v57, 1, b42.Sent.map (AV.int .i64)⟩], [⟨v55, 1, b42.Credit.map (AV.int .i64)⟩], [⟨v52, 1, ouw nm_SInt d53 b42.Queues⟩], [⟨v50, 1, b42.Quanta.map (AV.int .i64)⟩], [⟨.ptr ip38 wp38 0 0, 5, [.agg [v30, v32, v35, v37, .int .i64 b22.At]]⟩], [⟨v37, 1, b22.Sent.map (AV.int .i64)⟩], [⟨v35, 1, b22.Credit.map (AV.int .i64)⟩], [⟨v32, 1, ouw nm_SInt d33 b22.Queues⟩], [⟨v30, 1, b22.Quanta.map (AV.int .i64)⟩], [⟨.ptr ip18 wp18 0 0, 5, [.agg [v9, v11, v14, v16, .int .i64 b7.At]]⟩], [⟨v9, 1, b7.Quanta.map (AV.int .i64)⟩], [⟨v11, 1, ouw nm_SInt d13 b7.Queues⟩], [⟨v14, 1, b7.Credit.map (AV.int .i64)⟩], [⟨v16, 1, b7.Sent.map (AV.int .i64)⟩], (inn np_SInt (AV.int .i64) 1 d53 b42.Queues), (inn np_SInt (AV.int .i64) 1 d33 b22.Queues), (inn np_SInt (AV.int .i64) 1 d13 b7.Queues)]) (F := F) hS 18 rfl [11, 12, 13, 14, 9, 8, 7, 6, 10, 5, 17, 16] (by decide)
        exact cut_n hK65 ⟨_, (Option.some.inj h).symm, rfl, hS⟩
      · try simp only [W, EE, reduceIte, Nat.reduceAdd, Nat.reduceLeDiff, hS.var 5 rfl, hS.var 0 rfl, hc]
        have hS : Own _ (⟨.ptr ip58 wp58 0 0, 5, [.agg [v50, v52, v55, v57, .int .i64 b42.At]]⟩ :: ⟨v57, 1, b42.Sent.map (AV.int .i64)⟩ :: ⟨v55, 1, b42.Credit.map (AV.int .i64)⟩ :: ⟨v52, 1, ouw nm_SInt d53 b42.Queues⟩ :: ⟨v50, 1, b42.Quanta.map (AV.int .i64)⟩ :: ⟨.ptr ip38 wp38 0 0, 5, [.agg [v30, v32, v35, v37, .int .i64 b22.At]]⟩ :: ⟨v37, 1, b22.Sent.map (AV.int .i64)⟩ :: ⟨v35, 1, b22.Credit.map (AV.int .i64)⟩ :: ⟨v32, 1, ouw nm_SInt d33 b22.Queues⟩ :: ⟨v30, 1, b22.Quanta.map (AV.int .i64)⟩ :: ⟨.ptr ip18 wp18 0 0, 5, [.agg [v9, v11, v14, v16, .int .i64 b7.At]]⟩ :: ⟨v9, 1, b7.Quanta.map (AV.int .i64)⟩ :: ⟨v11, 1, ouw nm_SInt d13 b7.Queues⟩ :: ⟨v14, 1, b7.Credit.map (AV.int .i64)⟩ :: ⟨v16, 1, b7.Sent.map (AV.int .i64)⟩ :: ((inn np_SInt (AV.int .i64) 1 d53 b42.Queues) ++ ((inn np_SInt (AV.int .i64) 1 d33 b22.Queues) ++ ((inn np_SInt (AV.int .i64) 1 d13 b7.Queues) ++ F)))) := hS
        refine w_callS (rsh := [[.sc]]) (ys := [.agg [.fz (b22.Quanta.map (AV.int .i64)), .fz (b22.Queues.map (fzl (AV.int .i64))), .fz (b22.Credit.map (AV.int .i64)), .fz (b22.Sent.map (AV.int .i64)), .int .i64 b22.At], .agg [.fz (b42.Quanta.map (AV.int .i64)), .fz (b42.Queues.map (fzl (AV.int .i64))), .fz (b42.Credit.map (AV.int .i64)), .fz (b42.Sent.map (AV.int .i64)), .int .i64 b42.At]]) h rfl (pv_c (sn_agg (sm_c (sn_ow hS 9 rfl qv30 (fun _ => rfl)) (sm_c (sn_owN (enc := (fzl (AV.int .i64))) hS 8 rfl qv32 qd33 (fun _ h => (List.mem_cons_of_mem _ (List.mem_cons_of_mem _ (List.mem_cons_of_mem _ (List.mem_cons_of_mem _ (List.mem_cons_of_mem _ (List.mem_cons_of_mem _ (List.mem_cons_of_mem _ (List.mem_cons_of_mem _ (List.mem_cons_of_mem _ (List.mem_cons_of_mem _ (List.mem_cons_of_mem _ (List.mem_cons_of_mem _ (List.mem_cons_of_mem _ (List.mem_cons_of_mem _ (List.mem_cons_of_mem _ (List.mem_append_right _ (List.mem_append_left _ h)))))))))))))))))) (fun _ _ ha hk => sn_it hk ha (fun _ => rfl))) (sm_c (sn_ow hS 7 rfl qv35 (fun _ => rfl)) (sm_c (sn_ow hS 6 rfl qv37 (fun _ => rfl)) (sm_c rfl (sm_n _))))))) (pv_c (sn_agg (sm_c (sn_ow hS 4 rfl qv50 (fun _ => rfl)) (sm_c (sn_owN (enc := (fzl (AV.int .i64))) hS 3 rfl qv52 qd53 (fun _ h => (List.mem_cons_of_mem _ (List.mem_cons_of_mem _ (List.mem_cons_of_mem _ (List.mem_cons_of_mem _ (List.mem_cons_of_mem _ (List.mem_cons_of_mem _ (List.mem_cons_of_mem _ (List.mem_cons_of_mem _ (List.mem_cons_of_mem _ (List.mem_cons_of_mem _ (List.mem_cons_of_mem _ (List.mem_cons_of_mem _ (List.mem_cons_of_mem _ (List.mem_cons_of_mem _ (List.mem_cons_of_mem _ (List.mem_append_left _ h))))))))))))))))) (fun _ _ ha hk => sn_it hk ha (fun _ => rfl))) (sm_c (sn_ow hS 2 rfl qv55 (fun _ => rfl)) (sm_c (sn_ow hS 1 rfl qv57 (fun _ => rfl)) (sm_c rfl (sm_n _))))))) pv_n)) fun b67 hb67 h => ⟨.bool b67, laws_sameTurns_w hb67 (Own.nil _) fun H hS => TV_ok rfl (TV_p rfl (TV_n rfl)), ⟨rfl, rfl, fun _ => rfl⟩, ?_⟩
        try simp only [W, reduceIte, Bool.false_eq_true]
        refine seq_n hK66 ?_
        refine w_killE (s' := (u :: .fz (a1.map (AV.int .u8)) :: u :: u :: u :: .ptr ip18 wp18 0 0 :: .int .i64 b8 :: .ptr ip38 wp38 0 0 :: .bool b23 :: u :: u :: u :: u :: u :: u :: u :: u :: u :: u :: u :: u :: u :: u :: u :: u :: u :: u :: u :: u :: u :: u :: u :: u :: u :: u :: u :: u :: u :: u :: u :: u :: u :: u :: u :: u :: u :: .bool (!b67) :: u :: u :: u :: u :: u :: u :: u :: u :: u :: u :: u :: u :: u :: u :: u :: u :: u :: u :: u :: u :: u :: u :: u :: u :: u :: u :: u :: u :: u :: u :: u :: u :: u :: u :: u :: u :: u :: u :: u :: u :: u :: u :: u :: u :: u :: u :: u :: u :: u :: u :: u :: u :: u :: u :: u :: u :: u :: u :: u :: u :: u :: u :: u :: u :: u :: u :: u :: u :: u :: u :: u :: u :: u :: u :: u :: u :: u :: u :: u :: u :: u :: u :: u :: u :: u :: u :: u :: u :: u :: u :: [])) rfl ?_
        have hS : Own _ (⟨v9, 1, b7.Quanta.map (AV.int .i64)⟩ :: ⟨v11, 1, ouw nm_SInt d13 b7.Queues⟩ :: ⟨v14, 1, b7.Credit.map (AV.int .i64)⟩ :: ⟨v16, 1, b7.Sent.map (AV.int .i64)⟩ :: ⟨v30, 1, b22.Quanta.map (AV.int .i64)⟩ :: ⟨v32, 1, ouw nm_SInt d33 b22.Queues⟩ :: ⟨v35, 1, b22.Credit.map (AV.int .i64)⟩ :: ⟨v37, 1, b22.Sent.map (AV.int .i64)⟩ :: ⟨.ptr ip18 wp18 0 0, 5, [.agg [v9, v11, v14, v16, .int .i64 b7.At]]⟩ :: ⟨.ptr ip38 wp38 0 0, 5, [.agg [v30, v32, v35, v37, .int .i64 b22.At]]⟩ :: ((inn np_SInt (AV.int .i64) 1 d13 b7.Queues) ++ (((inn np_SInt (AV.int .i64) 1 d33 b22.Queues) ++ (F))))) := Own.catI_ (bl := [[⟨.ptr ip58 wp58 0 0, 5, [.agg [v50, v52, v55, v57, .int .i64 b42.At]]⟩], [⟨v57, 1, b42.Sent.map (AV.int .i64)⟩], [⟨v55, 1, b42.Credit.map (AV.int .i64)⟩], [⟨v52, 1, ouw nm_SInt d53 b42.Queues⟩], [⟨v50, 1, b42.Quanta.map (AV.int .i64)⟩], [⟨.ptr ip38 wp38 0 0, 5, [.agg [v30, v32, v35, v37, .int .i64 b22.At]]⟩], [⟨v37, 1, b22.Sent.map (AV.int .i64)⟩], [⟨v35, 1, b22.Credit.map (AV.int .i64)⟩], [⟨v32, 1, ouw nm_SInt d33 b22.Queues⟩], [⟨v30, 1, b22.Quanta.map (AV.int .i64)⟩], [⟨.ptr ip18 wp18 0 0, 5, [.agg [v9, v11, v14, v16, .int .i64 b7.At]]⟩], [⟨v9, 1, b7.Quanta.map (AV.int .i64)⟩], [⟨v11, 1, ouw nm_SInt d13 b7.Queues⟩], [⟨v14, 1, b7.Credit.map (AV.int .i64)⟩], [⟨v16, 1, b7.Sent.map (AV.int .i64)⟩], (inn np_SInt (AV.int .i64) 1 d53 b42.Queues), (inn np_SInt (AV.int .i64) 1 d33 b22.Queues), (inn np_SInt (AV.int .i64) 1 d13 b7.Queues)]) (F := F) hS 18 rfl [11, 12, 13, 14, 9, 8, 7, 6, 10, 5, 17, 16] (by decide)
        exact cut_n hK65 ⟨_, (Option.some.inj h).symm, rfl, hS⟩
    · obtain ⟨x62, ey, rfl, hS⟩ := hq; obtain rfl := ey.symm
      replace h := g64
      try dsimp only at h
      refine seq_n hK61 ?_
      refine w_if ?_
      simp only [W]
      refine w_cnd h (fun hc h => ?_) (fun hc h => ?_)
      · refine w_seq fun K68 hK68 => ?_
        refine w_reg gC ?_
        try simp only [W, Nat.reduceAdd]
        refine seq_n hK68 ?_
        refine w_ret ?_
        refine seq_r hK60 ?_
        refine fin_r1 hK0 rfl ?_
        try obtain rfl := Option.some.inj h
        have hS : Own _ (F) := Own.catI_ (bl := [[⟨v9, 1, b7.Quanta.map (AV.int .i64)⟩], [⟨v11, 1, ouw nm_SInt d13 b7.Queues⟩], [⟨v14, 1, b7.Credit.map (AV.int .i64)⟩], [⟨v16, 1, b7.Sent.map (AV.int .i64)⟩], [⟨v30, 1, b22.Quanta.map (AV.int .i64)⟩], [⟨v32, 1, ouw nm_SInt d33 b22.Queues⟩], [⟨v35, 1, b22.Credit.map (AV.int .i64)⟩], [⟨v37, 1, b22.Sent.map (AV.int .i64)⟩], [⟨.ptr ip18 wp18 0 0, 5, [.agg [v9, v11, v14, v16, .int .i64 b7.At]]⟩], [⟨.ptr ip38 wp38 0 0, 5, [.agg [v30, v32, v35, v37, .int .i64 b22.At]]⟩], (inn np_SInt (AV.int .i64) 1 d13 b7.Queues), (inn np_SInt (AV.int .i64) 1 d33 b22.Queues)]) (F := F) hS 12 rfl [] (by decide)
        exact hP _ hS
      · refine w_skip ?_
        refine seq_n hK60 ?_
        refine w_seq fun K69 hK69 => ?_
        refine w_reg gC ?_
        try simp only [W, EE, Nat.reduceAdd, Nat.reduceBEq, hS.var 8 rfl]
        refine w_lenN 1 hS rfl qv11 qd13 rfl ?_
        try simp only [W]
        refine seq_n hK69 ?_
        refine w_seq fun K70 hK70 => ?_
        refine w_seq fun K71 hK71 => ?_
        obtain ⟨y73, h, g74⟩ := Option.bind_eq_some_iff.1 h
        refine w_join gC (fun s H => ∃ x72 : Bool, y73 = (x72) ∧ s = (u :: .fz (a1.map (AV.int .u8)) :: u :: u :: u :: .ptr ip18 wp18 0 0 :: .int .i64 b8 :: .ptr ip38 wp38 0 0 :: u :: u :: u :: .int .i64 (b7.Queues.length : Int) :: u :: u :: u :: u :: u :: u :: u :: u :: u :: u :: u :: u :: u :: u :: u :: u :: u :: u :: u :: u :: u :: u :: u :: u :: u :: u :: u :: u :: u :: u :: u :: u :: u :: u :: u :: u :: u :: u :: u :: u :: u :: u :: u :: u :: u :: u :: u :: u :: .bool x72 :: u :: u :: u :: u :: u :: u :: u :: u :: u :: u :: u :: u :: u :: u :: u :: u :: u :: u :: u :: u :: u :: u :: u :: u :: u :: u :: u :: u :: u :: u :: u :: u :: u :: u :: u :: u :: u :: u :: u :: u :: u :: u :: u :: u :: u :: u :: u :: u :: u :: u :: u :: u :: u :: u :: u :: u :: u :: u :: u :: u :: u :: u :: u :: u :: u :: u :: u :: u :: u :: u :: u :: u :: u :: u :: u :: u :: []) ∧ Own H (⟨v9, 1, b7.Quanta.map (AV.int .i64)⟩ :: ⟨v11, 1, ouw nm_SInt d13 b7.Queues⟩ :: ⟨v14, 1, b7.Credit.map (AV.int .i64)⟩ :: ⟨v16, 1, b7.Sent.map (AV.int .i64)⟩ :: ⟨v30, 1, b22.Quanta.map (AV.int .i64)⟩ :: ⟨v32, 1, ouw nm_SInt d33 b22.Queues⟩ :: ⟨v35, 1, b22.Credit.map (AV.int .i64)⟩ :: ⟨v37, 1, b22.Sent.map (AV.int .i64)⟩ :: ⟨.ptr ip18 wp18 0 0, 5, [.agg [v9, v11, v14, v16, .int .i64 b7.At]]⟩ :: ⟨.ptr ip38 wp38 0 0, 5, [.agg [v30, v32, v35, v37, .int .i64 b22.At]]⟩ :: ((inn np_SInt (AV.int .i64) 1 d13 b7.Queues) ++ ((inn np_SInt (AV.int .i64) 1 d33 b22.Queues) ++ F)))) (fun K75 hK75 => ?_) (fun s H hq => ?_)
        · refine w_seq fun K76 hK76 => ?_
          refine w_reg gC ?_
          try simp only [W, Nat.reduceAdd]
          refine w_grdT h (fun hc h => ?_) (fun hc h => ?_)
          · try simp only [W, EE, reduceIte, hc]
            refine w_grdT h (fun hc h => ?_) (fun hc h => ?_)
            · try simp only [W, EE, hc]
              refine w_num _ h fun x77 hx77 h => ?_
              try simp only [W, EE, reduceIte]
              refine seq_n hK76 ?_
              refine w_killE (s' := (u :: .fz (a1.map (AV.int .u8)) :: u :: u :: u :: .ptr ip18 wp18 0 0 :: .int .i64 b8 :: .ptr ip38 wp38 0 0 :: u :: u :: u :: .int .i64 (b7.Queues.length : Int) :: u :: u :: u :: u :: u :: u :: u :: u :: u :: u :: u :: u :: u :: u :: u :: u :: u :: u :: u :: u :: u :: u :: u :: u :: u :: u :: u :: u :: u :: u :: u :: u :: u :: u :: u :: u :: u :: u :: u :: u :: u :: u :: u :: u :: u :: u :: u :: u :: .bool (x77 == 0) :: u :: u :: u :: u :: u :: u :: u :: u :: u :: u :: u :: u :: u :: u :: u :: u :: u :: u :: u :: u :: u :: u :: u :: u :: u :: u :: u :: u :: u :: u :: u :: u :: u :: u :: u :: u :: u :: u :: u :: u :: u :: u :: u :: u :: u :: u :: u :: u :: u :: u :: u :: u :: u :: u :: u :: u :: u :: u :: u :: u :: u :: u :: u :: u :: u :: u :: u :: u :: u :: u :: u :: u :: u :: u :: u :: u :: [])) rfl ?_
              exact cut_n hK75 ⟨_, (Option.some.inj h).symm, rfl, hS⟩
            · try simp only [W, hc]
              refine seq_n hK76 ?_
              refine w_killE (s' := (u :: .fz (a1.map (AV.int .u8)) :: u :: u :: u :: .ptr ip18 wp18 0 0 :: .int .i64 b8 :: .ptr ip38 wp38 0 0 :: u :: u :: u :: .int .i64 (b7.Queues.length : Int) :: u :: u :: u :: u :: u :: u :: u :: u :: u :: u :: u :: u :: u :: u :: u :: u :: u :: u :: u :: u :: u :: u :: u :: u :: u :: u :: u :: u :: u :: u :: u :: u :: u :: u :: u :: u :: u :: u :: u :: u :: u :: u :: u :: u :: u :: u :: u :: u :: .bool false :: u :: u :: u :: u :: u :: u :: u :: u :: u :: u :: u :: u :: u :: u :: u :: u :: u :: u :: u :: u :: u :: u :: u :: u :: u :: u :: u :: u :: u :: u :: u :: u :: u :: u :: u :: u :: u :: u :: u :: u :: u :: u :: u :: u :: u :: u :: u :: u :: u :: u :: u :: u :: u :: u :: u :: u :: u :: u :: u :: u :: u :: u :: u :: u :: u :: u :: u :: u :: u :: u :: u :: u :: u :: u :: u :: u :: [])) rfl ?_
              exact cut_n hK75 ⟨_, (Option.some.inj h).symm, rfl, hS⟩
          · try simp only [W, hc]
            refine seq_n hK76 ?_
            refine w_killE (s' := (u :: .fz (a1.map (AV.int .u8)) :: u :: u :: u :: .ptr ip18 wp18 0 0 :: .int .i64 b8 :: .ptr ip38 wp38 0 0 :: u :: u :: u :: .int .i64 (b7.Queues.length : Int) :: u :: u :: u :: u :: u :: u :: u :: u :: u :: u :: u :: u :: u :: u :: u :: u :: u :: u :: u :: u :: u :: u :: u :: u :: u :: u :: u :: u :: u :: u :: u :: u :: u :: u :: u :: u :: u :: u :: u :: u :: u :: u :: u :: u :: u :: u :: u :: u :: .bool false :: u :: u :: u :: u :: u :: u :: u :: u :: u :: u :: u :: u :: u :: u :: u :: u :: u :: u :: u :: u :: u :: u :: u :: u :: u :: u :: u :: u :: u :: u :: u :: u :: u :: u :: u :: u :: u :: u :: u :: u :: u :: u :: u :: u :: u :: u :: u :: u :: u :: u :: u :: u :: u :: u :: u :: u :: u :: u :: u :: u :: u :: u :: u :: u :: u :: u :: u :: u :: u :: u :: u :: u :: u :: u :: u :: u :: [])) rfl ?_
            exact cut_n hK75 ⟨_, (Option.some.inj h).symm, rfl, hS⟩
        · obtain ⟨x72, ey, rfl, hS⟩ := hq; obtain rfl := ey.symm
          replace h := g74
          try dsimp only at h
          refine seq_n hK71 ?_
          obtain ⟨y78, h, g79⟩ := Option.bind_eq_some_iff.1 h
          refine w_join gC (fun s H => y78 = LR.next () ∧ s = (u :: .fz (a1.map (AV.int .u8)) :: u :: u :: u :: u :: u :: u :: u :: u :: u :: u :: u :: u :: u :: u :: u :: u :: u :: u :: u :: u :: u :: u :: u :: u :: u :: u :: u :: u :: u :: u :: u :: u :: u :: u :: u :: u :: u :: u :: u :: u :: u :: u :: u :: u :: u :: u :: u :: u :: u :: u :: u :: u :: u :: u :: u :: u :: u :: u :: u :: u :: u :: u :: u :: u :: u :: u :: u :: u :: u :: u :: u :: u :: u :: u :: u :: u :: u :: u :: u :: u :: u :: u :: u :: u :: u :: u :: u :: u :: u :: u :: u :: u :: u :: u :: u :: u :: u :: u :: u :: u :: u :: u :: u :: u :: u :: u :: u :: u :: u :: u :: u :: u :: u :: u :: u :: u :: u :: u :: u :: u :: u :: u :: u :: u :: u :: u :: u :: u :: u :: u :: u :: u :: u :: u :: u :: []) ∧ Own H (F)) (fun K80 hK80 => ?_) (fun s H hq => ?_)
          · refine w_seq fun K81 hK81 => ?_
            refine w_if ?_
            simp only [W]
            refine w_cnd h (fun hc h => ?_) (fun hc h => ?_)
            · refine w_seq fun K82 hK82 => ?_
              refine w_reg gC ?_
              try simp only [W, EE, Nat.reduceAdd]
              refine w_num _ h fun x83 hx83 h => ?_
              try simp only [W]
              refine seq_n hK82 ?_
              refine w_seq fun K84 hK84 => ?_
              refine w_reg gC ?_
              try simp only [W, EE, Nat.reduceAdd, Nat.reduceBEq, hS.var 8 rfl]
              refine w_lenN 1 hS rfl qv11 qd13 rfl ?_
              try simp only [W]
              refine seq_n hK84 ?_
              obtain ⟨y87, hw88, g94⟩ := Option.bind_eq_some_iff.1 h
              refine w_join gC (fun s H => y87 = LR.next () ∧ s = (u :: .fz (a1.map (AV.int .u8)) :: u :: u :: u :: u :: u :: u :: u :: u :: u :: u :: u :: u :: u :: u :: u :: u :: u :: u :: u :: u :: u :: u :: u :: u :: u :: u :: u :: u :: u :: u :: u :: u :: u :: u :: u :: u :: u :: u :: u :: u :: u :: u :: u :: u :: u :: u :: u :: u :: u :: u :: u :: u :: u :: u :: u :: u :: u :: u :: u :: u :: u :: u :: u :: u :: u :: u :: u :: u :: u :: u :: u :: u :: u :: u :: u :: u :: u :: u :: u :: u :: u :: u :: u :: u :: u :: u :: u :: u :: u :: u :: u :: u :: u :: u :: u :: u :: u :: u :: u :: u :: u :: u :: u :: u :: u :: u :: u :: u :: u :: u :: u :: u :: u :: u :: u :: u :: u :: u :: u :: u :: u :: u :: u :: u :: u :: u :: u :: u :: u :: u :: u :: u :: u :: u :: u :: []) ∧ Own H (F)) (fun K89 hK89 => ?_) (fun s H hq => ?_)
              · refine w_blk fun K90 hK90 => ?_
                refine w_loop gC hw88 (fun x s H => ∃ d86 : List AV, isSls d86 (b22.Queues).length ∧ s = (u :: .fz (a1.map (AV.int .u8)) :: u :: u :: u :: .ptr ip18 wp18 0 0 :: u :: .ptr ip38 wp38 0 0 :: u :: u :: u :: u :: .int .i64 x83 :: u :: u :: u :: u :: u :: u :: u :: u :: u :: u :: u :: u :: u :: u :: u :: u :: u :: u :: u :: u :: u :: u :: u :: u :: u :: u :: u :: u :: u :: u :: u :: u :: u :: u :: u :: u :: u :: u :: u :: u :: u :: u :: u :: u :: u :: u :: u :: u :: u :: u :: u :: u :: u :: .int .i64 (b7.Queues.length : Int) :: .int .i64 x :: u :: u :: u :: u :: u :: u :: u :: u :: u :: u :: u :: u :: u :: u :: u :: u :: u :: u :: u :: u :: u :: u :: u :: u :: u :: u :: u :: u :: u :: u :: u :: u :: u :: u :: u :: u :: u :: u :: u :: u :: u :: u :: u :: u :: u :: u :: u :: u :: u :: u :: u :: u :: u :: u :: u :: u :: u :: u :: u :: u :: u :: u :: u :: u :: u :: u :: u :: u :: u :: []) ∧ Own H (⟨v9, 1, b7.Quanta.map (AV.int .i64)⟩ :: ⟨v11, 1, ouw nm_SInt d13 b7.Queues⟩ :: ⟨v14, 1, b7.Credit.map (AV.int .i64)⟩ :: ⟨v16, 1, b7.Sent.map (AV.int .i64)⟩ :: ⟨v30, 1, b22.Quanta.map (AV.int .i64)⟩ :: ⟨v32, 1, ouw nm_SInt d86 b22.Queues⟩ :: ⟨v35, 1, b22.Credit.map (AV.int .i64)⟩ :: ⟨v37, 1, b22.Sent.map (AV.int .i64)⟩ :: ⟨.ptr ip18 wp18 0 0, 5, [.agg [v9, v11, v14, v16, .int .i64 b7.At]]⟩ :: ⟨.ptr ip38 wp38 0 0, 5, [.agg [v30, v32, v35, v37, .int .i64 b22.At]]⟩ :: ((inn np_SInt (AV.int .i64) 1 d13 b7.Queues) ++ ((inn np_SInt (AV.int .i64) 1 d86 b22.Queues) ++ F)))) ⟨_, qd33, rfl, hS⟩ (fun x85 y93 s H h hd92 hi K91 hK91 => ?_)
                skip
                try dsimp only at hi
                obtain ⟨d86, qd86, rfl, hS⟩ := hi
                simp only [laws_FnCredit_l0] at h
                refine w_seq fun K95 hK95 => ?_
                refine w_reg gC ?_
                try simp only [W, EE, Nat.reduceAdd]
                refine seq_n hK95 ?_
                refine w_seq fun K96 hK96 => ?_
                refine w_if ?_
                simp only [W]
                refine w_cnd h (fun hc h => ?_) (fun hc h => ?_)
                · refine w_skip ?_
                  refine seq_n hK96 ?_
                  refine w_seq fun K97 hK97 => ?_
                  obtain ⟨y101, h, g102⟩ := Option.bind_eq_some_iff.1 h
                  refine w_join gC (fun s H => y101 = LR.next () ∧ ∃ d100 : List AV, isSls d100 (b22.Queues).length ∧ s = (u :: .fz (a1.map (AV.int .u8)) :: u :: u :: u :: .ptr ip18 wp18 0 0 :: u :: .ptr ip38 wp38 0 0 :: u :: u :: u :: u :: .int .i64 x83 :: u :: u :: u :: u :: u :: u :: u :: u :: u :: u :: u :: u :: u :: u :: u :: u :: u :: u :: u :: u :: u :: u :: u :: u :: u :: u :: u :: u :: u :: u :: u :: u :: u :: u :: u :: u :: u :: u :: u :: u :: u :: u :: u :: u :: u :: u :: u :: u :: u :: u :: u :: u :: u :: .int .i64 (b7.Queues.length : Int) :: .int .i64 x85 :: u :: u :: u :: u :: u :: u :: u :: u :: u :: u :: u :: u :: u :: u :: u :: u :: u :: u :: u :: u :: u :: u :: u :: u :: u :: u :: u :: u :: u :: u :: u :: u :: u :: u :: u :: u :: u :: u :: u :: u :: u :: u :: u :: u :: u :: u :: u :: u :: u :: u :: u :: u :: u :: u :: u :: u :: u :: u :: u :: u :: u :: u :: u :: u :: u :: u :: u :: u :: u :: []) ∧ Own H (⟨v9, 1, b7.Quanta.map (AV.int .i64)⟩ :: ⟨v11, 1, ouw nm_SInt d13 b7.Queues⟩ :: ⟨v14, 1, b7.Credit.map (AV.int .i64)⟩ :: ⟨v16, 1, b7.Sent.map (AV.int .i64)⟩ :: ⟨v30, 1, b22.Quanta.map (AV.int .i64)⟩ :: ⟨v32, 1, ouw nm_SInt d100 b22.Queues⟩ :: ⟨v35, 1, b22.Credit.map (AV.int .i64)⟩ :: ⟨v37, 1, b22.Sent.map (AV.int .i64)⟩ :: ⟨.ptr ip18 wp18 0 0, 5, [.agg [v9, v11, v14, v16, .int .i64 b7.At]]⟩ :: ⟨.ptr ip38 wp38 0 0, 5, [.agg [v30, v32, v35, v37, .int .i64 b22.At]]⟩ :: ((inn np_SInt (AV.int .i64) 1 d13 b7.Queues) ++ ((inn np_SInt (AV.int .i64) 1 d100 b22.Queues) ++ F)))) (fun K103 hK103 => ?_) (fun s H hq => ?_)
                  · refine w_blk fun K98 hK98 => ?_
                    refine w_seq fun K104 hK104 => ?_
                    refine w_reg gC ?_
                    try simp only [W, Nat.reduceAdd]
                    refine seq_n hK104 ?_
                    refine w_seq fun K105 hK105 => ?_
                    refine w_seq fun K106 hK106 => ?_
                    refine w_reg gC ?_
                    try simp only [W, EE, Nat.reduceAdd, Nat.reduceBEq, hS.var 9 rfl]
                    obtain ⟨b108, hb108, h⟩ := Option.bind_eq_some_iff.1 h
                    have hS : Own _ (⟨v32, 1, ouw nm_SInt d86 b22.Queues⟩ :: ((inn np_SInt (AV.int .i64) 1 d86 b22.Queues) ++ (⟨v9, 1, b7.Quanta.map (AV.int .i64)⟩ :: ⟨v11, 1, ouw nm_SInt d13 b7.Queues⟩ :: ⟨v14, 1, b7.Credit.map (AV.int .i64)⟩ :: ⟨v16, 1, b7.Sent.map (AV.int .i64)⟩ :: ⟨v30, 1, b22.Quanta.map (AV.int .i64)⟩ :: ⟨v35, 1, b22.Credit.map (AV.int .i64)⟩ :: ⟨v37, 1, b22.Sent.map (AV.int .i64)⟩ :: ⟨.ptr ip18 wp18 0 0, 5, [.agg [v9, v11, v14, v16, .int .i64 b7.At]]⟩ :: ⟨.ptr ip38 wp38 0 0, 5, [.agg [v30, v32, v35, v37, .int .i64 b22.At]]⟩ :: ((inn np_SInt (AV.int .i64) 1 d13 b7.Queues) ++ (F))))) := Own.catI_ (bl := [[⟨v9, 1, b7.Quanta.map (AV.int .i64)⟩], [⟨v11, 1, ouw nm_SInt d13 b7.Queues⟩], [⟨v14, 1, b7.Credit.map (AV.int .i64)⟩], [⟨v16, 1, b7.Sent.map (AV.int .i64)⟩], [⟨v30, 1, b22.Quanta.map (AV.int .i64)⟩], [⟨v32, 1, ouw nm_SInt d86 b22.Queues⟩], [⟨v35, 1, b22.Credit.map (AV.int .i64)⟩], [⟨v37, 1, b22.Sent.map (AV.int .i64)⟩], [⟨.ptr ip18 wp18 0 0, 5, [.agg [v9, v11, v14, v16, .int .i64 b7.At]]⟩], [⟨.ptr ip38 wp38 0 0, 5, [.agg [v30, v32, v35, v37, .int .i64 b22.At]]⟩], (inn np_SInt (AV.int .i64) 1 d13 b7.Queues), (inn np_SInt (AV.int .i64) 1 d86 b22.Queues)]) (F := F) hS 12 rfl [5, 11, 0, 1, 2, 3, 4, 6, 7, 8, 9, 10] (by decide)
                    obtain ⟨v109, qv109, hS⟩ := openN (p := np_SInt) (c := (AV.int .i64)) (m := nm_SInt) (b := b108) hS qd86 hb108
                    have hS : Own _ (⟨v109, 1, b108.map (AV.int .i64)⟩ :: ⟨v9, 1, b7.Quanta.map (AV.int .i64)⟩ :: ⟨v11, 1, ouw nm_SInt d13 b7.Queues⟩ :: ⟨v14, 1, b7.Credit.map (AV.int .i64)⟩ :: ⟨v16, 1, b7.Sent.map (AV.int .i64)⟩ :: ⟨v30, 1, b22.Quanta.map (AV.int .i64)⟩ :: ⟨v32, 1, (ouw nm_SInt d86 b22.Queues).set x85.toNat (v109)⟩ :: ⟨v35, 1, b22.Credit.map (AV.int .i64)⟩ :: ⟨v37, 1, b22.Sent.map (AV.int .i64)⟩ :: ⟨.ptr ip18 wp18 0 0, 5, [.agg [v9, v11, v14, v16, .int .i64 b7.At]]⟩ :: ⟨.ptr ip38 wp38 0 0, 5, [.agg [v30, v32, v35, v37, .int .i64 b22.At]]⟩ :: ((inn np_SInt (AV.int .i64) 1 d13 b7.Queues) ++ (((inx np_SInt (AV.int .i64) 1 d86 b22.Queues x85.toNat) ++ (F))))) := Own.catI_ (bl := [[⟨v109, 1, b108.map (AV.int .i64)⟩], [⟨v32, 1, (ouw nm_SInt d86 b22.Queues).set x85.toNat (v109)⟩], (inx np_SInt (AV.int .i64) 1 d86 b22.Queues x85.toNat), [⟨v9, 1, b7.Quanta.map (AV.int .i64)⟩], [⟨v11, 1, ouw nm_SInt d13 b7.Queues⟩], [⟨v14, 1, b7.Credit.map (AV.int .i64)⟩], [⟨v16, 1, b7.Sent.map (AV.int .i64)⟩], [⟨v30, 1, b22.Quanta.map (AV.int .i64)⟩], [⟨v35, 1, b22.Credit.map (AV.int .i64)⟩], [⟨v37, 1, b22.Sent.map (AV.int .i64)⟩], [⟨.ptr ip18 wp18 0 0, 5, [.agg [v9, v11, v14, v16, .int .i64 b7.At]]⟩], [⟨.ptr ip38 wp38 0 0, 5, [.agg [v30, v32, v35, v37, .int .i64 b22.At]]⟩], (inn np_SInt (AV.int .i64) 1 d13 b7.Queues)]) (F := F) hS 13 rfl [0, 3, 4, 5, 6, 7, 1, 8, 9, 10, 11, 12, 2] (by decide)
                    refine w_owE (x := v109) 6 hS rfl rfl rfl rfl rfl (idx_some hb108).1 (holeG qd86 hb108) qv32 (fun in107 wn107 on107 en107 hkn107 => ?_)
                    obtain ⟨kn107, hbn107, hen107⟩ := hkn107
                    try simp only [W, EE, hbn107, hen107, qv109.rd]
                    refine w_len 0 hS rfl qv109 rfl ?_
                    try simp only [W, EE]
                    refine seq_n hK106 ?_
                    refine w_if ?_
                    simp only [W]
                    refine w_cnd h (fun hc h => ?_) (fun hc h => ?_)
                    · refine w_exit ?_
                      refine seq_x hK105 ?_
                      refine blk_e hK98 ?_
                      have hS : Own _ (⟨v109, 1, b108.map (AV.int .i64)⟩ :: ⟨v32, 1, (ouw nm_SInt d86 b22.Queues).set x85.toNat (v109)⟩ :: ((inx np_SInt (AV.int .i64) 1 d86 b22.Queues x85.toNat) ++ (⟨v9, 1, b7.Quanta.map (AV.int .i64)⟩ :: ⟨v11, 1, ouw nm_SInt d13 b7.Queues⟩ :: ⟨v14, 1, b7.Credit.map (AV.int .i64)⟩ :: ⟨v16, 1, b7.Sent.map (AV.int .i64)⟩ :: ⟨v30, 1, b22.Quanta.map (AV.int .i64)⟩ :: ⟨v35, 1, b22.Credit.map (AV.int .i64)⟩ :: ⟨v37, 1, b22.Sent.map (AV.int .i64)⟩ :: ⟨.ptr ip18 wp18 0 0, 5, [.agg [v9, v11, v14, v16, .int .i64 b7.At]]⟩ :: ⟨.ptr ip38 wp38 0 0, 5, [.agg [v30, v32, v35, v37, .int .i64 b22.At]]⟩ :: ((inn np_SInt (AV.int .i64) 1 d13 b7.Queues) ++ (F))))) := Own.catI_ (bl := [[⟨v109, 1, b108.map (AV.int .i64)⟩], [⟨v9, 1, b7.Quanta.map (AV.int .i64)⟩], [⟨v11, 1, ouw nm_SInt d13 b7.Queues⟩], [⟨v14, 1, b7.Credit.map (AV.int .i64)⟩], [⟨v16, 1, b7.Sent.map (AV.int .i64)⟩], [⟨v30, 1, b22.Quanta.map (AV.int .i64)⟩], [⟨v32, 1, (ouw nm_SInt d86 b22.Queues).set x85.toNat (v109)⟩], [⟨v35, 1, b22.Credit.map (AV.int .i64)⟩], [⟨v37, 1, b22.Sent.map (AV.int .i64)⟩], [⟨.ptr ip18 wp18 0 0, 5, [.agg [v9, v11, v14, v16, .int .i64 b7.At]]⟩], [⟨.ptr ip38 wp38 0 0, 5, [.agg [v30, v32, v35, v37, .int .i64 b22.At]]⟩], (inn np_SInt (AV.int .i64) 1 d13 b7.Queues), (inx np_SInt (AV.int .i64) 1 d86 b22.Queues x85.toNat)]) (F := F) hS 13 rfl [0, 6, 12, 1, 2, 3, 4, 5, 7, 8, 9, 10, 11] (by decide)
                      obtain ⟨d111, qd111, hS⟩ := closeN0 (p := np_SInt) (c := (AV.int .i64)) (m := nm_SInt) (b := b108) hS qd86 qv109 hb108
                      have hS : Own _ (⟨v9, 1, b7.Quanta.map (AV.int .i64)⟩ :: ⟨v11, 1, ouw nm_SInt d13 b7.Queues⟩ :: ⟨v14, 1, b7.Credit.map (AV.int .i64)⟩ :: ⟨v16, 1, b7.Sent.map (AV.int .i64)⟩ :: ⟨v30, 1, b22.Quanta.map (AV.int .i64)⟩ :: ⟨v32, 1, ouw nm_SInt d111 b22.Queues⟩ :: ⟨v35, 1, b22.Credit.map (AV.int .i64)⟩ :: ⟨v37, 1, b22.Sent.map (AV.int .i64)⟩ :: ⟨.ptr ip18 wp18 0 0, 5, [.agg [v9, v11, v14, v16, .int .i64 b7.At]]⟩ :: ⟨.ptr ip38 wp38 0 0, 5, [.agg [v30, v32, v35, v37, .int .i64 b22.At]]⟩ :: ((inn np_SInt (AV.int .i64) 1 d13 b7.Queues) ++ (((inn np_SInt (AV.int .i64) 1 d111 b22.Queues) ++ (F))))) := Own.catI_ (bl := [[⟨v32, 1, ouw nm_SInt d111 b22.Queues⟩], (inn np_SInt (AV.int .i64) 1 d111 b22.Queues), [⟨v9, 1, b7.Quanta.map (AV.int .i64)⟩], [⟨v11, 1, ouw nm_SInt d13 b7.Queues⟩], [⟨v14, 1, b7.Credit.map (AV.int .i64)⟩], [⟨v16, 1, b7.Sent.map (AV.int .i64)⟩], [⟨v30, 1, b22.Quanta.map (AV.int .i64)⟩], [⟨v35, 1, b22.Credit.map (AV.int .i64)⟩], [⟨v37, 1, b22.Sent.map (AV.int .i64)⟩], [⟨.ptr ip18 wp18 0 0, 5, [.agg [v9, v11, v14, v16, .int .i64 b7.At]]⟩], [⟨.ptr ip38 wp38 0 0, 5, [.agg [v30, v32, v35, v37, .int .i64 b22.At]]⟩], (inn np_SInt (AV.int .i64) 1 d13 b7.Queues)]) (F := F) hS 12 rfl [2, 3, 4, 5, 6, 0, 7, 8, 9, 10, 11, 1] (by decide)
                      exact cut_n hK103 ⟨(Option.some.inj h).symm, _, qd111, rfl, hS⟩
                    · refine w_skip ?_
                      refine seq_n hK105 ?_
                      refine w_seq fun K112 hK112 => ?_
                      refine w_draw0 gC (by kernel_rfl) ?_
                      try simp only [W, EE, Nat.reduceAdd, Nat.reduceBEq, hS.var 10 rfl]
                      refine w_ow 8 hS rfl rfl rfl rfl rfl h (fun b113 in114 wn114 on114 hb113 h en114 => ?_) qv37.ne
                      obtain ⟨kn114, hbn114, hen114⟩ := hS.elem 8 rfl en114 hb113
                      try simp only [W, EE, Nat.reduceAdd, Nat.reduceBEq, hS.var 9 rfl, hbn114, hen114]
                      refine w_ow 4 hS rfl rfl rfl rfl rfl h (fun b115 in116 wn116 on116 hb115 h en116 => ?_) qv16.ne
                      obtain ⟨kn116, hbn116, hen116⟩ := hS.elem 4 rfl en116 hb115
                      try simp only [W, EE, hbn116, hen116]
                      refine seq_n hK112 ?_
                      refine w_seq fun K117 hK117 => ?_
                      obtain ⟨y123, h, g124⟩ := Option.bind_eq_some_iff.1 h
                      refine w_join gC (fun s H => ∃ x121 : Bool, y123 = (x121) ∧ ∃ d122 : List AV, isSls d122 (b22.Queues).length ∧ s = (u :: .fz (a1.map (AV.int .u8)) :: u :: u :: u :: .ptr ip18 wp18 0 0 :: u :: .ptr ip38 wp38 0 0 :: u :: u :: u :: u :: .int .i64 x83 :: u :: u :: u :: u :: u :: u :: u :: u :: u :: u :: u :: u :: u :: u :: u :: u :: u :: u :: u :: u :: u :: u :: u :: u :: u :: u :: u :: u :: u :: u :: u :: u :: u :: u :: u :: u :: u :: u :: u :: u :: u :: u :: u :: u :: u :: u :: u :: u :: u :: u :: u :: u :: u :: .int .i64 (b7.Queues.length : Int) :: .int .i64 x85 :: u :: u :: u :: u :: u :: u :: u :: u :: u :: u :: u :: u :: u :: u :: u :: u :: u :: u :: u :: u :: u :: u :: u :: u :: u :: u :: u :: u :: u :: u :: u :: u :: u :: u :: u :: u :: u :: u :: u :: u :: u :: u :: u :: u :: u :: u :: u :: u :: u :: u :: u :: u :: u :: u :: u :: u :: u :: u :: u :: u :: u :: u :: u :: u :: .bool x121 :: u :: u :: u :: u :: []) ∧ Own H (⟨v9, 1, b7.Quanta.map (AV.int .i64)⟩ :: ⟨v11, 1, ouw nm_SInt d13 b7.Queues⟩ :: ⟨v14, 1, b7.Credit.map (AV.int .i64)⟩ :: ⟨v16, 1, b7.Sent.map (AV.int .i64)⟩ :: ⟨v30, 1, b22.Quanta.map (AV.int .i64)⟩ :: ⟨v32, 1, ouw nm_SInt d122 b22.Queues⟩ :: ⟨v35, 1, b22.Credit.map (AV.int .i64)⟩ :: ⟨v37, 1, b22.Sent.map (AV.int .i64)⟩ :: ⟨.ptr ip18 wp18 0 0, 5, [.agg [v9, v11, v14, v16, .int .i64 b7.At]]⟩ :: ⟨.ptr ip38 wp38 0 0, 5, [.agg [v30, v32, v35, v37, .int .i64 b22.At]]⟩ :: ((inn np_SInt (AV.int .i64) 1 d13 b7.Queues) ++ ((inn np_SInt (AV.int .i64) 1 d122 b22.Queues) ++ F)))) (fun K125 hK125 => ?_) (fun s H hq => ?_)
                      · refine w_seq fun K126 hK126 => ?_
                        refine w_draw0 gC (by kernel_rfl) ?_
                        try simp only [W, EE, Nat.reduceAdd, Nat.reduceBEq, hS.var 9 rfl]
                        refine w_ow 1 hS rfl rfl rfl rfl rfl h (fun b127 in128 wn128 on128 hb127 h en128 => ?_) qv9.ne
                        obtain ⟨kn128, hbn128, hen128⟩ := hS.elem 1 rfl en128 hb127
                        try simp only [W, EE, Nat.reduceAdd, Nat.reduceBEq, hS.var 9 rfl, hbn128, hen128]
                        refine w_ow 3 hS rfl rfl rfl rfl rfl h (fun b129 in130 wn130 on130 hb129 h en130 => ?_) qv14.ne
                        obtain ⟨kn130, hbn130, hen130⟩ := hS.elem 3 rfl en130 hb129
                        try simp only [W, EE, Nat.reduceAdd, Nat.reduceBEq, hS.var 10 rfl, hbn130, hen130]
                        refine w_ow 7 hS rfl rfl rfl rfl rfl h (fun b131 in132 wn132 on132 hb131 h en132 => ?_) qv35.ne
                        obtain ⟨kn132, hbn132, hen132⟩ := hS.elem 7 rfl en132 hb131
                        try simp only [W, EE, hbn132, hen132]
                        refine w_grdT h (fun hc h => ?_) (fun hc h => ?_)
                        · try simp only [W, hc]
                          refine seq_n hK126 ?_
                          refine w_killE (s' := (u :: .fz (a1.map (AV.int .u8)) :: u :: u :: u :: .ptr ip18 wp18 0 0 :: u :: .ptr ip38 wp38 0 0 :: u :: u :: u :: u :: .int .i64 x83 :: u :: u :: u :: u :: u :: u :: u :: u :: u :: u :: u :: u :: u :: u :: u :: u :: u :: u :: u :: u :: u :: u :: u :: u :: u :: u :: u :: u :: u :: u :: u :: u :: u :: u :: u :: u :: u :: u :: u :: u :: u :: u :: u :: u :: u :: u :: u :: u :: u :: u :: u :: u :: u :: .int .i64 (b7.Queues.length : Int) :: .int .i64 x85 :: u :: u :: u :: u :: u :: u :: u :: u :: u :: u :: u :: u :: u :: u :: u :: u :: u :: u :: u :: u :: u :: u :: u :: u :: u :: u :: u :: u :: u :: u :: u :: u :: u :: u :: u :: u :: u :: u :: u :: u :: u :: u :: u :: u :: u :: u :: u :: u :: u :: u :: u :: u :: u :: u :: u :: u :: u :: u :: u :: u :: u :: u :: u :: u :: .bool true :: u :: u :: u :: u :: [])) rfl ?_
                          have hS : Own _ (⟨v109, 1, b108.map (AV.int .i64)⟩ :: ⟨v32, 1, (ouw nm_SInt d86 b22.Queues).set x85.toNat (v109)⟩ :: ((inx np_SInt (AV.int .i64) 1 d86 b22.Queues x85.toNat) ++ (⟨v9, 1, b7.Quanta.map (AV.int .i64)⟩ :: ⟨v11, 1, ouw nm_SInt d13 b7.Queues⟩ :: ⟨v14, 1, b7.Credit.map (AV.int .i64)⟩ :: ⟨v16, 1, b7.Sent.map (AV.int .i64)⟩ :: ⟨v30, 1, b22.Quanta.map (AV.int .i64)⟩ :: ⟨v35, 1, b22.Credit.map (AV.int .i64)⟩ :: ⟨v37, 1, b22.Sent.map (AV.int .i64)⟩ :: ⟨.ptr ip18 wp18 0 0, 5, [.agg [v9, v11, v14, v16, .int .i64 b7.At]]⟩ :: ⟨.ptr ip38 wp38 0 0, 5, [.agg [v30, v32, v35, v37, .int .i64 b22.At]]⟩ :: ((inn np_SInt (AV.int .i64) 1 d13 b7.Queues) ++ (F))))) := Own.catI_ (bl := [[⟨v109, 1, b108.map (AV.int .i64)⟩], [⟨v9, 1, b7.Quanta.map (AV.int .i64)⟩], [⟨v11, 1, ouw nm_SInt d13 b7.Queues⟩], [⟨v14, 1, b7.Credit.map (AV.int .i64)⟩], [⟨v16, 1, b7.Sent.map (AV.int .i64)⟩], [⟨v30, 1, b22.Quanta.map (AV.int .i64)⟩], [⟨v32, 1, (ouw nm_SInt d86 b22.Queues).set x85.toNat (v109)⟩], [⟨v35, 1, b22.Credit.map (AV.int .i64)⟩], [⟨v37, 1, b22.Sent.map (AV.int .i64)⟩], [⟨.ptr ip18 wp18 0 0, 5, [.agg [v9, v11, v14, v16, .int .i64 b7.At]]⟩], [⟨.ptr ip38 wp38 0 0, 5, [.agg [v30, v32, v35, v37, .int .i64 b22.At]]⟩], (inn np_SInt (AV.int .i64) 1 d13 b7.Queues), (inx np_SInt (AV.int .i64) 1 d86 b22.Queues x85.toNat)]) (F := F) hS 13 rfl [0, 6, 12, 1, 2, 3, 4, 5, 7, 8, 9, 10, 11] (by decide)
                          obtain ⟨d133, qd133, hS⟩ := closeN0 (p := np_SInt) (c := (AV.int .i64)) (m := nm_SInt) (b := b108) hS qd86 qv109 hb108
                          have hS : Own _ (⟨v9, 1, b7.Quanta.map (AV.int .i64)⟩ :: ⟨v11, 1, ouw nm_SInt d13 b7.Queues⟩ :: ⟨v14, 1, b7.Credit.map (AV.int .i64)⟩ :: ⟨v16, 1, b7.Sent.map (AV.int .i64)⟩ :: ⟨v30, 1, b22.Quanta.map (AV.int .i64)⟩ :: ⟨v32, 1, ouw nm_SInt d133 b22.Queues⟩ :: ⟨v35, 1, b22.Credit.map (AV.int .i64)⟩ :: ⟨v37, 1, b22.Sent.map (AV.int .i64)⟩ :: ⟨.ptr ip18 wp18 0 0, 5, [.agg [v9, v11, v14, v16, .int .i64 b7.At]]⟩ :: ⟨.ptr ip38 wp38 0 0, 5, [.agg [v30, v32, v35, v37, .int .i64 b22.At]]⟩ :: ((inn np_SInt (AV.int .i64) 1 d13 b7.Queues) ++ (((inn np_SInt (AV.int .i64) 1 d133 b22.Queues) ++ (F))))) := Own.catI_ (bl := [[⟨v32, 1, ouw nm_SInt d133 b22.Queues⟩], (inn np_SInt (AV.int .i64) 1 d133 b22.Queues), [⟨v9, 1, b7.Quanta.map (AV.int .i64)⟩], [⟨v11, 1, ouw nm_SInt d13 b7.Queues⟩], [⟨v14, 1, b7.Credit.map (AV.int .i64)⟩], [⟨v16, 1, b7.Sent.map (AV.int .i64)⟩], [⟨v30, 1, b22.Quanta.map (AV.int .i64)⟩], [⟨v35, 1, b22.Credit.map (AV.int .i64)⟩], [⟨v37, 1, b22.Sent.map (AV.int .i64)⟩], [⟨.ptr ip18 wp18 0 0, 5, [.agg [v9, v11, v14, v16, .int .i64 b7.At]]⟩], [⟨.ptr ip38 wp38 0 0, 5, [.agg [v30, v32, v35, v37, .int .i64 b22.At]]⟩], (inn np_SInt (AV.int .i64) 1 d13 b7.Queues)]) (F := F) hS 12 rfl [2, 3, 4, 5, 6, 0, 7, 8, 9, 10, 11, 1] (by decide)
                          exact cut_n hK125 ⟨_, (Option.some.inj h).symm, _, qd133, rfl, hS⟩
                        · try simp only [W, EE, Nat.reduceAdd, Nat.reduceBEq, hS.var 9 rfl, hc]
                          refine w_ow 1 hS rfl rfl rfl rfl rfl h (fun b134 in135 wn135 on135 hb134 h en135 => ?_) qv9.ne
                          obtain ⟨kn135, hbn135, hen135⟩ := hS.elem 1 rfl en135 hb134
                          try simp only [W, EE, reduceIte, Bool.false_eq_true, hbn135, hen135]
                          refine w_grdT h (fun hc h => ?_) (fun hc h => ?_)
                          · try simp only [W, hc]
                            refine seq_n hK126 ?_
                            refine w_killE (s' := (u :: .fz (a1.map (AV.int .u8)) :: u :: u :: u :: .ptr ip18 wp18 0 0 :: u :: .ptr ip38 wp38 0 0 :: u :: u :: u :: u :: .int .i64 x83 :: u :: u :: u :: u :: u :: u :: u :: u :: u :: u :: u :: u :: u :: u :: u :: u :: u :: u :: u :: u :: u :: u :: u :: u :: u :: u :: u :: u :: u :: u :: u :: u :: u :: u :: u :: u :: u :: u :: u :: u :: u :: u :: u :: u :: u :: u :: u :: u :: u :: u :: u :: u :: u :: .int .i64 (b7.Queues.length : Int) :: .int .i64 x85 :: u :: u :: u :: u :: u :: u :: u :: u :: u :: u :: u :: u :: u :: u :: u :: u :: u :: u :: u :: u :: u :: u :: u :: u :: u :: u :: u :: u :: u :: u :: u :: u :: u :: u :: u :: u :: u :: u :: u :: u :: u :: u :: u :: u :: u :: u :: u :: u :: u :: u :: u :: u :: u :: u :: u :: u :: u :: u :: u :: u :: u :: u :: u :: u :: .bool true :: u :: u :: u :: u :: [])) rfl ?_
                            have hS : Own _ (⟨v109, 1, b108.map (AV.int .i64)⟩ :: ⟨v32, 1, (ouw nm_SInt d86 b22.Queues).set x85.toNat (v109)⟩ :: ((inx np_SInt (AV.int .i64) 1 d86 b22.Queues x85.toNat) ++ (⟨v9, 1, b7.Quanta.map (AV.int .i64)⟩ :: ⟨v11, 1, ouw nm_SInt d13 b7.Queues⟩ :: ⟨v14, 1, b7.Credit.map (AV.int .i64)⟩ :: ⟨v16, 1, b7.Sent.map (AV.int .i64)⟩ :: ⟨v30, 1, b22.Quanta.map (AV.int .i64)⟩ :: ⟨v35, 1, b22.Credit.map (AV.int .i64)⟩ :: ⟨v37, 1, b22.Sent.map (AV.int .i64)⟩ :: ⟨.ptr ip18 wp18 0 0, 5, [.agg [v9, v11, v14, v16, .int .i64 b7.At]]⟩ :: ⟨.ptr ip38 wp38 0 0, 5, [.agg [v30, v32, v35, v37, .int .i64 b22.At]]⟩ :: ((inn np_SInt (AV.int .i64) 1 d13 b7.Queues) ++ (F))))) := Own.catI_ (bl := [[⟨v109, 1, b108.map (AV.int .i64)⟩], [⟨v9, 1, b7.Quanta.map (AV.int .i64)⟩], [⟨v11, 1, ouw nm_SInt d13 b7.Queues⟩], [⟨v14, 1, b7.Credit.map (AV.int .i64)⟩], [⟨v16, 1, b7.Sent.map (AV.int .i64)⟩], [⟨v30, 1, b22.Quanta.map (AV.int .i64)⟩], [⟨v32, 1, (ouw nm_SInt d86 b22.Queues).set x85.toNat (v109)⟩], [⟨v35, 1, b22.Credit.map (AV.int .i64)⟩], [⟨v37, 1, b22.Sent.map (AV.int .i64)⟩], [⟨.ptr ip18 wp18 0 0, 5, [.agg [v9, v11, v14, v16, .int .i64 b7.At]]⟩], [⟨.ptr ip38 wp38 0 0, 5, [.agg [v30, v32, v35, v37, .int .i64 b22.At]]⟩], (inn np_SInt (AV.int .i64) 1 d13 b7.Queues), (inx np_SInt (AV.int .i64) 1 d86 b22.Queues x85.toNat)]) (F := F) hS 13 rfl [0, 6, 12, 1, 2, 3, 4, 5, 7, 8, 9, 10, 11] (by decide)
                            obtain ⟨d136, qd136, hS⟩ := closeN0 (p := np_SInt) (c := (AV.int .i64)) (m := nm_SInt) (b := b108) hS qd86 qv109 hb108
                            have hS : Own _ (⟨v9, 1, b7.Quanta.map (AV.int .i64)⟩ :: ⟨v11, 1, ouw nm_SInt d13 b7.Queues⟩ :: ⟨v14, 1, b7.Credit.map (AV.int .i64)⟩ :: ⟨v16, 1, b7.Sent.map (AV.int .i64)⟩ :: ⟨v30, 1, b22.Quanta.map (AV.int .i64)⟩ :: ⟨v32, 1, ouw nm_SInt d136 b22.Queues⟩ :: ⟨v35, 1, b22.Credit.map (AV.int .i64)⟩ :: ⟨v37, 1, b22.Sent.map (AV.int .i64)⟩ :: ⟨.ptr ip18 wp18 0 0, 5, [.agg [v9, v11, v14, v16, .int .i64 b7.At]]⟩ :: ⟨.ptr ip38 wp38 0 0, 5, [.agg [v30, v32, v35, v37, .int .i64 b22.At]]⟩ :: ((inn np_SInt (AV.int .i64) 1 d13 b7.Queues) ++ (((inn np_SInt (AV.int .i64) 1 d136 b22.Queues) ++ (F))))) := Own.catI_ (bl := [[⟨v32, 1, ouw nm_SInt d136 b22.Queues⟩], (inn np_SInt (AV.int .i64) 1 d136 b22.Queues), [⟨v9, 1, b7.Quanta.map (AV.int .i64)⟩], [⟨v11, 1, ouw nm_SInt d13 b7.Queues⟩], [⟨v14, 1, b7.Credit.map (AV.int .i64)⟩], [⟨v16, 1, b7.Sent.map (AV.int .i64)⟩], [⟨v30, 1, b22.Quanta.map (AV.int .i64)⟩], [⟨v35, 1, b22.Credit.map (AV.int .i64)⟩], [⟨v37, 1, b22.Sent.map (AV.int .i64)⟩], [⟨.ptr ip18 wp18 0 0, 5, [.agg [v9, v11, v14, v16, .int .i64 b7.At]]⟩], [⟨.ptr ip38 wp38 0 0, 5, [.agg [v30, v32, v35, v37, .int .i64 b22.At]]⟩], (inn np_SInt (AV.int .i64) 1 d13 b7.Queues)]) (F := F) hS 12 rfl [2, 3, 4, 5, 6, 0, 7, 8, 9, 10, 11, 1] (by decide)
                            exact cut_n hK125 ⟨_, (Option.some.inj h).symm, _, qd136, rfl, hS⟩
                          · try simp only [W, EE, Nat.reduceAdd, Nat.reduceBEq, hS.var 9 rfl, hc]
                            refine w_ow 1 hS rfl rfl rfl rfl rfl h (fun b137 in138 wn138 on138 hb137 h en138 => ?_) qv9.ne
                            obtain ⟨kn138, hbn138, hen138⟩ := hS.elem 1 rfl en138 hb137
                            try simp only [W, EE, reduceIte, Bool.false_eq_true, hbn138, hen138]
                            refine seq_n hK126 ?_
                            refine w_killE (s' := (u :: .fz (a1.map (AV.int .u8)) :: u :: u :: u :: .ptr ip18 wp18 0 0 :: u :: .ptr ip38 wp38 0 0 :: u :: u :: u :: u :: .int .i64 x83 :: u :: u :: u :: u :: u :: u :: u :: u :: u :: u :: u :: u :: u :: u :: u :: u :: u :: u :: u :: u :: u :: u :: u :: u :: u :: u :: u :: u :: u :: u :: u :: u :: u :: u :: u :: u :: u :: u :: u :: u :: u :: u :: u :: u :: u :: u :: u :: u :: u :: u :: u :: u :: u :: .int .i64 (b7.Queues.length : Int) :: .int .i64 x85 :: u :: u :: u :: u :: u :: u :: u :: u :: u :: u :: u :: u :: u :: u :: u :: u :: u :: u :: u :: u :: u :: u :: u :: u :: u :: u :: u :: u :: u :: u :: u :: u :: u :: u :: u :: u :: u :: u :: u :: u :: u :: u :: u :: u :: u :: u :: u :: u :: u :: u :: u :: u :: u :: u :: u :: u :: u :: u :: u :: u :: u :: u :: u :: u :: .bool (decide ((IntKind.i64.wrap ((IntKind.i64.wrap (x83 * b137)) + 20)) ≤ (IntKind.i64.wrap (b113 - b115)))) :: u :: u :: u :: u :: [])) rfl ?_
                            have hS : Own _ (⟨v109, 1, b108.map (AV.int .i64)⟩ :: ⟨v32, 1, (ouw nm_SInt d86 b22.Queues).set x85.toNat (v109)⟩ :: ((inx np_SInt (AV.int .i64) 1 d86 b22.Queues x85.toNat) ++ (⟨v9, 1, b7.Quanta.map (AV.int .i64)⟩ :: ⟨v11, 1, ouw nm_SInt d13 b7.Queues⟩ :: ⟨v14, 1, b7.Credit.map (AV.int .i64)⟩ :: ⟨v16, 1, b7.Sent.map (AV.int .i64)⟩ :: ⟨v30, 1, b22.Quanta.map (AV.int .i64)⟩ :: ⟨v35, 1, b22.Credit.map (AV.int .i64)⟩ :: ⟨v37, 1, b22.Sent.map (AV.int .i64)⟩ :: ⟨.ptr ip18 wp18 0 0, 5, [.agg [v9, v11, v14, v16, .int .i64 b7.At]]⟩ :: ⟨.ptr ip38 wp38 0 0, 5, [.agg [v30, v32, v35, v37, .int .i64 b22.At]]⟩ :: ((inn np_SInt (AV.int .i64) 1 d13 b7.Queues) ++ (F))))) := Own.catI_ (bl := [[⟨v109, 1, b108.map (AV.int .i64)⟩], [⟨v9, 1, b7.Quanta.map (AV.int .i64)⟩], [⟨v11, 1, ouw nm_SInt d13 b7.Queues⟩], [⟨v14, 1, b7.Credit.map (AV.int .i64)⟩], [⟨v16, 1, b7.Sent.map (AV.int .i64)⟩], [⟨v30, 1, b22.Quanta.map (AV.int .i64)⟩], [⟨v32, 1, (ouw nm_SInt d86 b22.Queues).set x85.toNat (v109)⟩], [⟨v35, 1, b22.Credit.map (AV.int .i64)⟩], [⟨v37, 1, b22.Sent.map (AV.int .i64)⟩], [⟨.ptr ip18 wp18 0 0, 5, [.agg [v9, v11, v14, v16, .int .i64 b7.At]]⟩], [⟨.ptr ip38 wp38 0 0, 5, [.agg [v30, v32, v35, v37, .int .i64 b22.At]]⟩], (inn np_SInt (AV.int .i64) 1 d13 b7.Queues), (inx np_SInt (AV.int .i64) 1 d86 b22.Queues x85.toNat)]) (F := F) hS 13 rfl [0, 6, 12, 1, 2, 3, 4, 5, 7, 8, 9, 10, 11] (by decide)
                            obtain ⟨d139, qd139, hS⟩ := closeN0 (p := np_SInt) (c := (AV.int .i64)) (m := nm_SInt) (b := b108) hS qd86 qv109 hb108
                            have hS : Own _ (⟨v9, 1, b7.Quanta.map (AV.int .i64)⟩ :: ⟨v11, 1, ouw nm_SInt d13 b7.Queues⟩ :: ⟨v14, 1, b7.Credit.map (AV.int .i64)⟩ :: ⟨v16, 1, b7.Sent.map (AV.int .i64)⟩ :: ⟨v30, 1, b22.Quanta.map (AV.int .i64)⟩ :: ⟨v32, 1, ouw nm_SInt d139 b22.Queues⟩ :: ⟨v35, 1, b22.Credit.map (AV.int .i64)⟩ :: ⟨v37, 1, b22.Sent.map (AV.int .i64)⟩ :: ⟨.ptr ip18 wp18 0 0, 5, [.agg [v9, v11, v14, v16, .int .i64 b7.At]]⟩ :: ⟨.ptr ip38 wp38 0 0, 5, [.agg [v30, v32, v35, v37, .int .i64 b22.At]]⟩ :: ((inn np_SInt (AV.int .i64) 1 d13 b7.Queues) ++ (((inn np_SInt (AV.int .i64) 1 d139 b22.Queues) ++ (F))))) := Own.catI_ (bl := [[⟨v32, 1, ouw nm_SInt d139 b22.Queues⟩], (inn np_SInt (AV.int .i64) 1 d139 b22.Queues), [⟨v9, 1, b7.Quanta.map (AV.int .i64)⟩], [⟨v11, 1, ouw nm_SInt d13 b7.Queues⟩], [⟨v14, 1, b7.Credit.map (AV.int .i64)⟩], [⟨v16, 1, b7.Sent.map (AV.int .i64)⟩], [⟨v30, 1, b22.Quanta.map (AV.int .i64)⟩], [⟨v35, 1, b22.Credit.map (AV.int .i64)⟩], [⟨v37, 1, b22.Sent.map (AV.int .i64)⟩], [⟨.ptr ip18 wp18 0 0, 5, [.agg [v9, v11, v14, v16, .int .i64 b7.At]]⟩], [⟨.ptr ip38 wp38 0 0, 5, [.agg [v30, v32, v35, v37, .int .i64 b22.At]]⟩], (inn np_SInt (AV.int .i64) 1 d13 b7.Queues)]) (F := F) hS 12 rfl [2, 3, 4, 5, 6, 0, 7, 8, 9, 10, 11, 1] (by decide)
                            exact cut_n hK125 ⟨_, (Option.some.inj h).symm, _, qd139, rfl, hS⟩
                      · obtain ⟨x121, ey, d122, qd122, rfl, hS⟩ := hq; obtain rfl := ey.symm
                        replace h := g124
                        try dsimp only at h
                        refine seq_n hK117 ?_
                        refine w_if ?_
                        simp only [W]
                        refine w_cnd h (fun hc h => ?_) (fun hc h => ?_)
                        · refine w_seq fun K140 hK140 => ?_
                          refine w_reg gC ?_
                          try simp only [W, Nat.reduceAdd]
                          refine seq_n hK140 ?_
                          refine w_ret ?_
                          refine blk_r hK98 ?_
                          try obtain rfl := Option.some.inj h
                          obtain rfl := Option.some.inj g102
                          have h : (some (LR.done (LR.done (LR.done false))) : Option (LR (Int) (LR Unit (LR Unit (Bool))))) = some (LR.done (LR.done (LR.done false))) := rfl
                          refine cut_r hK103 ?_
                          refine seq_r hK97 ?_
                          try obtain rfl := Option.some.inj h
                          obtain rfl := hd92 _ rfl
                          have h : (some (LR.done (LR.done false)) : Option (LR Unit (LR Unit (Bool)))) = some (LR.done (LR.done false)) := rfl
                          refine lp_r hK91 ?_
                          refine blk_r hK90 ?_
                          try obtain rfl := Option.some.inj h
                          obtain rfl := Option.some.inj g94
                          have h : (some (LR.done false) : Option (LR Unit (Bool))) = some (LR.done false) := rfl
                          refine cut_r hK89 ?_
                          refine seq_r hK81 ?_
                          try obtain rfl := Option.some.inj h
                          obtain rfl := Option.some.inj g79
                          have h : (some false : Option (Bool)) = some false := rfl
                          refine cut_r hK80 ?_
                          refine seq_r hK70 ?_
                          refine fin_r1 hK0 rfl ?_
                          try obtain rfl := Option.some.inj h
                          have hS : Own _ (F) := Own.catI_ (bl := [[⟨v9, 1, b7.Quanta.map (AV.int .i64)⟩], [⟨v11, 1, ouw nm_SInt d13 b7.Queues⟩], [⟨v14, 1, b7.Credit.map (AV.int .i64)⟩], [⟨v16, 1, b7.Sent.map (AV.int .i64)⟩], [⟨v30, 1, b22.Quanta.map (AV.int .i64)⟩], [⟨v32, 1, ouw nm_SInt d122 b22.Queues⟩], [⟨v35, 1, b22.Credit.map (AV.int .i64)⟩], [⟨v37, 1, b22.Sent.map (AV.int .i64)⟩], [⟨.ptr ip18 wp18 0 0, 5, [.agg [v9, v11, v14, v16, .int .i64 b7.At]]⟩], [⟨.ptr ip38 wp38 0 0, 5, [.agg [v30, v32, v35, v37, .int .i64 b22.At]]⟩], (inn np_SInt (AV.int .i64) 1 d13 b7.Queues), (inn np_SInt (AV.int .i64) 1 d122 b22.Queues)]) (F := F) hS 12 rfl [] (by decide)
                          exact hP _ hS
                        · refine w_skip ?_
                          refine blk_n hK98 ?_
                          exact cut_n hK103 ⟨(Option.some.inj h).symm, _, qd122, rfl, hS⟩
                  · obtain ⟨rfl, d100, qd100, rfl, hS⟩ := hq
                    replace h := g102
                    try dsimp only at h
                    refine seq_n hK97 ?_
                    refine w_reg gC ?_
                    try simp only [W, EE, Nat.reduceAdd]
                    exact lp_n hK91 h ⟨_, qd100, rfl, hS⟩
                · refine w_exit ?_
                  refine seq_x hK96 ?_
                  try obtain rfl := Option.some.inj h
                  obtain rfl := hd92 _ rfl
                  have h : (some (LR.next ()) : Option (LR Unit (LR Unit (Bool)))) = some (LR.next ()) := rfl
                  refine lp_x hK91 ?_
                  refine blk_e hK90 ?_
                  have hS : Own _ (F) := Own.catI_ (bl := [[⟨v9, 1, b7.Quanta.map (AV.int .i64)⟩], [⟨v11, 1, ouw nm_SInt d13 b7.Queues⟩], [⟨v14, 1, b7.Credit.map (AV.int .i64)⟩], [⟨v16, 1, b7.Sent.map (AV.int .i64)⟩], [⟨v30, 1, b22.Quanta.map (AV.int .i64)⟩], [⟨v32, 1, ouw nm_SInt d86 b22.Queues⟩], [⟨v35, 1, b22.Credit.map (AV.int .i64)⟩], [⟨v37, 1, b22.Sent.map (AV.int .i64)⟩], [⟨.ptr ip18 wp18 0 0, 5, [.agg [v9, v11, v14, v16, .int .i64 b7.At]]⟩], [⟨.ptr ip38 wp38 0 0, 5, [.agg [v30, v32, v35, v37, .int .i64 b22.At]]⟩], (inn np_SInt (AV.int .i64) 1 d13 b7.Queues), (inn np_SInt (AV.int .i64) 1 d86 b22.Queues)]) (F := F) hS 12 rfl [] (by decide)
                  exact cut_n hK89 ⟨(Option.some.inj h).symm, rfl, hS⟩
              · obtain ⟨rfl, rfl, hS⟩ := hq
                replace h := g94
                try dsimp only at h
                refine seq_n hK81 ?_
                refine w_killE (s' := (u :: .fz (a1.map (AV.int .u8)) :: u :: u :: u :: u :: u :: u :: u :: u :: u :: u :: u :: u :: u :: u :: u :: u :: u :: u :: u :: u :: u :: u :: u :: u :: u :: u :: u :: u :: u :: u :: u :: u :: u :: u :: u :: u :: u :: u :: u :: u :: u :: u :: u :: u :: u :: u :: u :: u :: u :: u :: u :: u :: u :: u :: u :: u :: u :: u :: u :: u :: u :: u :: u :: u :: u :: u :: u :: u :: u :: u :: u :: u :: u :: u :: u :: u :: u :: u :: u :: u :: u :: u :: u :: u :: u :: u :: u :: u :: u :: u :: u :: u :: u :: u :: u :: u :: u :: u :: u :: u :: u :: u :: u :: u :: u :: u :: u :: u :: u :: u :: u :: u :: u :: u :: u :: u :: u :: u :: u :: u :: u :: u :: u :: u :: u :: u :: u :: u :: u :: u :: u :: u :: u :: u :: u :: [])) rfl ?_
                exact cut_n hK80 ⟨(Option.some.inj h).symm, rfl, hS⟩
            · refine w_skip ?_
              refine seq_n hK81 ?_
              refine w_killE (s' := (u :: .fz (a1.map (AV.int .u8)) :: u :: u :: u :: u :: u :: u :: u :: u :: u :: u :: u :: u :: u :: u :: u :: u :: u :: u :: u :: u :: u :: u :: u :: u :: u :: u :: u :: u :: u :: u :: u :: u :: u :: u :: u :: u :: u :: u :: u :: u :: u :: u :: u :: u :: u :: u :: u :: u :: u :: u :: u :: u :: u :: u :: u :: u :: u :: u :: u :: u :: u :: u :: u :: u :: u :: u :: u :: u :: u :: u :: u :: u :: u :: u :: u :: u :: u :: u :: u :: u :: u :: u :: u :: u :: u :: u :: u :: u :: u :: u :: u :: u :: u :: u :: u :: u :: u :: u :: u :: u :: u :: u :: u :: u :: u :: u :: u :: u :: u :: u :: u :: u :: u :: u :: u :: u :: u :: u :: u :: u :: u :: u :: u :: u :: u :: u :: u :: u :: u :: u :: u :: u :: u :: u :: u :: [])) rfl ?_
              have hS : Own _ (F) := Own.catI_ (bl := [[⟨v9, 1, b7.Quanta.map (AV.int .i64)⟩], [⟨v11, 1, ouw nm_SInt d13 b7.Queues⟩], [⟨v14, 1, b7.Credit.map (AV.int .i64)⟩], [⟨v16, 1, b7.Sent.map (AV.int .i64)⟩], [⟨v30, 1, b22.Quanta.map (AV.int .i64)⟩], [⟨v32, 1, ouw nm_SInt d33 b22.Queues⟩], [⟨v35, 1, b22.Credit.map (AV.int .i64)⟩], [⟨v37, 1, b22.Sent.map (AV.int .i64)⟩], [⟨.ptr ip18 wp18 0 0, 5, [.agg [v9, v11, v14, v16, .int .i64 b7.At]]⟩], [⟨.ptr ip38 wp38 0 0, 5, [.agg [v30, v32, v35, v37, .int .i64 b22.At]]⟩], (inn np_SInt (AV.int .i64) 1 d13 b7.Queues), (inn np_SInt (AV.int .i64) 1 d33 b22.Queues)]) (F := F) hS 12 rfl [] (by decide)
              exact cut_n hK80 ⟨(Option.some.inj h).symm, rfl, hS⟩
          · obtain ⟨rfl, rfl, hS⟩ := hq
            replace h := g79
            try dsimp only at h
            refine seq_n hK70 ?_
            refine w_seq fun K151 hK151 => ?_
            refine w_reg gC ?_
            try simp only [W, EE, Nat.reduceAdd]
            refine seq_n hK151 ?_
            refine w_ret ?_
            refine fin_r1 hK0 rfl ?_
            try obtain rfl := Option.some.inj h
            exact hP _ hS
end Go.VxW
