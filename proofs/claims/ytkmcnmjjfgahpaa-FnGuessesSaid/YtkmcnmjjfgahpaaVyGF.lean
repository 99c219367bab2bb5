import Derived.Test.YtkmcnmjjfgahpaaVaD
open Go Go.VS
set_option maxRecDepth 8000
namespace Go.VxW
structure Guess where
  Mean : Int
  Swing : Int
  Many : Int
  Back : Int
structure Seen where
  Took : Int
  Twice : Bool
  Lost : Bool
structure L1Cur where
  Code : List Int
  At : Int
  Seed : Int
noncomputable def spec_l1Cur_next (a0 : L1Cur) : Option (Int × L1Cur) :=
  ((bif (decide (a0.At < (a0.Code.length : Int))) then (idx a0.Code a0.At).bind fun b10 => some ((IntKind.i64.wrap b10)) else some (0))).bind fun x5 => (bif (decide ((IntKind.i64.wrap (a0.At + 1)) ≤ (a0.Code.length : Int))) then some (x5, (⟨a0.Code, (IntKind.i64.wrap (a0.At + 1)), (IntKind.u64.wrap ((IntKind.u64.wrap ((IntKind.u64.wrap (a0.Seed * 6364136223846793005)) + (IntKind.u64.wrap x5))) + 1442695040888963407))⟩ : L1Cur)) else some ((IntKind.i64.wrap (andL .u64 (shrL .u64 (IntKind.u64.wrap ((IntKind.u64.wrap ((IntKind.u64.wrap (a0.Seed * 6364136223846793005)) + (IntKind.u64.wrap x5))) + 1442695040888963407)) 40) 255)), (⟨a0.Code, (IntKind.i64.wrap (a0.At + 1)), (IntKind.u64.wrap ((IntKind.u64.wrap ((IntKind.u64.wrap (a0.Seed * 6364136223846793005)) + (IntKind.u64.wrap x5))) + 1442695040888963407))⟩ : L1Cur)))
noncomputable def spec_l1Cur_pick (a0 : L1Cur) (a1 : Int) : Option (Int × L1Cur) :=
  (bif (decide (a1 ≤ 1)) then some (0, a0) else (spec_l1Cur_next a0).bind fun (b7, b8) => ((bif (decide (200 < a1)) then (spec_l1Cur_next b8).bind fun (b20, b21) => some ((IntKind.i64.wrap ((IntKind.i64.wrap (b7 * 256)) + b20)), b21.Code, b21.At, b21.Seed) else some (b7, b8.Code, b8.At, b8.Seed))).bind fun (x11, x12, x13, x14) => (md x11 a1).bind fun x23 => some (x23, (⟨x12, x13, x14⟩ : L1Cur)))
noncomputable def spec_l1Cur_one (a0 : L1Cur) (a1 : Int) : Option (Bool × L1Cur) :=
  (spec_l1Cur_pick a0 a1).bind fun (b4, b5) => some ((b4 == 0), b5)
noncomputable def spec_l1Cur_among (a0 : L1Cur) (a1 : List Int) : Option (Int × L1Cur) :=
  (spec_l1Cur_pick a0 (a1.length : Int)).bind fun (b4, b5) => (idx a1 b4).bind fun b6 => some (b6, b5)
noncomputable def spec_l1Cur_seen (a0 : L1Cur) : Option (Seen × L1Cur) :=
  (spec_l1Cur_pick a0 8).bind fun (b7, b8) => (bif (b7 == 0) then (spec_l1Cur_pick b8 9).bind fun (b13, b14) => (spec_l1Cur_one b14 30).bind fun (b16, b17) => some ((⟨(IntKind.i64.wrap (Int.tdiv b13 8)), b16, true⟩ : Seen), b17) else (bif (b7 == 1) then (spec_l1Cur_pick b8 100).bind fun (b21, b22) => some ((⟨b21, true, false⟩ : Seen), b22) else (spec_l1Cur_pick b8 9).bind fun (b25, b26) => (spec_l1Cur_among b26 ([0, 5, 10, 11, 12, 20, 100, 1000, (IntKind.i64.wrap (1000 + (IntKind.i64.wrap (Int.tdiv b25 8))))] : List Int)).bind fun (b30, b31) => some ((⟨b30, false, false⟩ : Seen), b31)))
noncomputable def spec_l1Cur_allSeen_l0 (x : ((List Seen) × Int × (List Int) × Int × Int)) : Option (LR ((List Seen) × Int × (List Int) × Int × Int) ((List Seen) × (List Int) × Int × Int)) :=
  match x with
  | (x24, x27, x28, x29, x30) => (bif (decide (0 < x27)) then (spec_l1Cur_seen (⟨x28, x29, x30⟩ : L1Cur)).bind fun (b49, b50) => (app 16 x24 ([b49] : List Seen)).bind fun x53 => some (LR.next (x53, (IntKind.i64.wrap (x27 - 1)), b50.Code, b50.At, b50.Seed)) else some (LR.done (x24, x28, x29, x30)))
noncomputable def spec_l1Cur_allSeen (a0 : L1Cur) : Option (List Seen × L1Cur) :=
  (spec_l1Cur_pick a0 14).bind fun (b5, b6) => (spec_l1Cur_one b6 20).bind fun (b10, b11) => ((bif b10 then (spec_l1Cur_pick b11 3).bind fun (b21, b22) => some ((IntKind.i64.wrap (59 + b21)), b22.Code, b22.At, b22.Seed) else some (b5, b11.Code, b11.At, b11.Seed))).bind fun (x12, x13, x14, x15) => (whl (spec_l1Cur_allSeen_l0) ([], x12, x13, x14, x15)).bind fun (x31, x33, x34, x35) => some (x31, (⟨x33, x34, x35⟩ : L1Cur))
noncomputable def spec_l1In (a0 : Int) (a1 : Int) (a2 : Int) : Option (Bool) :=
  (bif (decide (a1 ≤ a0)) then some (decide (a0 ≤ a2)) else some false)
noncomputable def spec_NewGuess (a0 : Int) : Option (Guess × Bool) :=
  (spec_l1In a0 1 1000).bind fun b6 => (bif (!b6) then some ((⟨0, 0, 0, 0⟩ : Guess), false) else some ((⟨(IntKind.i64.wrap (8 * a0)), (IntKind.i64.wrap (2 * a0)), 1, 0⟩ : Guess), true))
noncomputable def spec_l9Seen (a0 : Seen) : Option (Bool) :=
  (spec_l1In a0.Took 0 1000).bind fun b5 => (bif b5 then (bif (!a0.Lost) then some true else (bif (a0.Took == 0) then some (!a0.Twice) else some false)) else some false)
noncomputable def spec_l1Least (a0 : Int) (a1 : Int) : Option (Int) :=
  (bif (decide (a0 < a1)) then some a0 else some a1)
noncomputable def spec_l9See (a0 : Guess) (a1 : Seen) : Option (Guess) :=
  (bif a1.Lost then (spec_l1Least 6 (IntKind.i64.wrap (a0.Back + 1))).bind fun b11 => some (⟨a0.Mean, a0.Swing, a0.Many, b11⟩ : Guess) else (spec_l1Least 1000 (IntKind.i64.wrap (a0.Many + 1))).bind fun b14 => (bif a1.Twice then some (⟨a0.Mean, a0.Swing, b14, a0.Back⟩ : Guess) else ((bif (decide ((IntKind.i64.wrap (a1.Took - (IntKind.i64.wrap (Int.tdiv a0.Mean 8)))) < 0)) then some ((IntKind.i64.wrap (0 - (IntKind.i64.wrap (a1.Took - (IntKind.i64.wrap (Int.tdiv a0.Mean 8))))))) else some ((IntKind.i64.wrap (a1.Took - (IntKind.i64.wrap (Int.tdiv a0.Mean 8))))))).bind fun x23 => some (⟨(IntKind.i64.wrap (a0.Mean + (IntKind.i64.wrap (a1.Took - (IntKind.i64.wrap (Int.tdiv a0.Mean 8)))))), (IntKind.i64.wrap (a0.Swing + (IntKind.i64.wrap (x23 - (IntKind.i64.wrap (Int.tdiv a0.Swing 4)))))), b14, 0⟩ : Guess)))
noncomputable def spec_SeeAll_l0 (a1 : List Seen) (x : (Int × Int × Int × Int × Int)) : Option (LR (Int × Int × Int × Int × Int) (LR (Int × Int × Int × Int) (Guess × Bool))) :=
  match x with
  | (x20, x21, x22, x23, x24) => (bif (decide (x20 < (a1.length : Int))) then (idx a1 x20).bind fun b42 => (spec_l9Seen b42).bind fun b47 => (bif (!b47) then some (LR.done (LR.done ((⟨0, 0, 0, 0⟩ : Guess), false))) else (spec_l9See (⟨x21, x22, x23, x24⟩ : Guess) b42).bind fun b53 => some (LR.next ((IntKind.i64.wrap (x20 + 1)), b53.Mean, b53.Swing, b53.Many, b53.Back))) else some (LR.done (LR.next (x21, x22, x23, x24))))
noncomputable def spec_SeeAll (a0 : Int) (a1 : List Seen) : Option (Guess × Bool) :=
  (spec_NewGuess a0).bind fun (b6, b7) => ((bif (!b7) then some (true) else some ((decide (60 < (a1.length : Int)))))).bind fun x12 => (bif x12 then some ((⟨0, 0, 0, 0⟩ : Guess), false) else (whl (spec_SeeAll_l0 a1) (0, b6.Mean, b6.Swing, b6.Many, b6.Back)).bind fun y => match y with | LR.next (x25, x26, x27, x28) => some ((⟨x25, x26, x27, x28⟩ : Guess), true) | LR.done z => some z)
noncomputable def spec_l1Cur_guess (a0 : L1Cur) : Option (Guess × L1Cur) :=
  (spec_l1Cur_pick a0 100).bind fun (b6, b7) => (spec_l1Cur_allSeen b7).bind fun (b9, b10) => (spec_SeeAll (IntKind.i64.wrap (1 + b6)) b9).bind fun (b14, b15) => ((bif (!b15) then some (true, b10.Code, b10.At, b10.Seed) else (spec_l1Cur_one b10 12).bind fun (b29, b30) => some (b29, b30.Code, b30.At, b30.Seed))).bind fun (x20, x21, x22, x23) => ((bif x20 then (spec_l1Cur_among (⟨x21, x22, x23⟩ : L1Cur) ([0, 80, 8000, 8001] : List Int)).bind fun (b45, b46) => (spec_l1Cur_among b46 ([0, 7, 4000] : List Int)).bind fun (b50, b51) => (spec_l1Cur_among b51 ([0, 1000] : List Int)).bind fun (b55, b56) => (spec_l1Cur_pick b56 8).bind fun (b58, b59) => some (b59.Code, b59.At, b59.Seed, b45, b50, b55, b58) else some (x21, x22, x23, b14.Mean, b14.Swing, b14.Many, b14.Back))).bind fun (x31, x32, x33, x34, x35, x36, x37) => some ((⟨x34, x35, x36, x37⟩ : Guess), (⟨x31, x32, x33⟩ : L1Cur))
noncomputable def spec_DrawSeeGuess (a0 : List Int) : Option (Guess × Seen) :=
  (spec_l1Cur_guess (⟨a0, 0, 0⟩ : L1Cur)).bind fun (b11, b12) => (spec_l1Cur_seen b12).bind fun (b14, _b15) => some (b11, b14)
noncomputable def impl_in (a0 : Int) (a1 : Int) (a2 : Int) : Option (Bool) :=
  (bif (decide (a1 ≤ a0)) then some (decide (a0 ≤ a2)) else some false)
noncomputable def impl_GoodGuess (a0 : Guess) : Option (Bool) :=
  (impl_in a0.Mean 0 8000).bind fun b5 => (bif b5 then (impl_in a0.Swing 0 4000).bind fun b6 => (bif b6 then (impl_in a0.Many 0 1000).bind fun b7 => (bif b7 then (impl_in a0.Back 0 6).bind fun b8 => some b8 else some false) else some false) else some false)
noncomputable def impl_isSeen (a0 : Seen) : Option (Bool) :=
  (impl_in a0.Took 0 1000).bind fun b5 => (bif b5 then (bif a0.Lost then (bif a0.Twice then some false else some (!(decide (0 < a0.Took)))) else some true) else some false)
noncomputable def impl_Guess_see (a0 : Guess) (a1 : Seen) : Option (Guess) :=
  (bif a1.Lost then some (⟨a0.Mean, a0.Swing, a0.Many, (if 6 < (IntKind.i64.wrap (a0.Back + 1)) then 6 else (IntKind.i64.wrap (a0.Back + 1)))⟩ : Guess) else (bif a1.Twice then some (⟨a0.Mean, a0.Swing, (if 1000 < (IntKind.i64.wrap (a0.Many + 1)) then 1000 else (IntKind.i64.wrap (a0.Many + 1))), a0.Back⟩ : Guess) else some (⟨(IntKind.i64.wrap (a0.Mean + (IntKind.i64.wrap (a1.Took - (IntKind.i64.wrap (Int.tdiv a0.Mean 8)))))), (IntKind.i64.wrap (a0.Swing + (IntKind.i64.wrap ((if (IntKind.i64.wrap (0 - (IntKind.i64.wrap (a1.Took - (IntKind.i64.wrap (Int.tdiv a0.Mean 8)))))) > (IntKind.i64.wrap (a1.Took - (IntKind.i64.wrap (Int.tdiv a0.Mean 8)))) then (IntKind.i64.wrap (0 - (IntKind.i64.wrap (a1.Took - (IntKind.i64.wrap (Int.tdiv a0.Mean 8)))))) else (IntKind.i64.wrap (a1.Took - (IntKind.i64.wrap (Int.tdiv a0.Mean 8))))) - (IntKind.i64.wrap (Int.tdiv a0.Swing 4)))))), (if 1000 < (IntKind.i64.wrap (a0.Many + 1)) then 1000 else (IntKind.i64.wrap (a0.Many + 1))), 0⟩ : Guess)))
noncomputable def impl_SeeGuess (a0 : Guess) (a1 : Seen) : Option (Guess × Bool) :=
  ((impl_GoodGuess a0).bind fun b15 => (bif (!b15) then some (true) else (impl_isSeen a1).bind fun b16 => some ((!b16)))).bind fun x10 => (bif x10 then some ((⟨0, 0, 0, 0⟩ : Guess), false) else (impl_Guess_see a0 a1).bind fun b19 => some (b19, true))
noncomputable def spec_GoodGuess (a0 : Guess) : Option (Bool) :=
  (spec_l1In a0.Mean 0 8000).bind fun b5 => (bif b5 then (spec_l1In a0.Swing 0 4000).bind fun b6 => (bif b6 then (spec_l1In a0.Many 0 1000).bind fun b7 => (bif b7 then (spec_l1In a0.Back 0 6).bind fun b8 => some b8 else some false) else some false) else some false)
noncomputable def spec_SeeGuess (a0 : Guess) (a1 : Seen) : Option (Guess × Bool) :=
  ((spec_GoodGuess a0).bind fun b15 => (bif (!b15) then some (true) else (spec_l9Seen a1).bind fun b16 => some ((!b16)))).bind fun x10 => (bif x10 then some ((⟨0, 0, 0, 0⟩ : Guess), false) else (spec_l9See a0 a1).bind fun b19 => some (b19, true))
noncomputable def impl_WaitOf (a0 : Guess) : Option (Int × Bool) :=
  (impl_GoodGuess a0).bind fun b6 => (bif (!b6) then some (0, false) else (sl .i64 (if 4 > (IntKind.i64.wrap ((IntKind.i64.wrap (Int.tdiv a0.Mean 8)) + a0.Swing)) then 4 else (IntKind.i64.wrap ((IntKind.i64.wrap (Int.tdiv a0.Mean 8)) + a0.Swing))) a0.Back).bind fun x9 => some ((if 400 < x9 then 400 else x9), true))
noncomputable def spec_l1Most (a0 : Int) (a1 : Int) : Option (Int) :=
  (bif (decide (a1 < a0)) then some a0 else some a1)
noncomputable def spec_l9Wait (a0 : Guess) : Option (Int) :=
  (spec_l1Most 4 (IntKind.i64.wrap ((IntKind.i64.wrap (Int.tdiv a0.Mean 8)) + a0.Swing))).bind fun b5 => (sl .i64 b5 (IntKind.u64.wrap a0.Back)).bind fun x7 => (spec_l1Least 400 x7).bind fun b8 => some b8
noncomputable def spec_WaitOf (a0 : Guess) : Option (Int × Bool) :=
  (spec_GoodGuess a0).bind fun b6 => (bif (!b6) then some (0, false) else (spec_l9Wait a0).bind fun b9 => some (b9, true))
noncomputable def spec_DrawNewGuess (a0 : List Int) : Option (Int) :=
  (spec_l1Cur_among (⟨a0, 0, 0⟩ : L1Cur) ([0, 1, 5, 1000, 1001] : List Int)).bind fun (b9, _b10) => some b9
noncomputable def impl_NewGuess (a0 : Int) : Option (Guess × Bool) :=
  (impl_in a0 1 1000).bind fun b6 => (bif (!b6) then some ((⟨0, 0, 0, 0⟩ : Guess), false) else some ((⟨(IntKind.i64.wrap (8 * a0)), (IntKind.i64.wrap (2 * a0)), 1, 0⟩ : Guess), true))
noncomputable def laws_FnGuesses (a0 : List Int) (a1 : List Int) : Option (Bool) :=
  (bif (decide (1048576 < (IntKind.i64.wrap ((a0.length : Int) + (a1.length : Int))))) then some true else (spec_DrawSeeGuess a0).bind fun (b7, b8) => (impl_SeeGuess b7 b8).bind fun (b15, b16) => (spec_SeeGuess b7 b8).bind fun (b21, b22) => (impl_WaitOf b7).bind fun (b27, b28) => (spec_WaitOf b7).bind fun (b31, b32) => ((bif (!(b16 == b22)) then some (true) else (bif (!((b15.Mean == b21.Mean) && ((b15.Swing == b21.Swing) && ((b15.Many == b21.Many) && ((b15.Back == b21.Back) && true))))) then some (true) else (bif (!(b28 == b32)) then some (true) else (bif (b27 != b31) then some (true) else (impl_GoodGuess b7).bind fun b40 => some ((!(b40 == b32)))))))).bind fun x35 => (bif x35 then some false else ((bif b16 then (impl_WaitOf b15).bind fun (b50, b51) => ((impl_GoodGuess b15).bind fun b59 => (bif (!b59) then some (true) else (bif (!b51) then some (true) else (bif (decide (b50 < 4)) then some (true) else some ((decide (400 < b50))))))).bind fun x54 => (bif x54 then some (LR.done false) else ((bif b8.Lost then (bif (decide (b50 < b27)) then some (true) else (bif (decide (b7.Back < 6)) then (bif (b50 != (IntKind.i64.wrap (2 * b27))) then some ((b50 != 400)) else some (false)) else some (false))) else some (false))).bind fun x64 => (bif x64 then some (LR.done false) else some (LR.next ()))) else some (LR.next ()))).bind fun y => match y with | LR.next () => (spec_DrawNewGuess a1).bind fun b73 => (impl_NewGuess b73).bind fun (b76, b77) => (spec_NewGuess b73).bind fun (b82, b83) => ((bif (!(b77 == b83)) then some (true) else some ((!((b76.Mean == b82.Mean) && ((b76.Swing == b82.Swing) && ((b76.Many == b82.Many) && ((b76.Back == b82.Back) && true)))))))).bind fun x88 => (bif x88 then some false else (bif (!b77) then some true else (impl_GoodGuess b76).bind fun b95 => some b95)) | LR.done z => some z))
end Go.VxW
