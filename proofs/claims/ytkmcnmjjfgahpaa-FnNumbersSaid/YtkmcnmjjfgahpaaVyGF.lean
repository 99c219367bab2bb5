import Derived.Test.YtkmcnmjjfgahpaaVaD
open Go Go.VS
set_option maxRecDepth 8000
namespace Go.VxW
structure Guess where
  Mean : Int
  Swing : Int
  Many : Int
  Back : Int
structure Seen where
  Took : Int
  Twice : Bool
  Lost : Bool
structure L1Cur where
  Code : List Int
  At : Int
  Seed : Int
noncomputable def spec_l1Cur_next (a0 : L1Cur) : Option (Int × L1Cur) :=
  ((bif (decide (a0.At < (a0.Code.length : Int))) then (idx a0.Code a0.At).bind fun b10 => some ((IntKind.i64.wrap b10)) else some (0))).bind fun x5 => (bif (decide ((IntKind.i64.wrap (a0.At + 1)) ≤ (a0.Code.length : Int))) then some (x5, (⟨a0.Code, (IntKind.i64.wrap (a0.At + 1)), (IntKind.u64.wrap ((IntKind.u64.wrap ((IntKind.u64.wrap (a0.Seed * 6364136223846793005)) + (IntKind.u64.wrap x5))) + 1442695040888963407))⟩ : L1Cur)) else some ((IntKind.i64.wrap (andL .u64 (shrL .u64 (IntKind.u64.wrap ((IntKind.u64.wrap ((IntKind.u64.wrap (a0.Seed * 6364136223846793005)) + (IntKind.u64.wrap x5))) + 1442695040888963407)) 40) 255)), (⟨a0.Code, (IntKind.i64.wrap (a0.At + 1)), (IntKind.u64.wrap ((IntKind.u64.wrap ((IntKind.u64.wrap (a0.Seed * 6364136223846793005)) + (IntKind.u64.wrap x5))) + 1442695040888963407))⟩ : L1Cur)))
noncomputable def spec_l1Cur_pick (a0 : L1Cur) (a1 : Int) : Option (Int × L1Cur) :=
  (bif (decide (a1 ≤ 1)) then some (0, a0) else (spec_l1Cur_next a0).bind fun (b7, b8) => ((bif (decide (200 < a1)) then (spec_l1Cur_next b8).bind fun (b20, b21) => some ((IntKind.i64.wrap ((IntKind.i64.wrap (b7 * 256)) + b20)), b21.Code, b21.At, b21.Seed) else some (b7, b8.Code, b8.At, b8.Seed))).bind fun (x11, x12, x13, x14) => (md x11 a1).bind fun x23 => some (x23, (⟨x12, x13, x14⟩ : L1Cur)))
noncomputable def spec_l1Cur_one (a0 : L1Cur) (a1 : Int) : Option (Bool × L1Cur) :=
  (spec_l1Cur_pick a0 a1).bind fun (b4, b5) => some ((b4 == 0), b5)
noncomputable def spec_l1Cur_among (a0 : L1Cur) (a1 : List Int) : Option (Int × L1Cur) :=
  (spec_l1Cur_pick a0 (a1.length : Int)).bind fun (b4, b5) => (idx a1 b4).bind fun b6 => some (b6, b5)
noncomputable def spec_l1Cur_seen (a0 : L1Cur) : Option (Seen × L1Cur) :=
  (spec_l1Cur_pick a0 8).bind fun (b7, b8) => (bif (b7 == 0) then (spec_l1Cur_pick b8 9).bind fun (b13, b14) => (spec_l1Cur_one b14 30).bind fun (b16, b17) => some ((⟨(IntKind.i64.wrap (Int.tdiv b13 8)), b16, true⟩ : Seen), b17) else (bif (b7 == 1) then (spec_l1Cur_pick b8 100).bind fun (b21, b22) => some ((⟨b21, true, false⟩ : Seen), b22) else (spec_l1Cur_pick b8 9).bind fun (b25, b26) => (spec_l1Cur_among b26 ([0, 5, 10, 11, 12, 20, 100, 1000, (IntKind.i64.wrap (1000 + (IntKind.i64.wrap (Int.tdiv b25 8))))] : List Int)).bind fun (b30, b31) => some ((⟨b30, false, false⟩ : Seen), b31)))
noncomputable def spec_l1Cur_allSeen_l0 (x : ((List Seen) × Int × (List Int) × Int × Int)) : Option (LR ((List Seen) × Int × (List Int) × Int × Int) ((List Seen) × (List Int) × Int × Int)) :=
  match x with
  | (x24, x27, x28, x29, x30) => (bif (decide (0 < x27)) then (spec_l1Cur_seen (⟨x28, x29, x30⟩ : L1Cur)).bind fun (b49, b50) => (app 16 x24 ([b49] : List Seen)).bind fun x53 => some (LR.next (x53, (IntKind.i64.wrap (x27 - 1)), b50.Code, b50.At, b50.Seed)) else some (LR.done (x24, x28, x29, x30)))
noncomputable def spec_l1Cur_allSeen (a0 : L1Cur) : Option (List Seen × L1Cur) :=
  (spec_l1Cur_pick a0 14).bind fun (b5, b6) => (spec_l1Cur_one b6 20).bind fun (b10, b11) => ((bif b10 then (spec_l1Cur_pick b11 3).bind fun (b21, b22) => some ((IntKind.i64.wrap (59 + b21)), b22.Code, b22.At, b22.Seed) else some (b5, b11.Code, b11.At, b11.Seed))).bind fun (x12, x13, x14, x15) => (whl (spec_l1Cur_allSeen_l0) ([], x12, x13, x14, x15)).bind fun (x31, x33, x34, x35) => some (x31, (⟨x33, x34, x35⟩ : L1Cur))
noncomputable def spec_l1In (a0 : Int) (a1 : Int) (a2 : Int) : Option (Bool) :=
  (bif (decide (a1 ≤ a0)) then some (decide (a0 ≤ a2)) else some false)
noncomputable def spec_NewGuess (a0 : Int) : Option (Guess × Bool) :=
  (spec_l1In a0 1 1000).bind fun b6 => (bif (!b6) then some ((⟨0, 0, 0, 0⟩ : Guess), false) else some ((⟨(IntKind.i64.wrap (8 * a0)), (IntKind.i64.wrap (2 * a0)), 1, 0⟩ : Guess), true))
noncomputable def spec_l9Seen (a0 : Seen) : Option (Bool) :=
  (spec_l1In a0.Took 0 1000).bind fun b5 => (bif b5 then (bif (!a0.Lost) then some true else (bif (a0.Took == 0) then some (!a0.Twice) else some false)) else some false)
noncomputable def spec_l1Least (a0 : Int) (a1 : Int) : Option (Int) :=
  (bif (decide (a0 < a1)) then some a0 else some a1)
noncomputable def spec_l9See (a0 : Guess) (a1 : Seen) : Option (Guess) :=
  (bif a1.Lost then (spec_l1Least 6 (IntKind.i64.wrap (a0.Back + 1))).bind fun b11 => some (⟨a0.Mean, a0.Swing, a0.Many, b11⟩ : Guess) else (spec_l1Least 1000 (IntKind.i64.wrap (a0.Many + 1))).bind fun b14 => (bif a1.Twice then some (⟨a0.Mean, a0.Swing, b14, a0.Back⟩ : Guess) else ((bif (decide ((IntKind.i64.wrap (a1.Took - (IntKind.i64.wrap (Int.tdiv a0.Mean 8)))) < 0)) then some ((IntKind.i64.wrap (0 - (IntKind.i64.wrap (a1.Took - (IntKind.i64.wrap (Int.tdiv a0.Mean 8))))))) else some ((IntKind.i64.wrap (a1.Took - (IntKind.i64.wrap (Int.tdiv a0.Mean 8))))))).bind fun x23 => some (⟨(IntKind.i64.wrap (a0.Mean + (IntKind.i64.wrap (a1.Took - (IntKind.i64.wrap (Int.tdiv a0.Mean 8)))))), (IntKind.i64.wrap (a0.Swing + (IntKind.i64.wrap (x23 - (IntKind.i64.wrap (Int.tdiv a0.Swing 4)))))), b14, 0⟩ : Guess)))
noncomputable def spec_SeeAll_l0 (a1 : List Seen) (x : (Int × Int × Int × Int × Int)) : Option (LR (Int × Int × Int × Int × Int) (LR (Int × Int × Int × Int) (Guess × Bool))) :=
  match x with
  | (x20, x21, x22, x23, x24) => (bif (decide (x20 < (a1.length : Int))) then (idx a1 x20).bind fun b42 => (spec_l9Seen b42).bind fun b47 => (bif (!b47) then some (LR.done (LR.done ((⟨0, 0, 0, 0⟩ : Guess), false))) else (spec_l9See (⟨x21, x22, x23, x24⟩ : Guess) b42).bind fun b53 => some (LR.next ((IntKind.i64.wrap (x20 + 1)), b53.Mean, b53.Swing, b53.Many, b53.Back))) else some (LR.done (LR.next (x21, x22, x23, x24))))
noncomputable def spec_SeeAll (a0 : Int) (a1 : List Seen) : Option (Guess × Bool) :=
  (spec_NewGuess a0).bind fun (b6, b7) => ((bif (!b7) then some (true) else some ((decide (60 < (a1.length : Int)))))).bind fun x12 => (bif x12 then some ((⟨0, 0, 0, 0⟩ : Guess), false) else (whl (spec_SeeAll_l0 a1) (0, b6.Mean, b6.Swing, b6.Many, b6.Back)).bind fun y => match y with | LR.next (x25, x26, x27, x28) => some ((⟨x25, x26, x27, x28⟩ : Guess), true) | LR.done z => some z)
noncomputable def spec_l1Cur_guess (a0 : L1Cur) : Option (Guess × L1Cur) :=
  (spec_l1Cur_pick a0 100).bind fun (b6, b7) => (spec_l1Cur_allSeen b7).bind fun (b9, b10) => (spec_SeeAll (IntKind.i64.wrap (1 + b6)) b9).bind fun (b14, b15) => ((bif (!b15) then some (true, b10.Code, b10.At, b10.Seed) else (spec_l1Cur_one b10 12).bind fun (b29, b30) => some (b29, b30.Code, b30.At, b30.Seed))).bind fun (x20, x21, x22, x23) => ((bif x20 then (spec_l1Cur_among (⟨x21, x22, x23⟩ : L1Cur) ([0, 80, 8000, 8001] : List Int)).bind fun (b45, b46) => (spec_l1Cur_among b46 ([0, 7, 4000] : List Int)).bind fun (b50, b51) => (spec_l1Cur_among b51 ([0, 1000] : List Int)).bind fun (b55, b56) => (spec_l1Cur_pick b56 8).bind fun (b58, b59) => some (b59.Code, b59.At, b59.Seed, b45, b50, b55, b58) else some (x21, x22, x23, b14.Mean, b14.Swing, b14.Many, b14.Back))).bind fun (x31, x32, x33, x34, x35, x36, x37) => some ((⟨x34, x35, x36, x37⟩ : Guess), (⟨x31, x32, x33⟩ : L1Cur))
noncomputable def spec_DrawSeeGuess (a0 : List Int) : Option (Guess × Seen) :=
  (spec_l1Cur_guess (⟨a0, 0, 0⟩ : L1Cur)).bind fun (b11, b12) => (spec_l1Cur_seen b12).bind fun (b14, _b15) => some (b11, b14)
noncomputable def impl_in (a0 : Int) (a1 : Int) (a2 : Int) : Option (Bool) :=
  (bif (decide (a1 ≤ a0)) then some (decide (a0 ≤ a2)) else some false)
noncomputable def impl_GoodGuess (a0 : Guess) : Option (Bool) :=
  (impl_in a0.Mean 0 8000).bind fun b5 => (bif b5 then (impl_in a0.Swing 0 4000).bind fun b6 => (bif b6 then (impl_in a0.Many 0 1000).bind fun b7 => (bif b7 then (impl_in a0.Back 0 6).bind fun b8 => some b8 else some false) else some false) else some false)
noncomputable def impl_isSeen (a0 : Seen) : Option (Bool) :=
  (impl_in a0.Took 0 1000).bind fun b5 => (bif b5 then (bif a0.Lost then (bif a0.Twice then some false else some (!(decide (0 < a0.Took)))) else some true) else some false)
noncomputable def impl_Guess_see (a0 : Guess) (a1 : Seen) : Option (Guess) :=
  (bif a1.Lost then some (⟨a0.Mean, a0.Swing, a0.Many, (if 6 < (IntKind.i64.wrap (a0.Back + 1)) then 6 else (IntKind.i64.wrap (a0.Back + 1)))⟩ : Guess) else (bif a1.Twice then some (⟨a0.Mean, a0.Swing, (if 1000 < (IntKind.i64.wrap (a0.Many + 1)) then 1000 else (IntKind.i64.wrap (a0.Many + 1))), a0.Back⟩ : Guess) else some (⟨(IntKind.i64.wrap (a0.Mean + (IntKind.i64.wrap (a1.Took - (IntKind.i64.wrap (Int.tdiv a0.Mean 8)))))), (IntKind.i64.wrap (a0.Swing + (IntKind.i64.wrap ((if (IntKind.i64.wrap (0 - (IntKind.i64.wrap (a1.Took - (IntKind.i64.wrap (Int.tdiv a0.Mean 8)))))) > (IntKind.i64.wrap (a1.Took - (IntKind.i64.wrap (Int.tdiv a0.Mean 8)))) then (IntKind.i64.wrap (0 - (IntKind.i64.wrap (a1.Took - (IntKind.i64.wrap (Int.tdiv a0.Mean 8)))))) else (IntKind.i64.wrap (a1.Took - (IntKind.i64.wrap (Int.tdiv a0.Mean 8))))) - (IntKind.i64.wrap (Int.tdiv a0.Swing 4)))))), (if 1000 < (IntKind.i64.wrap (a0.Many + 1)) then 1000 else (IntKind.i64.wrap (a0.Many + 1))), 0⟩ : Guess)))
noncomputable def impl_SeeGuess (a0 : Guess) (a1 : Seen) : Option (Guess × Bool) :=
  ((impl_GoodGuess a0).bind fun b15 => (bif (!b15) then some (true) else (impl_isSeen a1).bind fun b16 => some ((!b16)))).bind fun x10 => (bif x10 then some ((⟨0, 0, 0, 0⟩ : Guess), false) else (impl_Guess_see a0 a1).bind fun b19 => some (b19, true))
noncomputable def spec_GoodGuess (a0 : Guess) : Option (Bool) :=
  (spec_l1In a0.Mean 0 8000).bind fun b5 => (bif b5 then (spec_l1In a0.Swing 0 4000).bind fun b6 => (bif b6 then (spec_l1In a0.Many 0 1000).bind fun b7 => (bif b7 then (spec_l1In a0.Back 0 6).bind fun b8 => some b8 else some false) else some false) else some false)
noncomputable def spec_SeeGuess (a0 : Guess) (a1 : Seen) : Option (Guess × Bool) :=
  ((spec_GoodGuess a0).bind fun b15 => (bif (!b15) then some (true) else (spec_l9Seen a1).bind fun b16 => some ((!b16)))).bind fun x10 => (bif x10 then some ((⟨0, 0, 0, 0⟩ : Guess), false) else (spec_l9See a0 a1).bind fun b19 => some (b19, true))
noncomputable def impl_WaitOf (a0 : Guess) : Option (Int × Bool) :=
  (impl_GoodGuess a0).bind fun b6 => (bif (!b6) then some (0, false) else (sl .i64 (if 4 > (IntKind.i64.wrap ((IntKind.i64.wrap (Int.tdiv a0.Mean 8)) + a0.Swing)) then 4 else (IntKind.i64.wrap ((IntKind.i64.wrap (Int.tdiv a0.Mean 8)) + a0.Swing))) a0.Back).bind fun x9 => some ((if 400 < x9 then 400 else x9), true))
noncomputable def spec_l1Most (a0 : Int) (a1 : Int) : Option (Int) :=
  (bif (decide (a1 < a0)) then some a0 else some a1)
noncomputable def spec_l9Wait (a0 : Guess) : Option (Int) :=
  (spec_l1Most 4 (IntKind.i64.wrap ((IntKind.i64.wrap (Int.tdiv a0.Mean 8)) + a0.Swing))).bind fun b5 => (sl .i64 b5 (IntKind.u64.wrap a0.Back)).bind fun x7 => (spec_l1Least 400 x7).bind fun b8 => some b8
noncomputable def spec_WaitOf (a0 : Guess) : Option (Int × Bool) :=
  (spec_GoodGuess a0).bind fun b6 => (bif (!b6) then some (0, false) else (spec_l9Wait a0).bind fun b9 => some (b9, true))
noncomputable def spec_DrawNewGuess (a0 : List Int) : Option (Int) :=
  (spec_l1Cur_among (⟨a0, 0, 0⟩ : L1Cur) ([0, 1, 5, 1000, 1001] : List Int)).bind fun (b9, _b10) => some b9
noncomputable def impl_NewGuess (a0 : Int) : Option (Guess × Bool) :=
  (impl_in a0 1 1000).bind fun b6 => (bif (!b6) then some ((⟨0, 0, 0, 0⟩ : Guess), false) else some ((⟨(IntKind.i64.wrap (8 * a0)), (IntKind.i64.wrap (2 * a0)), 1, 0⟩ : Guess), true))
noncomputable def laws_FnGuesses (a0 : List Int) (a1 : List Int) : Option (Bool) :=
  (bif (decide (1048576 < (IntKind.i64.wrap ((a0.length : Int) + (a1.length : Int))))) then some true else (spec_DrawSeeGuess a0).bind fun (b7, b8) => (impl_SeeGuess b7 b8).bind fun (b15, b16) => (spec_SeeGuess b7 b8).bind fun (b21, b22) => (impl_WaitOf b7).bind fun (b27, b28) => (spec_WaitOf b7).bind fun (b31, b32) => ((bif (!(b16 == b22)) then some (true) else (bif (!((b15.Mean == b21.Mean) && ((b15.Swing == b21.Swing) && ((b15.Many == b21.Many) && ((b15.Back == b21.Back) && true))))) then some (true) else (bif (!(b28 == b32)) then some (true) else (bif (b27 != b31) then some (true) else (impl_GoodGuess b7).bind fun b40 => some ((!(b40 == b32)))))))).bind fun x35 => (bif x35 then some false else ((bif b16 then (impl_WaitOf b15).bind fun (b50, b51) => ((impl_GoodGuess b15).bind fun b59 => (bif (!b59) then some (true) else (bif (!b51) then some (true) else (bif (decide (b50 < 4)) then some (true) else some ((decide (400 < b50))))))).bind fun x54 => (bif x54 then some (LR.done false) else ((bif b8.Lost then (bif (decide (b50 < b27)) then some (true) else (bif (decide (b7.Back < 6)) then (bif (b50 != (IntKind.i64.wrap (2 * b27))) then some ((b50 != 400)) else some (false)) else some (false))) else some (false))).bind fun x64 => (bif x64 then some (LR.done false) else some (LR.next ()))) else some (LR.next ()))).bind fun y => match y with | LR.next () => (spec_DrawNewGuess a1).bind fun b73 => (impl_NewGuess b73).bind fun (b76, b77) => (spec_NewGuess b73).bind fun (b82, b83) => ((bif (!(b77 == b83)) then some (true) else some ((!((b76.Mean == b82.Mean) && ((b76.Swing == b82.Swing) && ((b76.Many == b82.Many) && ((b76.Back == b82.Back) && true)))))))).bind fun x88 => (bif x88 then some false else (bif (!b77) then some true else (impl_GoodGuess b76).bind fun b95 => some b95)) | LR.done z => some z))
noncomputable def spec_DrawSeeAll (a0 : List Int) : Option (Int × List Seen) :=
  (spec_l1Cur_among (⟨a0, 0, 0⟩ : L1Cur) ([0, 1, 10, 10, 50, 1000, 1001] : List Int)).bind fun (b9, b10) => (spec_l1Cur_allSeen b10).bind fun (b12, _b13) => some (b9, b12)
noncomputable def impl_areSeen_l0 (a0 : List Seen) (x : (Int)) : Option (LR (Int) (LR Unit (Bool))) :=
  match x with
  | (x4) => (bif (decide (x4 < (a0.length : Int))) then (idx a0 x4).bind fun b18 => (impl_isSeen b18).bind fun b22 => (bif (!b22) then some (LR.done (LR.done false)) else some (LR.next ((IntKind.i64.wrap (x4 + 1))))) else some (LR.done (LR.next ())))
noncomputable def impl_areSeen (a0 : List Seen) : Option (Bool) :=
  (whl (impl_areSeen_l0 a0) (0)).bind fun y => match y with | LR.next () => some (decide ((a0.length : Int) ≤ 60)) | LR.done z => some z
noncomputable def impl_SeeAll_l0 (a1 : List Seen) (x : (Int × Int × Int × Int × Int)) : Option (LR (Int × Int × Int × Int × Int) (Int × Int × Int × Int)) :=
  match x with
  | (x21, x22, x23, x24, x25) => (bif (decide (x21 < (a1.length : Int))) then (idx a1 x21).bind fun b43 => (impl_Guess_see (⟨x22, x23, x24, x25⟩ : Guess) b43).bind fun b46 => some (LR.next ((IntKind.i64.wrap (x21 + 1)), b46.Mean, b46.Swing, b46.Many, b46.Back)) else some (LR.done (x22, x23, x24, x25)))
noncomputable def impl_SeeAll (a0 : Int) (a1 : List Seen) : Option (Guess × Bool) :=
  (impl_NewGuess a0).bind fun (b6, b7) => ((bif (!b7) then some (true) else (impl_areSeen a1).bind fun b17 => some ((!b17)))).bind fun x12 => (bif x12 then some ((⟨0, 0, 0, 0⟩ : Guess), false) else (whl (impl_SeeAll_l0 a1) (0, b6.Mean, b6.Swing, b6.Many, b6.Back)).bind fun (x26, x27, x28, x29) => some ((⟨x26, x27, x28, x29⟩ : Guess), true))
noncomputable def impl_RangeOf_l0 (a0 : List Seen) (x : (Int × Int × Bool × Int)) : Option (LR (Int × Int × Bool × Int) (Int × Int × Bool)) :=
  match x with
  | (x9, x10, x11, x12) => (bif (decide (x12 < (a0.length : Int))) then ((idx a0 x12).bind fun b35 => ((bif b35.Lost then some (true) else some (b35.Twice))).bind fun x40 => (bif x40 then some (x9, x10, x11) else ((bif (!x11) then some (b35.Took, b35.Took) else some (x9, x10))).bind fun (x47, x48) => some ((if b35.Took < x47 then b35.Took else x47), (if b35.Took > x48 then b35.Took else x48), true))).bind fun (x28, x29, x30) => some (LR.next (x28, x29, x30, (IntKind.i64.wrap (x12 + 1)))) else some (LR.done (x9, x10, x11)))
noncomputable def impl_RangeOf (a0 : List Seen) : Option (Int × Int × Bool) :=
  (impl_areSeen a0).bind fun b4 => (bif (!b4) then some (0, 0, false) else (whl (impl_RangeOf_l0 a0) (0, 0, false, 0)).bind fun (x13, x14, x15) => some (x13, x14, x15))
noncomputable def spec_DrawRangeOf (a0 : List Int) : Option (List Seen) :=
  (spec_l1Cur_allSeen (⟨a0, 0, 0⟩ : L1Cur)).bind fun (b7, _b8) => some b7
noncomputable def spec_RangeOf_l0 (a0 : List Seen) (x : (Int × Int × Int)) : Option (LR (Int × Int × Int) (LR (Int × Int) (Int × Int × Bool))) :=
  match x with
  | (x6, x7, x8) => (bif (decide (x8 < (a0.length : Int))) then ((idx a0 x8).bind fun b29 => (spec_l9Seen b29).bind fun b34 => (bif (!b34) then some (LR.done (LR.done (LR.done (0, 0, false)))) else ((bif b29.Lost then some (true) else some (b29.Twice))).bind fun x44 => (bif x44 then some (LR.next (x6, x7)) else ((bif (decide (x6 < 0)) then some (true) else some ((decide (b29.Took < x6))))).bind fun x51 => ((bif x51 then some (b29.Took) else some (x6))).bind fun x56 => (spec_l1Most x7 b29.Took).bind fun b61 => some (LR.next (x56, b61))))).bind fun y => match y with | LR.next (x23, x24) => some (LR.next (x23, x24, (IntKind.i64.wrap (x8 + 1)))) | LR.done z => some z else some (LR.done (LR.next (x6, x7))))
noncomputable def spec_RangeOf (a0 : List Seen) : Option (Int × Int × Bool) :=
  (whl (spec_RangeOf_l0 a0) (-1, -1, 0)).bind fun y => match y with | LR.next (x9, x10) => ((bif (decide (60 < (a0.length : Int))) then some (true) else some ((decide (x9 < 0))))).bind fun x66 => (bif x66 then some (0, 0, false) else some (x9, x10, true)) | LR.done z => some z
noncomputable def laws_FnKarn_l0 (b8 : List Seen) (x : ((List Seen) × Int)) : Option (LR ((List Seen) × Int) ((List Seen))) :=
  match x with
  | (x79, x82) => (bif (decide (x82 < (b8.length : Int))) then ((idx b8 x82).bind fun b103 => ((bif (!b103.Twice) then some ((!b103.Lost)) else some (false))).bind fun x107 => ((bif x107 then (app 16 x79 ([b103] : List Seen)).bind fun x121 => some (x121) else some (x79))).bind fun x112 => some (x112)).bind fun x97 => some (LR.next (x97, (IntKind.i64.wrap (x82 + 1)))) else some (LR.done (x79)))
noncomputable def laws_FnKarn (a0 : List Int) (a1 : List Int) : Option (Bool) :=
  (bif (decide (1048576 < (IntKind.i64.wrap ((a0.length : Int) + (a1.length : Int))))) then some true else (spec_DrawSeeAll a0).bind fun (b7, b8) => (impl_SeeAll b7 b8).bind fun (b13, b14) => (spec_SeeAll b7 b8).bind fun (b19, b20) => ((bif (!(b14 == b20)) then some (true) else some ((!((b13.Mean == b19.Mean) && ((b13.Swing == b19.Swing) && ((b13.Many == b19.Many) && ((b13.Back == b19.Back) && true)))))))).bind fun x25 => (bif x25 then some false else ((bif b14 then (impl_RangeOf b8).bind fun (b39, b40, b41) => ((bif (!b41) then some (b7, b7) else some (b39, b40))).bind fun (x44, x45) => ((bif (decide (b7 < x44)) then some (b7) else some (x44))).bind fun x53 => ((bif (decide (x45 < b7)) then some (b7) else some (x45))).bind fun x60 => ((bif (decide (b13.Mean < (IntKind.i64.wrap (8 * x53)))) then some (true) else (bif (decide ((IntKind.i64.wrap ((IntKind.i64.wrap (8 * x60)) + 7)) < b13.Mean)) then some (true) else (impl_GoodGuess b13).bind fun b72 => some ((!b72))))).bind fun x67 => (bif x67 then some (LR.done false) else (whl (laws_FnKarn_l0 b8) ([], 0)).bind fun x83 => (impl_SeeAll b7 x83).bind fun (b128, b129) => ((bif (!b129) then some (true) else (bif (b128.Mean != b13.Mean) then some (true) else some ((b128.Swing != b13.Swing))))).bind fun x133 => (bif x133 then some (LR.done false) else some (LR.next ()))) else some (LR.next ()))).bind fun y => match y with | LR.next () => (spec_DrawRangeOf a1).bind fun b142 => (impl_RangeOf b142).bind fun (b147, b148, b149) => (spec_RangeOf b142).bind fun (b152, b153, b154) => (bif (b149 == b154) then (bif (b147 == b152) then (bif (b148 == b153) then (bif (!b149) then some true else some (decide (b147 ≤ b148))) else some false) else some false) else some false) | LR.done z => some z))
noncomputable def spec_l1Cur_number (a0 : L1Cur) : Option (Int × L1Cur) :=
  (spec_l1Cur_one a0 3).bind fun (b5, b6) => (bif b5 then (spec_l1Cur_among b6 ([0, 63, 64, 16383, 16384, 1073741823, 1073741824, 1152921504606846975, 1152921504606846976, -1] : List Int)).bind fun (b11, b12) => some (b11, b12) else (spec_l1Cur_pick b6 256).bind fun (b15, b16) => (spec_l1Cur_among b16 ([1, 3, 1000, 99991] : List Int)).bind fun (b20, b21) => some ((IntKind.i64.wrap (b15 * b20)), b21))
noncomputable def spec_DrawSizeOf (a0 : List Int) : Option (Int) :=
  (spec_l1Cur_number (⟨a0, 0, 0⟩ : L1Cur)).bind fun (b7, _b8) => some b7
noncomputable def spec_DrawPutNumber (a0 : List Int) : Option (Int) :=
  (spec_DrawSizeOf a0).bind fun b3 => some b3
noncomputable def impl_isNumber (a0 : Int) : Option (Bool) :=
  (impl_in a0 0 1152921504606846975).bind fun b3 => some b3
noncomputable def impl_sizeOf (a0 : Int) : Option (Int) :=
  (bif (decide (a0 < 64)) then some 1 else (bif (decide (a0 < 16384)) then some 2 else (bif (decide (a0 < 1073741824)) then some 4 else some 8)))
noncomputable def impl_wide_l0 (x : (Int × (List Int) × Int)) : Option (LR (Int × (List Int) × Int) ((List Int))) :=
  match x with
  | (x8, x9, x10) => (bif (decide (0 ≤ x10)) then (idx x9 x10).bind fun _b25 => some (LR.next ((shrL .i64 x8 8), (x9.set x10.toNat (IntKind.u8.wrap x8)), (IntKind.i64.wrap (x10 - 1)))) else some (LR.done (x9)))
noncomputable def impl_wide_l1 (a1 : Int) (x : ((List Int) × Int)) : Option (LR ((List Int) × Int) ((List Int))) :=
  match x with
  | (x31, x32) => (bif (decide (x32 < a1)) then (idx x31 0).bind fun b46 => (idx x31 0).bind fun _b48 => some (LR.next ((x31.set (0 : Int).toNat (IntKind.u8.wrap (b46 + 64))), (IntKind.i64.wrap (x32 * 2)))) else some (LR.done (x31)))
noncomputable def impl_wide (a0 : Int) (a1 : Int) : Option (List UInt8) :=
  (mkL 1 a1 (0 : Int)).bind fun x5 => (whl (impl_wide_l0) (a0, x5, (IntKind.i64.wrap (a1 - 1)))).bind fun x11 => (whl (impl_wide_l1 a1) (x11, 1)).bind fun x33 => some (toStr x33)
noncomputable def impl_number (a0 : Int) : Option (List UInt8) :=
  (impl_sizeOf a0).bind fun b3 => (impl_wide a0 b3).bind fun b4 => some b4
noncomputable def impl_PutNumber (a0 : Int) : Option (List UInt8 × Bool) :=
  (impl_isNumber a0).bind fun b4 => (bif (!b4) then some ([], false) else (impl_number a0).bind fun b7 => some (b7, true))
noncomputable def spec_l1Number (a0 : Int) : Option (Bool) :=
  (spec_l1In a0 0 1152921504606846975).bind fun b3 => some b3
noncomputable def spec_l1Size (a0 : Int) : Option (Int) :=
  (bif (decide (a0 < 64)) then some 1 else (bif (decide (a0 < 16384)) then some 2 else (bif (decide (a0 < 1073741824)) then some 4 else some 8)))
noncomputable def spec_l1Mark (a0 : Int) : Option (Int) :=
  (bif (a0 == 2) then some 64 else (bif (a0 == 4) then some 128 else (bif (a0 == 8) then some 192 else some 0)))
noncomputable def spec_l1Wide_l0 (x : (Int × (List Int) × Int)) : Option (LR (Int × (List Int) × Int) ((List Int))) :=
  match x with
  | (x8, x9, x10) => (bif (decide (0 ≤ x10)) then (idx x9 x10).bind fun _b25 => some (LR.next ((shrL .i64 x8 8), (x9.set x10.toNat (IntKind.u8.wrap x8)), (IntKind.i64.wrap (x10 - 1)))) else some (LR.done (x9)))
noncomputable def spec_l1Wide (a0 : Int) (a1 : Int) : Option (List UInt8) :=
  (mkL 1 a1 (0 : Int)).bind fun x5 => (whl (spec_l1Wide_l0) (a0, x5, (IntKind.i64.wrap (a1 - 1)))).bind fun x11 => (idx x11 0).bind fun b30 => (spec_l1Mark a1).bind fun b32 => (idx x11 0).bind fun _b33 => some (toStr (x11.set (0 : Int).toNat (IntKind.u8.wrap (b30 + (IntKind.u8.wrap b32)))))
noncomputable def spec_l1Put (a0 : Int) : Option (List UInt8) :=
  (spec_l1Size a0).bind fun b3 => (spec_l1Wide a0 b3).bind fun b4 => some b4
noncomputable def spec_PutNumber (a0 : Int) : Option (List UInt8 × Bool) :=
  (spec_l1Number a0).bind fun b4 => (bif (!b4) then some ([], false) else (spec_l1Put a0).bind fun b7 => some (b7, true))
noncomputable def impl_SizeOf (a0 : Int) : Option (Int × Bool) :=
  (impl_isNumber a0).bind fun b4 => (bif (!b4) then some (0, false) else (impl_sizeOf a0).bind fun b7 => some (b7, true))
noncomputable def spec_SizeOf (a0 : Int) : Option (Int × Bool) :=
  (spec_l1Number a0).bind fun b4 => (bif (!b4) then some (0, false) else (spec_l1Size a0).bind fun b7 => some (b7, true))
noncomputable def impl_GetNumber_l0 (a0 : List UInt8) (a1 : Int) (x8 : Int) (x : (Int × Int)) : Option (LR (Int × Int) (Int)) :=
  match x with
  | (x16, x17) => (bif (decide (x17 < x8)) then (idx a0 (IntKind.i64.wrap (a1 + x17))).bind fun b31 => some (LR.next ((orL .i64 (shlL .i64 x16 8) (IntKind.i64.wrap (b31.toNat : Int))), (IntKind.i64.wrap (x17 + 1)))) else some (LR.done (x16)))
noncomputable def impl_GetNumber (a0 : List UInt8) (a1 : Int) : Option (Int × Int × Bool) :=
  (impl_in a1 0 (IntKind.i64.wrap ((a0.length : Int) - 1))).bind fun b4 => (bif (!b4) then some (0, 0, false) else (idx a0 a1).bind fun b7 => (sl .i64 1 (shrL .u8 (b7.toNat : Int) 6)).bind fun x8 => (bif (decide ((a0.length : Int) < (IntKind.i64.wrap (a1 + x8)))) then some (0, 0, false) else (idx a0 a1).bind fun b13 => (whl (impl_GetNumber_l0 a0 a1 x8) ((IntKind.i64.wrap (andL .u8 (b13.toNat : Int) 63)), 1)).bind fun x18 => ((impl_isNumber x18).bind fun b41 => (bif (!b41) then some (true) else (impl_sizeOf x18).bind fun b42 => some ((b42 != x8)))).bind fun x36 => (bif x36 then some (0, 0, false) else some (x18, (IntKind.i64.wrap (a1 + x8)), true))))
noncomputable def spec_DrawPutWide (a0 : List Int) : Option (Int × Int) :=
  (spec_l1Cur_number (⟨a0, 0, 0⟩ : L1Cur)).bind fun (b7, b8) => (spec_l1Cur_among b8 ([0, 1, 2, 3, 4, 8, 16] : List Int)).bind fun (b12, _b13) => some (b7, b12)
noncomputable def impl_PutWide (a0 : Int) (a1 : Int) : Option (List UInt8 × Bool) :=
  ((impl_isNumber a0).bind fun b9 => (bif (!b9) then some (true) else (bif (a1 != 1) then (bif (a1 != 2) then (bif (a1 != 4) then (bif (a1 != 8) then some (true) else (impl_sizeOf a0).bind fun b10 => some ((decide (a1 < b10)))) else (impl_sizeOf a0).bind fun b11 => some ((decide (a1 < b11)))) else (impl_sizeOf a0).bind fun b12 => some ((decide (a1 < b12)))) else (impl_sizeOf a0).bind fun b13 => some ((decide (a1 < b13)))))).bind fun x4 => (bif x4 then some ([], false) else (impl_wide a0 a1).bind fun b16 => some (b16, true))
noncomputable def spec_PutWide (a0 : Int) (a1 : Int) : Option (List UInt8 × Bool) :=
  ((spec_l1Number a0).bind fun b9 => (bif (!b9) then some (true) else (bif (a1 != 1) then (bif (a1 != 2) then (bif (a1 != 4) then (bif (a1 != 8) then some (true) else (spec_l1Size a0).bind fun b10 => some ((decide (a1 < b10)))) else (spec_l1Size a0).bind fun b11 => some ((decide (a1 < b11)))) else (spec_l1Size a0).bind fun b12 => some ((decide (a1 < b12)))) else (spec_l1Size a0).bind fun b13 => some ((decide (a1 < b13)))))).bind fun x4 => (bif x4 then some ([], false) else (spec_l1Wide a0 a1).bind fun b16 => some (b16, true))
noncomputable def spec_l1Cur_numbers_l0 (x : ((List Int) × Int × (List Int) × Int × Int)) : Option (LR ((List Int) × Int × (List Int) × Int × Int) ((List Int) × (List Int) × Int × Int)) :=
  match x with
  | (x8, x11, x12, x13, x14) => (bif (decide (0 < x11)) then (spec_l1Cur_number (⟨x12, x13, x14⟩ : L1Cur)).bind fun (b33, b34) => (app 8 x8 ([b33] : List Int)).bind fun x37 => some (LR.next (x37, (IntKind.i64.wrap (x11 - 1)), b34.Code, b34.At, b34.Seed)) else some (LR.done (x8, x12, x13, x14)))
noncomputable def spec_l1Cur_numbers (a0 : L1Cur) : Option (List Int × L1Cur) :=
  (spec_l1Cur_pick a0 8).bind fun (b6, b7) => (whl (spec_l1Cur_numbers_l0) ([], b6, b7.Code, b7.At, b7.Seed)).bind fun (x15, x17, x18, x19) => (spec_l1Cur_one (⟨x17, x18, x19⟩ : L1Cur) 20).bind fun (b45, b46) => ((bif b45 then (spec_l1Cur_pick b46 3).bind fun (b58, b59) => (mkL 8 (IntKind.i64.wrap (59 + b58)) (0 : Int)).bind fun x62 => some (x62, b59.Code, b59.At, b59.Seed) else some (x15, b46.Code, b46.At, b46.Seed))).bind fun (x47, x50, x51, x52) => some (x47, (⟨x50, x51, x52⟩ : L1Cur))
noncomputable def spec_l1Cur_spoilt_l0 (a2 : List UInt8) (x : ((List UInt8) × Int × (List Int) × Int × Int)) : Option (LR ((List UInt8) × Int × (List Int) × Int × Int) ((List UInt8) × (List Int) × Int × Int)) :=
  match x with
  | (x7, x8, x9, x10, x11) => ((bif (decide (0 < x8)) then some ((decide (0 < (x7.length : Int)))) else some (false))).bind fun x26 => (bif x26 then ((spec_l1Cur_pick (⟨x9, x10, x11⟩ : L1Cur) (x7.length : Int)).bind fun (b42, b43) => (spec_l1Cur_pick b43 (a2.length : Int)).bind fun (b46, b47) => (idx a2 b46).bind fun b48 => (spec_l1Cur_pick b47 3).bind fun (b53, b54) => (((bif (b53 == 0) then (slc x7 0 b42).bind fun x66 => (cat x66 (toStr ([(b48.toNat : Int)] : List Int))).bind fun x67 => (slc x7 b42 (x7.length : Int)).bind fun x68 => (cat x67 x68).bind fun x69 => some (x69) else ((bif (b53 == 1) then (slc x7 0 b42).bind fun x76 => (cat x76 (toStr ([(b48.toNat : Int)] : List Int))).bind fun x77 => (slc x7 (IntKind.i64.wrap (b42 + 1)) (x7.length : Int)).bind fun x78 => (cat x77 x78).bind fun x79 => some (x79) else (slc x7 0 b42).bind fun x80 => (slc x7 (IntKind.i64.wrap (b42 + 1)) (x7.length : Int)).bind fun x81 => (cat x80 x81).bind fun x82 => some (x82))).bind fun x71 => some (x71))).bind fun x61 => some (x61)).bind fun x56 => some (x56, b54.Code, b54.At, b54.Seed)).bind fun (x33, x34, x35, x36) => some (LR.next (x33, (IntKind.i64.wrap (x8 - 1)), x34, x35, x36)) else some (LR.done (x7, x9, x10, x11)))
noncomputable def spec_l1Cur_spoilt (a0 : L1Cur) (a1 : List UInt8) (a2 : List UInt8) : Option (List UInt8 × L1Cur) :=
  (spec_l1Cur_pick a0 3).bind fun (b5, b6) => (whl (spec_l1Cur_spoilt_l0 a2) (a1, b5, b6.Code, b6.At, b6.Seed)).bind fun (x12, x13, x14, x15) => some (x12, (⟨x13, x14, x15⟩ : L1Cur))
noncomputable def spec_l1Cur_numberText_l0 (b6 : List Int) (x : ((List UInt8) × Int)) : Option (LR ((List UInt8) × Int) ((List UInt8))) :=
  match x with
  | (x10, x11) => (bif (decide (x11 < (b6.length : Int))) then ((idx b6 x11).bind fun b30 => (spec_l1Number b30).bind fun b33 => ((bif b33 then (spec_l1Put b30).bind fun b39 => (cat x10 b39).bind fun x40 => some (x40) else some (x10))).bind fun x34 => some (x34)).bind fun x25 => some (LR.next (x25, (IntKind.i64.wrap (x11 + 1)))) else some (LR.done (x10)))
noncomputable def spec_l1Cur_numberText (a0 : L1Cur) : Option (List UInt8 × L1Cur) :=
  (spec_l1Cur_numbers a0).bind fun (b6, b7) => (whl (spec_l1Cur_numberText_l0 b6) ([], 0)).bind fun x12 => (spec_l1Cur_one b7 3).bind fun (b46, b47) => ((bif b46 then (spec_l1Cur_spoilt b47 x12 ([0, 64, 128, 192])).bind fun (b57, b58) => some (b57, b58.Code, b58.At, b58.Seed) else some (x12, b47.Code, b47.At, b47.Seed))).bind fun (x48, x49, x50, x51) => some (x48, (⟨x49, x50, x51⟩ : L1Cur))
noncomputable def spec_DrawGetNumber (a0 : List Int) : Option (List UInt8 × Int) :=
  (spec_l1Cur_numberText (⟨a0, 0, 0⟩ : L1Cur)).bind fun (b7, b8) => (spec_l1Cur_pick b8 (IntKind.i64.wrap ((b7.length : Int) + 3))).bind fun (b11, _b12) => some (b7, (IntKind.i64.wrap (b11 - 1)))
noncomputable def spec_l1Get_l0 (a0 : List UInt8) (a1 : Int) (x7 : Int) (x : (Int × Int)) : Option (LR (Int × Int) (Int)) :=
  match x with
  | (x15, x16) => (bif (decide (x16 < x7)) then (idx a0 (IntKind.i64.wrap (a1 + x16))).bind fun b30 => some (LR.next ((orL .i64 (shlL .i64 x15 8) (IntKind.i64.wrap (b30.toNat : Int))), (IntKind.i64.wrap (x16 + 1)))) else some (LR.done (x15)))
noncomputable def spec_l1Get (a0 : List UInt8) (a1 : Int) : Option (Int × Int) :=
  (bif (decide ((a0.length : Int) ≤ a1)) then some (0, -1) else (idx a0 a1).bind fun b6 => (sl .i64 1 (IntKind.u64.wrap (shrL .u8 (b6.toNat : Int) 6))).bind fun x7 => (bif (decide ((IntKind.i64.wrap ((a0.length : Int) - a1)) < x7)) then some (0, -1) else (idx a0 a1).bind fun b12 => (whl (spec_l1Get_l0 a0 a1 x7) ((IntKind.i64.wrap (andL .u8 (b12.toNat : Int) 63)), 1)).bind fun x17 => ((spec_l1Number x17).bind fun b40 => (bif (!b40) then some (true) else (spec_l1Size x17).bind fun b41 => some ((b41 != x7)))).bind fun x35 => (bif x35 then some (0, -1) else some (x17, (IntKind.i64.wrap (a1 + x7))))))
noncomputable def spec_GetNumber (a0 : List UInt8) (a1 : Int) : Option (Int × Int × Bool) :=
  ((bif (decide (a1 < 0)) then some (true) else some ((decide ((a0.length : Int) ≤ a1))))).bind fun x4 => (bif x4 then some (0, 0, false) else (spec_l1Get a0 a1).bind fun (b12, b13) => (bif (decide (b13 < 0)) then some (0, 0, false) else some (b12, b13, true)))
noncomputable def laws_FnNumbers (a0 : List Int) (a1 : List Int) : Option (Bool) :=
  (bif (decide (1048576 < (IntKind.i64.wrap ((a0.length : Int) + (a1.length : Int))))) then some true else (spec_DrawPutNumber a0).bind fun b6 => (impl_PutNumber b6).bind fun (b9, b10) => (spec_PutNumber b6).bind fun (b13, b14) => (impl_SizeOf b6).bind fun (b17, b18) => (spec_SizeOf b6).bind fun (b21, b22) => ((bif (!(b10 == b14)) then some (true) else (bif (!(b9 == b13)) then some (true) else (bif (!(b18 == b22)) then some (true) else some ((b17 != b21)))))).bind fun x25 => (bif x25 then some false else ((bif b10 then (impl_GetNumber b9 0).bind fun (b39, b40, b41) => (impl_SizeOf (IntKind.i64.wrap (Int.tdiv b6 2))).bind fun (b44, b45) => ((bif (!b41) then some (true) else (bif (b39 != b6) then some (true) else (bif (b40 != (b9.length : Int)) then some (true) else (bif (!b18) then some (true) else (bif (b17 != (b9.length : Int)) then some (true) else (bif (!b45) then some (true) else some ((decide (b17 < b44)))))))))).bind fun x47 => (bif x47 then some (LR.done false) else some (LR.next ())) else some (LR.next ()))).bind fun y => match y with | LR.next () => (spec_DrawPutWide a1).bind fun (b57, b58) => (impl_PutWide b57 b58).bind fun (b61, b62) => (spec_PutWide b57 b58).bind fun (b65, b66) => ((bif (!(b62 == b66)) then some (true) else some ((!(b61 == b65))))).bind fun x69 => (bif x69 then some false else ((bif b62 then (impl_GetNumber b61 0).bind fun (b83, _b84, b85) => (impl_SizeOf b57).bind fun (b88, b89) => ((bif ((b61.length : Int) != b58) then some (true) else (bif (!b89) then some (true) else (bif (!(b85 == (b88 == b58))) then some (true) else (bif b85 then some ((b83 != b57)) else some (false)))))).bind fun x91 => (bif x91 then some (LR.done false) else some (LR.next ())) else some (LR.next ()))).bind fun y => match y with | LR.next () => (spec_DrawGetNumber a1).bind fun (b101, b102) => (impl_GetNumber b101 b102).bind fun (b105, b106, b107) => (spec_GetNumber b101 b102).bind fun (b110, b111, b112) => ((bif (!(b107 == b112)) then some (true) else (bif (b105 != b110) then some (true) else some ((b106 != b111))))).bind fun x115 => (bif x115 then some false else (bif b107 then (impl_PutNumber b105).bind fun (b125, b126) => (bif b126 then (slc b101 b102 b106).bind fun x128 => some (x128 == b125) else some false) else some true)) | LR.done z => some z) | LR.done z => some z))
end Go.VxW
