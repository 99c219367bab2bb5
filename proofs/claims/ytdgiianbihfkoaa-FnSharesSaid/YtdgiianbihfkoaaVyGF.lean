import Derived.Test.YtdgiianbihfkoaaVaE
open Go Go.VS
set_option maxRecDepth 8000
namespace Go.VxW
structure Bucket where
  Rate : Int
  Depth : Int
  Has : Int
structure Shares where
  Wins : List Int
  Room : Int
structure Turns where
  Quanta : List Int
  Queues : List (List Int)
  Credit : List Int
  Sent : List Int
  At : Int
structure Job where
  Start : Int
  Need : Int
  End : Int
structure Work where
  End : Int
  Rank : Int
  Id : Int
structure L1Cur where
  Code : List Int
  At : Int
  Seed : Int
structure Way where
  Delay : Int
  Every : Int
noncomputable def spec_l1Cur_next (a0 : L1Cur) : Option (Int × L1Cur) :=
  ((bif (decide (a0.At < (a0.Code.length : Int))) then (idx a0.Code a0.At).bind fun b10 => some ((IntKind.i64.wrap b10)) else some (0))).bind fun x5 => (bif (decide ((IntKind.i64.wrap (a0.At + 1)) ≤ (a0.Code.length : Int))) then some (x5, (⟨a0.Code, (IntKind.i64.wrap (a0.At + 1)), (IntKind.u64.wrap ((IntKind.u64.wrap ((IntKind.u64.wrap (a0.Seed * 6364136223846793005)) + (IntKind.u64.wrap x5))) + 1442695040888963407))⟩ : L1Cur)) else some ((IntKind.i64.wrap (andL .u64 (shrL .u64 (IntKind.u64.wrap ((IntKind.u64.wrap ((IntKind.u64.wrap (a0.Seed * 6364136223846793005)) + (IntKind.u64.wrap x5))) + 1442695040888963407)) 40) 255)), (⟨a0.Code, (IntKind.i64.wrap (a0.At + 1)), (IntKind.u64.wrap ((IntKind.u64.wrap ((IntKind.u64.wrap (a0.Seed * 6364136223846793005)) + (IntKind.u64.wrap x5))) + 1442695040888963407))⟩ : L1Cur)))
noncomputable def spec_l1Cur_pick (a0 : L1Cur) (a1 : Int) : Option (Int × L1Cur) :=
  (bif (decide (a1 ≤ 1)) then some (0, a0) else (spec_l1Cur_next a0).bind fun (b7, b8) => ((bif (decide (200 < a1)) then (spec_l1Cur_next b8).bind fun (b20, b21) => some ((IntKind.i64.wrap ((IntKind.i64.wrap (b7 * 256)) + b20)), b21.Code, b21.At, b21.Seed) else some (b7, b8.Code, b8.At, b8.Seed))).bind fun (x11, x12, x13, x14) => (md x11 a1).bind fun x23 => some (x23, (⟨x12, x13, x14⟩ : L1Cur)))
noncomputable def spec_l1Cur_one (a0 : L1Cur) (a1 : Int) : Option (Bool × L1Cur) :=
  (spec_l1Cur_pick a0 a1).bind fun (b4, b5) => some ((b4 == 0), b5)
noncomputable def spec_l1Cur_among (a0 : L1Cur) (a1 : List Int) : Option (Int × L1Cur) :=
  (spec_l1Cur_pick a0 (a1.length : Int)).bind fun (b4, b5) => (idx a1 b4).bind fun b6 => some (b6, b5)
noncomputable def spec_l1Cur_ways_l0 (x : ((List Way) × Int × (List Int) × Int × Int)) : Option (LR ((List Way) × Int × (List Int) × Int × Int) ((List Way) × (List Int) × Int × Int)) :=
  match x with
  | (x8, x11, x12, x13, x14) => (bif (decide (0 < x11)) then (spec_l1Cur_pick (⟨x12, x13, x14⟩ : L1Cur) 30).bind fun (b33, b34) => (spec_l1Cur_pick b34 6).bind fun (b36, b37) => (app 16 x8 ([(⟨b33, (IntKind.i64.wrap (1 + b36))⟩ : Way)] : List Way)).bind fun x40 => some (LR.next (x40, (IntKind.i64.wrap (x11 - 1)), b37.Code, b37.At, b37.Seed)) else some (LR.done (x8, x12, x13, x14)))
noncomputable def spec_l1Cur_ways (a0 : L1Cur) : Option (List Way × L1Cur) :=
  (spec_l1Cur_pick a0 4).bind fun (b6, b7) => (whl (spec_l1Cur_ways_l0) ([], (IntKind.i64.wrap (1 + b6)), b7.Code, b7.At, b7.Seed)).bind fun (x15, x17, x18, x19) => (spec_l1Cur_one (⟨x17, x18, x19⟩ : L1Cur) 30).bind fun (b48, b49) => ((bif b48 then (spec_l1Cur_among b49 ([-1, 100, 101] : List Int)).bind fun (b61, b62) => (spec_l1Cur_among b62 ([0, 1, 20, 21] : List Int)).bind fun (b66, b67) => (idx x15 0).bind fun _b68 => some ((x15.set (0 : Int).toNat (⟨b61, b66⟩ : Way)), b67.Code, b67.At, b67.Seed) else some (x15, b49.Code, b49.At, b49.Seed))).bind fun (x50, x51, x52, x53) => some (x50, (⟨x51, x52, x53⟩ : L1Cur))
noncomputable def spec_DrawLastArrival_l0 (b7 : List Way) (x : ((List Int) × Int × (List Int) × Int × Int)) : Option (LR ((List Int) × Int × (List Int) × Int × Int) ((List Int) × (List Int) × Int × Int)) :=
  match x with
  | (x14, x17, x18, x19, x20) => (bif (decide (x17 < (b7.length : Int))) then (spec_l1Cur_pick (⟨x18, x19, x20⟩ : L1Cur) 8).bind fun (b39, b40) => (app 8 x14 ([b39] : List Int)).bind fun x43 => some (LR.next (x43, (IntKind.i64.wrap (x17 + 1)), b40.Code, b40.At, b40.Seed)) else some (LR.done (x14, x18, x19, x20)))
noncomputable def spec_DrawLastArrival (a0 : List Int) : Option (List Way × List Int) :=
  (spec_l1Cur_ways (⟨a0, 0, 0⟩ : L1Cur)).bind fun (b7, b8) => (whl (spec_DrawLastArrival_l0 b7) ([], 0, b8.Code, b8.At, b8.Seed)).bind fun (x21, x23, x24, x25) => (spec_l1Cur_one (⟨x23, x24, x25⟩ : L1Cur) 20).bind fun (b51, b52) => ((bif b51 then (spec_l1Cur_among b52 ([-1, 40, 41] : List Int)).bind fun (b61, _b62) => (idx x21 0).bind fun _b63 => some ((x21.set (0 : Int).toNat b61)) else some (x21))).bind fun x53 => some (b7, x53)
noncomputable def impl_in (a0 : Int) (a1 : Int) (a2 : Int) : Option (Bool) :=
  (bif (decide (a1 ≤ a0)) then some (decide (a0 ≤ a2)) else some false)
noncomputable def slices_IndexFunc_impl_Way_l0 (a0 : List Way) (g1 : Way → Option Bool) (x : (Int)) : Option (LR (Int) (LR Unit (Int))) :=
  match x with
  | (x4) => (bif (decide (x4 < (a0.length : Int))) then (idx a0 x4).bind fun b19 => (g1 b19).bind fun b20 => (bif b20 then some (LR.done (LR.done x4)) else some (LR.next ((IntKind.i64.wrap (x4 + 1))))) else some (LR.done (LR.next ())))
noncomputable def slices_IndexFunc_impl_Way (a0 : List Way) (g1 : Way → Option Bool) : Option (Int) :=
  (whl (slices_IndexFunc_impl_Way_l0 a0 g1) (0)).bind fun y => match y with | LR.next () => some (-1) | LR.done z => some z
noncomputable def slices_ContainsFunc_impl_Way (a0 : List Way) (g1 : Way → Option Bool) : Option (Bool) :=
  (slices_IndexFunc_impl_Way a0 g1).bind fun b3 => some (decide (0 ≤ b3))
noncomputable def impl_areWays_1 (a0 : Way) : Option (Bool) :=
  (impl_in a0.Delay 0 100).bind fun b5 => (bif (!b5) then some true else (impl_in a0.Every 1 20).bind fun b6 => some (!b6))
noncomputable def impl_areWays (a0 : List Way) : Option (Bool) :=
  (impl_in (a0.length : Int) 1 4).bind fun b3 => (bif b3 then (slices_ContainsFunc_impl_Way a0 impl_areWays_1).bind fun b4 => some (!b4) else some false)
noncomputable def slices_IndexFunc_int_l0 (a0 : List Int) (g1 : Int → Option Bool) (x : (Int)) : Option (LR (Int) (LR Unit (Int))) :=
  match x with
  | (x4) => (bif (decide (x4 < (a0.length : Int))) then (idx a0 x4).bind fun b19 => (g1 b19).bind fun b20 => (bif b20 then some (LR.done (LR.done x4)) else some (LR.next ((IntKind.i64.wrap (x4 + 1))))) else some (LR.done (LR.next ())))
noncomputable def slices_IndexFunc_int (a0 : List Int) (g1 : Int → Option Bool) : Option (Int) :=
  (whl (slices_IndexFunc_int_l0 a0 g1) (0)).bind fun y => match y with | LR.next () => some (-1) | LR.done z => some z
noncomputable def slices_ContainsFunc_int (a0 : List Int) (g1 : Int → Option Bool) : Option (Bool) :=
  (slices_IndexFunc_int a0 g1).bind fun b3 => some (decide (0 ≤ b3))
noncomputable def impl_LastArrival_1 (a0 : Int) : Option (Bool) :=
  (impl_in a0 0 40).bind fun b3 => some (!b3)
noncomputable def impl_last_l0 (a0 : List Way) (a1 : List Int) (x : (Int × Int)) : Option (LR (Int × Int) (Int)) :=
  match x with
  | (x5, x6) => (bif (decide (x6 < (a0.length : Int))) then ((idx a0 x6).bind fun b25 => (idx a1 x6).bind fun b29 => ((bif (decide (0 < b29)) then (idx a1 x6).bind fun b35 => some ((if (IntKind.i64.wrap (b25.Delay + (IntKind.i64.wrap (b25.Every * (IntKind.i64.wrap (b35 - 1)))))) > x5 then (IntKind.i64.wrap (b25.Delay + (IntKind.i64.wrap (b25.Every * (IntKind.i64.wrap (b35 - 1)))))) else x5)) else some (x5))).bind fun x30 => some (x30)).bind fun x20 => some (LR.next (x20, (IntKind.i64.wrap (x6 + 1)))) else some (LR.done (x5)))
noncomputable def impl_last (a0 : List Way) (a1 : List Int) : Option (Int) :=
  (whl (impl_last_l0 a0 a1) (0, 0)).bind fun x7 => some x7
noncomputable def impl_LastArrival (a0 : List Way) (a1 : List Int) : Option (Int × Bool) :=
  ((impl_areWays a0).bind fun b9 => (bif (!b9) then some (true) else (bif ((a1.length : Int) != (a0.length : Int)) then some (true) else (slices_ContainsFunc_int a1 impl_LastArrival_1).bind fun b10 => some (b10)))).bind fun x4 => (bif x4 then some (0, false) else (impl_last a0 a1).bind fun b13 => some (b13, true))
noncomputable def spec_l1In (a0 : Int) (a1 : Int) (a2 : Int) : Option (Bool) :=
  (bif (decide (a1 ≤ a0)) then some (decide (a0 ≤ a2)) else some false)
noncomputable def spec_l14Ways_l0 (a0 : List Way) (x : (Int)) : Option (LR (Int) (LR Unit (Bool))) :=
  match x with
  | (x4) => (bif (decide (x4 < (a0.length : Int))) then (idx a0 x4).bind fun b18 => ((spec_l1In b18.Delay 0 100).bind fun b27 => (bif (!b27) then some (true) else (spec_l1In b18.Every 1 20).bind fun b28 => some ((!b28)))).bind fun x22 => (bif x22 then some (LR.done (LR.done false)) else some (LR.next ((IntKind.i64.wrap (x4 + 1))))) else some (LR.done (LR.next ())))
noncomputable def spec_l14Ways (a0 : List Way) : Option (Bool) :=
  (whl (spec_l14Ways_l0 a0) (0)).bind fun y => match y with | LR.next () => (spec_l1In (a0.length : Int) 1 4).bind fun b37 => some b37 | LR.done z => some z
noncomputable def spec_l1All_l0 (a0 : List Int) (a1 : Int) (a2 : Int) (x : (Int)) : Option (LR (Int) (LR Unit (Bool))) :=
  match x with
  | (x4) => (bif (decide (x4 < (a0.length : Int))) then (idx a0 x4).bind fun b18 => (spec_l1In b18 a1 a2).bind fun b20 => (bif (!b20) then some (LR.done (LR.done false)) else some (LR.next ((IntKind.i64.wrap (x4 + 1))))) else some (LR.done (LR.next ())))
noncomputable def spec_l1All (a0 : List Int) (a1 : Int) (a2 : Int) : Option (Bool) :=
  (whl (spec_l1All_l0 a0 a1 a2) (0)).bind fun y => match y with | LR.next () => some true | LR.done z => some z
noncomputable def spec_l1Most (a0 : Int) (a1 : Int) : Option (Int) :=
  (bif (decide (a1 < a0)) then some a0 else some a1)
noncomputable def spec_l14Last_l0 (a0 : List Way) (a1 : List Int) (x : (Int × Int)) : Option (LR (Int × Int) (Int)) :=
  match x with
  | (x5, x6) => (bif (decide (x6 < (a1.length : Int))) then ((idx a1 x6).bind fun b25 => ((bif (decide (0 < b25)) then (idx a0 x6).bind fun b32 => (idx a0 x6).bind fun b33 => (spec_l1Most x5 (IntKind.i64.wrap (b32.Delay + (IntKind.i64.wrap ((IntKind.i64.wrap (b25 - 1)) * b33.Every))))).bind fun b34 => some (b34) else some (x5))).bind fun x27 => some (x27)).bind fun x20 => some (LR.next (x20, (IntKind.i64.wrap (x6 + 1)))) else some (LR.done (x5)))
noncomputable def spec_l14Last (a0 : List Way) (a1 : List Int) : Option (Int) :=
  (whl (spec_l14Last_l0 a0 a1) (0, 0)).bind fun x7 => some x7
noncomputable def spec_LastArrival (a0 : List Way) (a1 : List Int) : Option (Int × Bool) :=
  ((spec_l14Ways a0).bind fun b9 => (bif (!b9) then some (true) else (bif ((a1.length : Int) != (a0.length : Int)) then some (true) else (spec_l1All a1 0 40).bind fun b10 => some ((!b10))))).bind fun x4 => (bif x4 then some (0, false) else (spec_l14Last a0 a1).bind fun b13 => some (b13, true))
noncomputable def laws_sumOf_l0 (a0 : List Int) (x : (Int × Int)) : Option (LR (Int × Int) (Int)) :=
  match x with
  | (x5, x6) => (bif (decide (x6 < (a0.length : Int))) then (idx a0 x6).bind fun b21 => some (LR.next ((IntKind.i64.wrap (x5 + b21)), (IntKind.i64.wrap (x6 + 1)))) else some (LR.done (x5)))
noncomputable def laws_sumOf (a0 : List Int) : Option (Int) :=
  (whl (laws_sumOf_l0 a0) (0, 0)).bind fun x7 => some x7
noncomputable def impl_ArriveAll_1 (a0 : Int) (a1 : List Way) (a2 : List Int) : Option (Int) :=
  (idx a1 a0).bind fun b3 => (idx a1 a0).bind fun b4 => (idx a2 a0).bind fun b5 => some (IntKind.i64.wrap (b3.Delay + (IntKind.i64.wrap (b4.Every * b5))))
noncomputable def impl_ArriveAll_l0 (a0 : List Way) (x23 : List Int) (x : (Int × Int)) : Option (LR (Int × Int) (Int)) :=
  match x with
  | (x41, x42) => (bif (decide (x42 < (a0.length : Int))) then ((impl_ArriveAll_1 x42 a0 x23).bind fun b62 => (impl_ArriveAll_1 x41 a0 x23).bind fun b63 => ((bif (decide (b62 < b63)) then some (x42) else some (x41))).bind fun x64 => some (x64)).bind fun x56 => some (LR.next (x56, (IntKind.i64.wrap (x42 + 1)))) else some (LR.done (x41)))
noncomputable def impl_ArriveAll_l1 (a0 : List Way) (a1 : Int) (x : (Int × (List Int))) : Option (LR (Int × (List Int)) ((List Int))) :=
  match x with
  | (x22, x23) => (bif (decide (x22 < a1)) then (whl (impl_ArriveAll_l0 a0 x23) (0, 0)).bind fun x43 => (idx x23 x43).bind fun b71 => (idx x23 x43).bind fun _b73 => some (LR.next ((IntKind.i64.wrap (x22 + 1)), (x23.set x43.toNat (IntKind.i64.wrap (b71 + 1))))) else some (LR.done (x23)))
noncomputable def impl_ArriveAll (a0 : List Way) (a1 : Int) : Option (List Int × Int × Bool) :=
  ((impl_areWays a0).bind fun b11 => (bif (!b11) then some (true) else (impl_in a1 0 40).bind fun b12 => some ((!b12)))).bind fun x6 => (bif x6 then some ([], 0, false) else (mkL 8 (a0.length : Int) (0 : Int)).bind fun x17 => (whl (impl_ArriveAll_l1 a0 a1) (0, x17)).bind fun x24 => (impl_last a0 x24).bind fun b78 => some (x24, b78, true))
noncomputable def spec_DrawArriveAll (a0 : List Int) : Option (List Way × Int) :=
  (spec_l1Cur_ways (⟨a0, 0, 0⟩ : L1Cur)).bind fun (b7, b8) => (spec_l1Cur_among b8 ([-1, 0, 1, 5, 12, 40, 41] : List Int)).bind fun (b14, _b15) => some (b7, b14)
noncomputable def spec_l14Arrive_l0 (a0 : List Way) (x8 : List Int) (x : (Int × Int)) : Option (LR (Int × Int) (Int)) :=
  match x with
  | (x25, x26) => (bif (decide (x26 < (a0.length : Int))) then ((idx a0 x26).bind fun b45 => (idx a0 x25).bind fun b49 => (idx x8 x26).bind fun b53 => (idx x8 x25).bind fun b55 => ((bif (decide ((IntKind.i64.wrap (b45.Delay + (IntKind.i64.wrap (b53 * b45.Every)))) < (IntKind.i64.wrap (b49.Delay + (IntKind.i64.wrap (b55 * b49.Every)))))) then some (x26) else some (x25))).bind fun x57 => some (x57)).bind fun x40 => some (LR.next (x40, (IntKind.i64.wrap (x26 + 1)))) else some (LR.done (x25)))
noncomputable def spec_l14Arrive_l1 (a0 : List Way) (x : (Int × (List Int))) : Option (LR (Int × (List Int)) ((List Int))) :=
  match x with
  | (x7, x8) => (bif (decide (0 < x7)) then (whl (spec_l14Arrive_l0 a0 x8) (0, 0)).bind fun x27 => (idx x8 x27).bind fun b64 => (idx x8 x27).bind fun _b66 => some (LR.next ((IntKind.i64.wrap (x7 - 1)), (x8.set x27.toNat (IntKind.i64.wrap (b64 + 1))))) else some (LR.done (x8)))
noncomputable def spec_l14Arrive (a0 : List Way) (a1 : Int) : Option (List Int) :=
  (mkL 8 (a0.length : Int) (0 : Int)).bind fun x5 => (whl (spec_l14Arrive_l1 a0) (a1, x5)).bind fun x9 => some x9
noncomputable def spec_ArriveAll (a0 : List Way) (a1 : Int) : Option (List Int × Int × Bool) :=
  ((spec_l14Ways a0).bind fun b9 => (bif (!b9) then some (true) else (spec_l1In a1 0 40).bind fun b10 => some ((!b10)))).bind fun x4 => (bif x4 then some ([], 0, false) else (spec_l14Arrive a0 a1).bind fun b13 => (spec_l14Last a0 b13).bind fun b17 => some (b13, b17, true))
noncomputable def laws_sameInts_l0 (a0 : List Int) (a1 : List Int) (x : (Int)) : Option (LR (Int) (LR Unit (Bool))) :=
  match x with
  | (x7) => (bif (decide (x7 < (a0.length : Int))) then (idx a0 x7).bind fun b22 => (idx a1 x7).bind fun b23 => (bif (b22 != b23) then some (LR.done (LR.done false)) else some (LR.next ((IntKind.i64.wrap (x7 + 1))))) else some (LR.done (LR.next ())))
noncomputable def laws_sameInts (a0 : List Int) (a1 : List Int) : Option (Bool) :=
  (bif ((a0.length : Int) != (a1.length : Int)) then some false else (whl (laws_sameInts_l0 a0 a1) (0)).bind fun y => match y with | LR.next () => some true | LR.done z => some z)
noncomputable def laws_FnWays_l0 (b73 : List Int) (b109 : List Int) (x : (Int)) : Option (LR (Int) (LR Unit (LR Unit (Bool)))) :=
  match x with
  | (x126) => (bif (decide (x126 < (b73.length : Int))) then (idx b109 x126).bind fun b141 => (idx b73 x126).bind fun b143 => (bif (decide (b141 < b143)) then some (LR.done (LR.done (LR.done false))) else some (LR.next ((IntKind.i64.wrap (x126 + 1))))) else some (LR.done (LR.next ())))
noncomputable def laws_FnWays (a0 : List Int) (a1 : List Int) : Option (Bool) :=
  (bif (decide (1048576 < (IntKind.i64.wrap ((a0.length : Int) + (a1.length : Int))))) then some true else (spec_DrawLastArrival a0).bind fun (b7, b8) => (impl_LastArrival b7 b8).bind fun (b15, b16) => (spec_LastArrival b7 b8).bind fun (b19, b20) => ((bif (!(b16 == b20)) then some (true) else some ((b15 != b19)))).bind fun x23 => (bif x23 then some false else ((bif b16 then (laws_sumOf b8).bind fun b36 => some ((decide (b36 ≤ 40))) else some (false))).bind fun x31 => ((bif x31 then (laws_sumOf b8).bind fun b42 => (impl_ArriveAll b7 b42).bind fun (b44, b45, b46) => (impl_LastArrival b7 b44).bind fun (b52, b53) => ((bif (!b46) then some (true) else (laws_sumOf b44).bind fun b60 => (laws_sumOf b8).bind fun b61 => (bif (b60 != b61) then some (true) else (bif (decide (b15 < b45)) then some (true) else (bif (!b53) then some (true) else some ((b52 != b45))))))).bind fun x55 => (bif x55 then some (LR.done false) else some (LR.next ())) else some (LR.next ()))).bind fun y => match y with | LR.next () => ((spec_DrawArriveAll a1).bind fun (b67, b68) => (impl_ArriveAll b67 b68).bind fun (b73, b74, b75) => (spec_ArriveAll b67 b68).bind fun (b81, b82, b83) => ((bif (!(b75 == b83)) then some (true) else (bif (b74 != b82) then some (true) else (laws_sameInts b73 b81).bind fun b94 => some ((!b94))))).bind fun x89 => (bif x89 then some false else ((bif b75 then some ((decide (b68 < 40))) else some (false))).bind fun x98 => ((bif x98 then (impl_ArriveAll b67 (IntKind.i64.wrap (b68 + 1))).bind fun (b109, b110, b111) => ((bif (!b111) then some (true) else some ((decide (b110 < b74))))).bind fun x117 => (bif x117 then some (LR.done false) else (whl (laws_FnWays_l0 b73 b109) (0)).bind fun y => match y with | LR.next () => some (LR.next ()) | LR.done z => some z) else some (LR.next ()))).bind fun y => match y with | LR.next () => some true | LR.done z => some z)) | LR.done z => some z))
noncomputable def spec_l1Cur_rate (a0 : L1Cur) : Option (Int × Int × L1Cur) :=
  (spec_l1Cur_one a0 12).bind fun (b5, b6) => (bif b5 then (spec_l1Cur_among b6 ([0, 1, 20, 21] : List Int)).bind fun (b11, b12) => (spec_l1Cur_among b12 ([0, 1, 60, 61] : List Int)).bind fun (b16, b17) => some (b11, b16, b17) else (spec_l1Cur_pick b6 8).bind fun (b20, b21) => (spec_l1Cur_pick b21 30).bind fun (b23, b24) => some ((IntKind.i64.wrap (1 + b20)), (IntKind.i64.wrap (1 + b23)), b24))
noncomputable def spec_l1Cur_flow_l0 (x : ((List Int) × Int × (List Int) × Int × Int)) : Option (LR ((List Int) × Int × (List Int) × Int × Int) ((List Int) × (List Int) × Int × Int)) :=
  match x with
  | (x24, x27, x28, x29, x30) => (bif (decide (0 < x27)) then (spec_l1Cur_among (⟨x28, x29, x30⟩ : L1Cur) ([0, 0, 1, 3, 5, 10, 30] : List Int)).bind fun (b51, b52) => (app 8 x24 ([b51] : List Int)).bind fun x55 => some (LR.next (x55, (IntKind.i64.wrap (x27 - 1)), b52.Code, b52.At, b52.Seed)) else some (LR.done (x24, x28, x29, x30)))
noncomputable def spec_l1Cur_flow (a0 : L1Cur) : Option (List Int × L1Cur) :=
  (spec_l1Cur_pick a0 14).bind fun (b5, b6) => (spec_l1Cur_one b6 20).bind fun (b10, b11) => ((bif b10 then (spec_l1Cur_pick b11 3).bind fun (b21, b22) => some ((IntKind.i64.wrap (39 + b21)), b22.Code, b22.At, b22.Seed) else some (b5, b11.Code, b11.At, b11.Seed))).bind fun (x12, x13, x14, x15) => (whl (spec_l1Cur_flow_l0) ([], x12, x13, x14, x15)).bind fun (x31, x33, x34, x35) => ((bif (decide (0 < (x31.length : Int))) then (spec_l1Cur_one (⟨x33, x34, x35⟩ : L1Cur) 30).bind fun (b71, b72) => some (b71, b72.Code, b72.At, b72.Seed) else some (false, x33, x34, x35))).bind fun (x62, x63, x64, x65) => ((bif x62 then (spec_l1Cur_among (⟨x63, x64, x65⟩ : L1Cur) ([-1, 60, 61] : List Int)).bind fun (b84, b85) => (idx x31 0).bind fun _b86 => some ((x31.set (0 : Int).toNat b84), b85.Code, b85.At, b85.Seed) else some (x31, x63, x64, x65))).bind fun (x73, x74, x75, x76) => some (x73, (⟨x74, x75, x76⟩ : L1Cur))
noncomputable def spec_DrawShapeFlow (a0 : List Int) : Option (Int × Int × List Int) :=
  (spec_l1Cur_rate (⟨a0, 0, 0⟩ : L1Cur)).bind fun (b7, b8, b9) => (spec_l1Cur_flow b9).bind fun (b12, _b13) => some (b7, b8, b12)
noncomputable def impl_isRate (a0 : Int) (a1 : Int) : Option (Bool) :=
  (impl_in a0 1 20).bind fun b3 => (bif b3 then (impl_in a1 1 60).bind fun b4 => some b4 else some false)
noncomputable def impl_NewBucket (a0 : Int) (a1 : Int) : Option (Bucket × Bool) :=
  (impl_isRate a0 a1).bind fun b6 => (bif (!b6) then some ((⟨0, 0, 0⟩ : Bucket), false) else some ((⟨a0, a1, a1⟩ : Bucket), true))
noncomputable def impl_isFlow_1 (a0 : Int) : Option (Bool) :=
  (impl_in a0 0 60).bind fun b3 => some (!b3)
noncomputable def impl_isFlow (a0 : List Int) : Option (Bool) :=
  (bif (decide ((a0.length : Int) ≤ 40)) then (slices_ContainsFunc_int a0 impl_isFlow_1).bind fun b3 => some (!b3) else some false)
noncomputable def impl_GoodBucket (a0 : Bucket) : Option (Bool) :=
  (impl_isRate a0.Rate a0.Depth).bind fun b5 => (bif b5 then (impl_in a0.Has 0 a0.Depth).bind fun b6 => some b6 else some false)
noncomputable def impl_TickBucket (a0 : Bucket) : Option (Bucket × Bool) :=
  (impl_GoodBucket a0).bind fun b8 => (bif (!b8) then some ((⟨0, 0, 0⟩ : Bucket), false) else some ((⟨a0.Rate, a0.Depth, (if a0.Depth < (IntKind.i64.wrap (a0.Has + a0.Rate)) then a0.Depth else (IntKind.i64.wrap (a0.Has + a0.Rate)))⟩ : Bucket), true))
noncomputable def impl_ShapeFlow_1 (a0 : Int) (a1 : Int) (a2 : Bucket) : Option (Int × Bucket) :=
  ((bif (decide (0 < a0)) then (impl_TickBucket a2).bind fun (b12, _b13) => some (b12.Rate, b12.Depth, b12.Has) else some (a2.Rate, a2.Depth, a2.Has))).bind fun (x4, x5, x6) => some ((if x6 < a1 then x6 else a1), (⟨x4, x5, (IntKind.i64.wrap (x6 - (if x6 < a1 then x6 else a1)))⟩ : Bucket))
noncomputable def impl_serve__impl_ShapeFlow_1_l0 (a0 : List Int) (x : ((List Int) × (List Int) × Int × Int × Int × Int × Int)) : Option (LR ((List Int) × (List Int) × Int × Int × Int × Int × Int) ((List Int) × (List Int) × Int × Int × Int)) :=
  match x with
  | (x5, x8, x11, x12, x13, x14, x15) => (bif (decide (x12 < (a0.length : Int))) then (idx a0 x12).bind fun b36 => (impl_ShapeFlow_1 x12 (IntKind.i64.wrap (x11 + b36)) (⟨x13, x14, x15⟩ : Bucket)).bind fun (b40, b41) => (app 8 x5 ([b40] : List Int)).bind fun x45 => (app 8 x8 ([(IntKind.i64.wrap ((IntKind.i64.wrap (x11 + b36)) - b40))] : List Int)).bind fun x50 => some (LR.next (x45, x50, (IntKind.i64.wrap ((IntKind.i64.wrap (x11 + b36)) - b40)), (IntKind.i64.wrap (x12 + 1)), b41.Rate, b41.Depth, b41.Has)) else some (LR.done (x5, x8, x13, x14, x15)))
noncomputable def impl_serve__impl_ShapeFlow_1 (a0 : List Int) (a2 : Bucket) : Option (List Int × List Int × Bool × Bucket) :=
  (whl (impl_serve__impl_ShapeFlow_1_l0 a0) ([], [], 0, 0, a2.Rate, a2.Depth, a2.Has)).bind fun (x16, x18, x20, x21, x22) => some (x16, x18, true, (⟨x20, x21, x22⟩ : Bucket))
noncomputable def impl_ShapeFlow (a0 : Int) (a1 : Int) (a2 : List Int) : Option (List Int × List Int × Bool) :=
  (impl_NewBucket a0 a1).bind fun (b4, b5) => ((bif (!b5) then some (true) else (impl_isFlow a2).bind fun b15 => some ((!b15)))).bind fun x10 => (bif x10 then some ([], [], false) else (impl_serve__impl_ShapeFlow_1 a2 b4).bind fun (b19, b20, b21, _b22) => some (b19, b20, b21))
noncomputable def spec_l7Rate (a0 : Int) (a1 : Int) : Option (Bool) :=
  (spec_l1In a0 1 20).bind fun b3 => (bif b3 then (spec_l1In a1 1 60).bind fun b4 => some b4 else some false)
noncomputable def spec_NewBucket (a0 : Int) (a1 : Int) : Option (Bucket × Bool) :=
  (spec_l7Rate a0 a1).bind fun b6 => (bif (!b6) then some ((⟨0, 0, 0⟩ : Bucket), false) else some ((⟨a0, a1, a1⟩ : Bucket), true))
noncomputable def spec_l7Flow (a0 : List Int) : Option (Bool) :=
  (bif (decide ((a0.length : Int) ≤ 40)) then (spec_l1All a0 0 60).bind fun b3 => some b3 else some false)
noncomputable def spec_l1Least (a0 : Int) (a1 : Int) : Option (Int) :=
  (bif (decide (a0 < a1)) then some a0 else some a1)
noncomputable def spec_l7Tick (a0 : Bucket) : Option (Bucket) :=
  (spec_l1Least a0.Depth (IntKind.i64.wrap (a0.Has + a0.Rate))).bind fun b7 => some (⟨a0.Rate, a0.Depth, b7⟩ : Bucket)
noncomputable def spec_ShapeFlow_l0 (a2 : List Int) (x : ((List Int) × (List Int) × Int × Int × Int × Int × Int)) : Option (LR ((List Int) × (List Int) × Int × Int × Int × Int × Int) ((List Int) × (List Int))) :=
  match x with
  | (x21, x24, x27, x28, x29, x30, x31) => (bif (decide (x28 < (a2.length : Int))) then (idx a2 x28).bind fun b49 => ((bif (decide (0 < x28)) then (spec_l7Tick (⟨x29, x30, x31⟩ : Bucket)).bind fun b59 => some (b59.Rate, b59.Depth, b59.Has) else some (x29, x30, x31))).bind fun (x52, x53, x54) => (spec_l1Least (IntKind.i64.wrap (x27 + b49)) x54).bind fun b62 => (app 8 x21 ([b62] : List Int)).bind fun x68 => (app 8 x24 ([(IntKind.i64.wrap ((IntKind.i64.wrap (x27 + b49)) - b62))] : List Int)).bind fun x73 => some (LR.next (x68, x73, (IntKind.i64.wrap ((IntKind.i64.wrap (x27 + b49)) - b62)), (IntKind.i64.wrap (x28 + 1)), x52, x53, (IntKind.i64.wrap (x54 - b62)))) else some (LR.done (x21, x24)))
noncomputable def spec_ShapeFlow (a0 : Int) (a1 : Int) (a2 : List Int) : Option (List Int × List Int × Bool) :=
  (spec_NewBucket a0 a1).bind fun (b4, b5) => ((bif (!b5) then some (true) else (spec_l7Flow a2).bind fun b15 => some ((!b15)))).bind fun x10 => (bif x10 then some ([], [], false) else (whl (spec_ShapeFlow_l0 a2) ([], [], 0, 0, b4.Rate, b4.Depth, b4.Has)).bind fun (x32, x34) => some (x32, x34, true))
noncomputable def impl_Conforms_l0 (a0 : Int) (a1 : Int) (x30 : List Int) (x : (Int × Int)) : Option (LR (Int × Int) (LR Unit (LR (Int) (LR Unit (Bool × Bool))))) :=
  match x with
  | (x31, x32) => (bif (decide (x32 < (x30.length : Int))) then (idx x30 x32).bind fun b46 => (bif (decide ((IntKind.i64.wrap (a1 + (IntKind.i64.wrap (a0 * x32)))) < (IntKind.i64.wrap (x31 + b46)))) then some (LR.done (LR.done (LR.done (LR.done (false, true))))) else some (LR.next ((IntKind.i64.wrap (x31 + b46)), (IntKind.i64.wrap (x32 + 1))))) else some (LR.done (LR.next ())))
noncomputable def impl_Conforms_l1 (a0 : Int) (a1 : Int) (a2 : List Int) (x : (Int)) : Option (LR (Int) (LR Unit (Bool × Bool))) :=
  match x with
  | (x14) => (bif (decide (x14 < (a2.length : Int))) then (slc a2 x14 (a2.length : Int)).bind fun x30 => (whl (impl_Conforms_l0 a0 a1 x30) (0, 0)).bind fun y => match y with | LR.next () => some (LR.next ((IntKind.i64.wrap (x14 + 1)))) | LR.done z => some z else some (LR.done (LR.next ())))
noncomputable def impl_Conforms (a0 : Int) (a1 : Int) (a2 : List Int) : Option (Bool × Bool) :=
  ((impl_isRate a0 a1).bind fun b9 => (bif (!b9) then some (true) else (impl_isFlow a2).bind fun b10 => some ((!b10)))).bind fun x4 => (bif x4 then some (false, false) else (whl (impl_Conforms_l1 a0 a1 a2) (0)).bind fun y => match y with | LR.next () => some (true, true) | LR.done z => some z)
noncomputable def spec_Conforms_l0 (a0 : Int) (a1 : Int) (a2 : List Int) (x14 : Int) (x : (Int × Int)) : Option (LR (Int × Int) (LR Unit (LR (Int) (LR Unit (Bool × Bool))))) :=
  match x with
  | (x30, x31) => (bif (decide (x31 < (a2.length : Int))) then (idx a2 x31).bind fun b45 => (bif (decide ((IntKind.i64.wrap (a1 + (IntKind.i64.wrap (a0 * (IntKind.i64.wrap (x31 - x14)))))) < (IntKind.i64.wrap (x30 + b45)))) then some (LR.done (LR.done (LR.done (LR.done (false, true))))) else some (LR.next ((IntKind.i64.wrap (x30 + b45)), (IntKind.i64.wrap (x31 + 1))))) else some (LR.done (LR.next ())))
noncomputable def spec_Conforms_l1 (a0 : Int) (a1 : Int) (a2 : List Int) (x : (Int)) : Option (LR (Int) (LR Unit (Bool × Bool))) :=
  match x with
  | (x14) => (bif (decide (x14 < (a2.length : Int))) then (whl (spec_Conforms_l0 a0 a1 a2 x14) (0, x14)).bind fun y => match y with | LR.next () => some (LR.next ((IntKind.i64.wrap (x14 + 1)))) | LR.done z => some z else some (LR.done (LR.next ())))
noncomputable def spec_Conforms (a0 : Int) (a1 : Int) (a2 : List Int) : Option (Bool × Bool) :=
  ((spec_l7Rate a0 a1).bind fun b9 => (bif (!b9) then some (true) else (spec_l7Flow a2).bind fun b10 => some ((!b10)))).bind fun x4 => (bif x4 then some (false, false) else (whl (spec_Conforms_l1 a0 a1 a2) (0)).bind fun y => match y with | LR.next () => some (true, true) | LR.done z => some z)
noncomputable def spec_l1Cur_bucket (a0 : L1Cur) : Option (Bucket × L1Cur) :=
  (spec_l1Cur_rate a0).bind fun (b6, b7, b8) => (spec_l1Cur_pick b8 30).bind fun (b11, b12) => ((bif (decide (b7 < b11)) then (spec_l1Cur_one b12 12).bind fun (b26, b27) => some ((!b26), b27.Code, b27.At, b27.Seed) else some (false, b12.Code, b12.At, b12.Seed))).bind fun (x17, x18, x19, x20) => ((bif x17 then some (b7) else some (b11))).bind fun x28 => some ((⟨b6, b7, x28⟩ : Bucket), (⟨x18, x19, x20⟩ : L1Cur))
noncomputable def spec_DrawGoodBucket (a0 : List Int) : Option (Bucket) :=
  (spec_l1Cur_bucket (⟨a0, 0, 0⟩ : L1Cur)).bind fun (b9, _b10) => some b9
noncomputable def spec_DrawTickBucket (a0 : List Int) : Option (Bucket) :=
  (spec_DrawGoodBucket a0).bind fun b5 => some b5
noncomputable def spec_GoodBucket (a0 : Bucket) : Option (Bool) :=
  (spec_l7Rate a0.Rate a0.Depth).bind fun b5 => (bif b5 then (spec_l1In a0.Has 0 a0.Depth).bind fun b6 => some b6 else some false)
noncomputable def spec_TickBucket (a0 : Bucket) : Option (Bucket × Bool) :=
  (spec_GoodBucket a0).bind fun b8 => (bif (!b8) then some ((⟨0, 0, 0⟩ : Bucket), false) else (spec_l7Tick a0).bind fun b11 => some (b11, true))
noncomputable def spec_DrawTakeBucket (a0 : List Int) : Option (Bucket × Int) :=
  (spec_l1Cur_bucket (⟨a0, 0, 0⟩ : L1Cur)).bind fun (b9, b10) => (spec_l1Cur_pick b10 (IntKind.i64.wrap (b9.Depth + 3))).bind fun (b15, _b16) => some (b9, (IntKind.i64.wrap (b15 - 1)))
noncomputable def impl_TakeBucket (a0 : Bucket) (a1 : Int) : Option (Bucket × Bool) :=
  ((impl_GoodBucket a0).bind fun b13 => (bif (!b13) then some (true) else (impl_in a1 0 60).bind fun b14 => (bif (!b14) then some (true) else some ((decide (a0.Has < a1)))))).bind fun x8 => (bif x8 then some ((⟨0, 0, 0⟩ : Bucket), false) else some ((⟨a0.Rate, a0.Depth, (IntKind.i64.wrap (a0.Has - a1))⟩ : Bucket), true))
noncomputable def spec_TakeBucket (a0 : Bucket) (a1 : Int) : Option (Bucket × Bool) :=
  ((spec_GoodBucket a0).bind fun b13 => (bif (!b13) then some (true) else (spec_l1In a1 0 a0.Has).bind fun b14 => some ((!b14)))).bind fun x8 => (bif x8 then some ((⟨0, 0, 0⟩ : Bucket), false) else some ((⟨a0.Rate, a0.Depth, (IntKind.i64.wrap (a0.Has - a1))⟩ : Bucket), true))
noncomputable def spec_DrawNewBucket (a0 : List Int) : Option (Int × Int) :=
  (spec_l1Cur_rate (⟨a0, 0, 0⟩ : L1Cur)).bind fun (b7, b8, _b9) => some (b7, b8)
noncomputable def laws_FnShaped (a0 : List Int) (a1 : List Int) : Option (Bool) :=
  (bif (decide (1048576 < (IntKind.i64.wrap ((a0.length : Int) + (a1.length : Int))))) then some true else (spec_DrawShapeFlow a0).bind fun (b7, b8, b9) => (impl_ShapeFlow b7 b8 b9).bind fun (b14, b15, b16) => (spec_ShapeFlow b7 b8 b9).bind fun (b25, b26, b27) => (impl_Conforms b7 b8 b9).bind fun (b36, b37) => (spec_Conforms b7 b8 b9).bind fun (b40, b41) => ((bif (!(b16 == b27)) then some (true) else (laws_sameInts b14 b25).bind fun b49 => (bif (!b49) then some (true) else (laws_sameInts b15 b26).bind fun b50 => (bif (!b50) then some (true) else (bif (!(b37 == b41)) then some (true) else some ((!(b36 == b40)))))))).bind fun x44 => (bif x44 then some false else ((bif b16 then (impl_Conforms b7 b8 b14).bind fun (b60, b61) => ((bif (!b37) then some (true) else (bif (!b61) then some (true) else (bif (!b60) then some (true) else (laws_sameInts b14 b9).bind fun b69 => some ((!(b36 == b69))))))).bind fun x64 => (bif x64 then some (LR.done false) else ((bif (decide (0 < (b9.length : Int))) then (laws_sumOf b14).bind fun b79 => (idx b15 (IntKind.i64.wrap ((b15.length : Int) - 1))).bind fun b80 => (laws_sumOf b9).bind fun b82 => some (((IntKind.i64.wrap (b79 + b80)) != b82)) else some (false))).bind fun x74 => (bif x74 then some (LR.done false) else some (LR.next ()))) else some (LR.next ()))).bind fun y => match y with | LR.next () => (spec_DrawTickBucket a1).bind fun b87 => (impl_TickBucket b87).bind fun (b92, b93) => (spec_TickBucket b87).bind fun (b98, b99) => (spec_DrawTakeBucket a1).bind fun (b104, b105) => (impl_TakeBucket b104 b105).bind fun (b110, b111) => (spec_TakeBucket b104 b105).bind fun (b116, b117) => (spec_DrawNewBucket a1).bind fun (b122, b123) => (impl_NewBucket b122 b123).bind fun (b126, b127) => (spec_NewBucket b122 b123).bind fun (b132, b133) => ((bif (!(b93 == b99)) then some (true) else (bif (!((b92.Rate == b98.Rate) && ((b92.Depth == b98.Depth) && ((b92.Has == b98.Has) && true)))) then some (true) else (bif (!(b111 == b117)) then some (true) else (bif (!((b110.Rate == b116.Rate) && ((b110.Depth == b116.Depth) && ((b110.Has == b116.Has) && true)))) then some (true) else (bif (!(b127 == b133)) then some (true) else (bif (!((b126.Rate == b132.Rate) && ((b126.Depth == b132.Depth) && ((b126.Has == b132.Has) && true)))) then some (true) else (impl_GoodBucket b87).bind fun b143 => some ((!(b143 == b99)))))))))).bind fun x138 => (bif x138 then some false else (bif (!b93) then (bif (!b111) then (bif (!b127) then some true else (impl_GoodBucket b126).bind fun b146 => (bif b146 then some (b126.Has == b123) else some false)) else (impl_GoodBucket b110).bind fun b147 => (bif b147 then (bif ((IntKind.i64.wrap (b110.Has + b105)) == b104.Has) then (bif (!b127) then some true else (impl_GoodBucket b126).bind fun b148 => (bif b148 then some (b126.Has == b123) else some false)) else some false) else some false)) else (impl_GoodBucket b92).bind fun b149 => (bif b149 then (bif (!b111) then (bif (!b127) then some true else (impl_GoodBucket b126).bind fun b150 => (bif b150 then some (b126.Has == b123) else some false)) else (impl_GoodBucket b110).bind fun b151 => (bif b151 then (bif ((IntKind.i64.wrap (b110.Has + b105)) == b104.Has) then (bif (!b127) then some true else (impl_GoodBucket b126).bind fun b152 => (bif b152 then some (b126.Has == b123) else some false)) else some false) else some false)) else some false))) | LR.done z => some z))
noncomputable def spec_l1Cur_shares_l0 (x : (Int × (List Int) × Int × Int × (List Int))) : Option (LR (Int × (List Int) × Int × Int × (List Int)) ((List Int) × Int × Int × (List Int))) :=
  match x with
  | (x15, x16, x17, x18, x19) => (bif (decide (0 < x15)) then (spec_l1Cur_pick (⟨x16, x17, x18⟩ : L1Cur) 100).bind fun (b40, b41) => (app 8 x19 ([(IntKind.i64.wrap (1 + b40))] : List Int)).bind fun x44 => some (LR.next ((IntKind.i64.wrap (x15 - 1)), b41.Code, b41.At, b41.Seed, x44)) else some (LR.done (x16, x17, x18, x19)))
noncomputable def spec_l1Cur_shares (a0 : L1Cur) : Option (Shares × L1Cur) :=
  (spec_l1Cur_pick a0 200).bind fun (b6, b7) => (spec_l1Cur_pick b7 4).bind fun (b13, b14) => (whl (spec_l1Cur_shares_l0) ((IntKind.i64.wrap (1 + b13)), b14.Code, b14.At, b14.Seed, [])).bind fun (x22, x23, x24, x25) => (spec_l1Cur_pick (⟨x22, x23, x24⟩ : L1Cur) 30).bind fun (b52, b53) => (((bif (b52 == 0) then (spec_l1Cur_among b53 ([0, 10000, 10001] : List Int)).bind fun (b76, b77) => (idx x25 0).bind fun _b78 => some (b77.Code, b77.At, b77.Seed, (x25.set (0 : Int).toNat b76), (IntKind.i64.wrap (1 + b6))) else ((bif (b52 == 1) then (spec_l1Cur_among b53 ([0, 40000, 40001] : List Int)).bind fun (b92, b93) => some (b93.Code, b93.At, b93.Seed, b92) else some (b53.Code, b53.At, b53.Seed, (IntKind.i64.wrap (1 + b6))))).bind fun (x81, x82, x83, x84) => some (x81, x82, x83, x25, x84))).bind fun (x64, x65, x66, x67, x68) => some (x64, x65, x66, x67, x68)).bind fun (x55, x56, x57, x58, x59) => some ((⟨x58, x59⟩ : Shares), (⟨x55, x56, x57⟩ : L1Cur))
noncomputable def spec_DrawRoundsOf (a0 : List Int) : Option (Shares × Int) :=
  (spec_l1Cur_shares (⟨a0, 0, 0⟩ : L1Cur)).bind fun (b9, b10) => (spec_l1Cur_among b10 ([-1, 0, 1, 5, 20, 40, 41] : List Int)).bind fun (b14, _b15) => some (b9, b14)
noncomputable def impl_GoodShares_1 (a0 : Int) : Option (Bool) :=
  (impl_in a0 1 10000).bind fun b3 => some (!b3)
noncomputable def impl_GoodShares (a0 : Shares) : Option (Bool) :=
  (impl_in (a0.Wins.length : Int) 1 5).bind fun b5 => (bif b5 then (slices_ContainsFunc_int a0.Wins impl_GoodShares_1).bind fun b6 => (bif (!b6) then (impl_in a0.Room 1 40000).bind fun b7 => some b7 else some false) else some false)
noncomputable def slices_Clone_int (a0 : List Int) : Option (List Int) :=
  app 8 [] a0
noncomputable def impl_sum_l0 (a0 : List Int) (x : (Int × Int)) : Option (LR (Int × Int) (Int)) :=
  match x with
  | (x5, x6) => (bif (decide (x6 < (a0.length : Int))) then (idx a0 x6).bind fun b21 => some (LR.next ((IntKind.i64.wrap (x5 + b21)), (IntKind.i64.wrap (x6 + 1)))) else some (LR.done (x5)))
noncomputable def impl_sum (a0 : List Int) : Option (Int) :=
  (whl (impl_sum_l0 a0) (0, 0)).bind fun x7 => some x7
noncomputable def impl_Shares_changed_l0 (a0 : Shares) (g1 : Int → Option Int) (x : (Int × (List Int))) : Option (LR (Int × (List Int)) ((List Int))) :=
  match x with
  | (x11, x12) => (bif (decide (x11 < (a0.Wins.length : Int))) then (idx a0.Wins x11).bind fun b30 => (g1 b30).bind fun b31 => (app 8 x12 ([b31] : List Int)).bind fun x34 => some (LR.next ((IntKind.i64.wrap (x11 + 1)), x34)) else some (LR.done (x12)))
noncomputable def impl_Shares_changed (a0 : Shares) (g1 : Int → Option Int) : Option (Shares × Bool) :=
  (whl (impl_Shares_changed_l0 a0 g1) (0, [])).bind fun x15 => ((impl_GoodShares a0).bind fun b46 => (bif (!b46) then some (true) else (impl_GoodShares (⟨x15, a0.Room⟩ : Shares)).bind fun b47 => some ((!b47)))).bind fun x41 => (bif x41 then some ((⟨[], 0⟩ : Shares), false) else some ((⟨x15, a0.Room⟩ : Shares), true))
noncomputable def impl_HalveAll_1 (a0 : Int) : Option (Int) :=
  some (if 1 > (IntKind.i64.wrap (Int.tdiv a0 2)) then 1 else (IntKind.i64.wrap (Int.tdiv a0 2)))
noncomputable def impl_HalveAll (a0 : Shares) : Option (Shares × Bool) :=
  (impl_Shares_changed a0 impl_HalveAll_1).bind fun (b8, b9) => some (b8, b9)
noncomputable def impl_GrowAll_1 (a0 : Int) : Option (Int) :=
  some (IntKind.i64.wrap (a0 + 1))
noncomputable def impl_GrowAll (a0 : Shares) : Option (Shares × Bool) :=
  (impl_Shares_changed a0 impl_GrowAll_1).bind fun (b8, b9) => some (b8, b9)
noncomputable def impl_RoundOf (a0 : Shares) : Option (Shares × Bool × Bool) :=
  ((impl_GoodShares a0).bind fun b13 => (bif b13 then (impl_sum a0.Wins).bind fun b14 => some ((decide (a0.Room < b14))) else some (false))).bind fun x8 => (bif x8 then (impl_HalveAll a0).bind fun (b17, b18) => some (b17, b18, b18) else (impl_GrowAll a0).bind fun (b26, b27) => some (b26, false, b27))
noncomputable def impl_RoundsOf_l0 (a1 : Int) (x : (Int × Int × (List Int) × Int)) : Option (LR (Int × Int × (List Int) × Int) (LR (Int × (List Int) × Int) (Shares × Int × Bool))) :=
  match x with
  | (x23, x24, x25, x26) => (bif (decide (x24 < a1)) then (impl_RoundOf (⟨x25, x26⟩ : Shares)).bind fun (b44, b45, b46) => (bif (!b46) then some (LR.done (LR.done ((⟨([] : List Int), 0⟩ : Shares), 0, false))) else ((bif b45 then some ((IntKind.i64.wrap (x23 + 1))) else some (x23))).bind fun x60 => some (LR.next (x60, (IntKind.i64.wrap (x24 + 1)), b44.Wins, b44.Room))) else some (LR.done (LR.next (x23, x25, x26))))
noncomputable def impl_RoundsOf (a0 : Shares) (a1 : Int) : Option (Shares × Int × Bool) :=
  ((impl_GoodShares a0).bind fun b13 => (bif (!b13) then some (true) else (impl_in a1 0 40).bind fun b14 => some ((!b14)))).bind fun x8 => (bif x8 then some ((⟨([] : List Int), 0⟩ : Shares), 0, false) else (slices_Clone_int a0.Wins).bind fun b17 => (whl (impl_RoundsOf_l0 a1) (0, 0, b17, a0.Room)).bind fun y => match y with | LR.next (x27, x28, x29) => some ((⟨x28, x29⟩ : Shares), x27, true) | LR.done z => some z)
noncomputable def spec_GoodShares (a0 : Shares) : Option (Bool) :=
  (spec_l1In (a0.Wins.length : Int) 1 5).bind fun b5 => (bif b5 then (spec_l1All a0.Wins 1 10000).bind fun b6 => (bif b6 then (spec_l1In a0.Room 1 40000).bind fun b7 => some b7 else some false) else some false)
noncomputable def spec_l1Sum_l0 (a0 : List Int) (x : (Int × Int)) : Option (LR (Int × Int) (Int)) :=
  match x with
  | (x5, x6) => (bif (decide (x6 < (a0.length : Int))) then (idx a0 x6).bind fun b21 => some (LR.next ((IntKind.i64.wrap (x5 + b21)), (IntKind.i64.wrap (x6 + 1)))) else some (LR.done (x5)))
noncomputable def spec_l1Sum (a0 : List Int) : Option (Int) :=
  (whl (spec_l1Sum_l0 a0) (0, 0)).bind fun x7 => some x7
noncomputable def spec_l10Halve_l0 (a0 : Shares) (x : (Int × (List Int))) : Option (LR (Int × (List Int)) ((List Int))) :=
  match x with
  | (x11, x12) => (bif (decide (x11 < (a0.Wins.length : Int))) then (idx a0.Wins x11).bind fun b30 => (spec_l1Most 1 (IntKind.i64.wrap (Int.tdiv b30 2))).bind fun b31 => (app 8 x12 ([b31] : List Int)).bind fun x34 => some (LR.next ((IntKind.i64.wrap (x11 + 1)), x34)) else some (LR.done (x12)))
noncomputable def spec_l10Halve (a0 : Shares) : Option (Shares) :=
  (whl (spec_l10Halve_l0 a0) (0, [])).bind fun x15 => some (⟨x15, a0.Room⟩ : Shares)
noncomputable def spec_l10Grow_l0 (a0 : Shares) (x : (Int × (List Int))) : Option (LR (Int × (List Int)) ((List Int))) :=
  match x with
  | (x11, x12) => (bif (decide (x11 < (a0.Wins.length : Int))) then (idx a0.Wins x11).bind fun b30 => (app 8 x12 ([(IntKind.i64.wrap (b30 + 1))] : List Int)).bind fun x33 => some (LR.next ((IntKind.i64.wrap (x11 + 1)), x33)) else some (LR.done (x12)))
noncomputable def spec_l10Grow (a0 : Shares) : Option (Shares) :=
  (whl (spec_l10Grow_l0 a0) (0, [])).bind fun x15 => some (⟨x15, a0.Room⟩ : Shares)
noncomputable def spec_l10Round (a0 : Shares) : Option (Shares × Bool) :=
  (spec_l1Sum a0.Wins).bind fun b8 => (bif (decide (a0.Room < b8)) then (spec_l10Halve a0).bind fun b10 => some (b10, true) else (spec_l10Grow a0).bind fun b14 => some (b14, false))
noncomputable def spec_l1Bit (a0 : Bool) : Option (Int) :=
  (bif a0 then some 1 else some 0)
noncomputable def spec_RoundsOf_l0 (x : (Int × Int × (List Int) × Int)) : Option (LR (Int × Int × (List Int) × Int) (LR (Int × (List Int) × Int) (Shares × Int × Bool))) :=
  match x with
  | (x25, x26, x27, x30) => (bif (decide (0 < x25)) then (spec_l10Round (⟨x27, x30⟩ : Shares)).bind fun (b49, b50) => (spec_GoodShares b49).bind fun b58 => (bif (!b58) then some (LR.done (LR.done ((⟨[], 0⟩ : Shares), 0, false))) else (spec_l1Bit b50).bind fun b65 => some (LR.next ((IntKind.i64.wrap (x25 - 1)), (IntKind.i64.wrap (x26 + b65)), b49.Wins, b49.Room))) else some (LR.done (LR.next (x26, x27, x30))))
noncomputable def spec_RoundsOf (a0 : Shares) (a1 : Int) : Option (Shares × Int × Bool) :=
  ((spec_GoodShares a0).bind fun b13 => (bif (!b13) then some (true) else (spec_l1In a1 0 40).bind fun b14 => some ((!b14)))).bind fun x8 => (bif x8 then some ((⟨[], 0⟩ : Shares), 0, false) else (app 8 ([] : List Int) a0.Wins).bind fun x18 => (whl (spec_RoundsOf_l0) (a1, 0, x18, a0.Room)).bind fun y => match y with | LR.next (x31, x32, x34) => some ((⟨x32, x34⟩ : Shares), x31, true) | LR.done z => some z)
noncomputable def laws_sameShares (a0 : Shares) (a1 : Shares) : Option (Bool) :=
  (laws_sameInts a0.Wins a1.Wins).bind fun b7 => (bif b7 then some (a0.Room == a1.Room) else some false)
noncomputable def slices_Max_int_l0 (a0 : List Int) (x : (Int × Int)) : Option (LR (Int × Int) (Int)) :=
  match x with
  | (x12, x13) => (bif (decide (x13 < (a0.length : Int))) then (idx a0 x13).bind fun b27 => some (LR.next ((if b27 > x12 then b27 else x12), (IntKind.i64.wrap (x13 + 1)))) else some (LR.done (x12)))
noncomputable def slices_Max_int (a0 : List Int) : Option (Int) :=
  ((bif (decide ((a0.length : Int) < 1)) then none else some ())).bind fun _ => (idx a0 0).bind fun b9 => (whl (slices_Max_int_l0 a0) (b9, 1)).bind fun x14 => some x14
noncomputable def slices_Min_int_l0 (a0 : List Int) (x : (Int × Int)) : Option (LR (Int × Int) (Int)) :=
  match x with
  | (x12, x13) => (bif (decide (x13 < (a0.length : Int))) then (idx a0 x13).bind fun b27 => some (LR.next ((if b27 < x12 then b27 else x12), (IntKind.i64.wrap (x13 + 1)))) else some (LR.done (x12)))
noncomputable def slices_Min_int (a0 : List Int) : Option (Int) :=
  ((bif (decide ((a0.length : Int) < 1)) then none else some ())).bind fun _ => (idx a0 0).bind fun b9 => (whl (slices_Min_int_l0 a0) (b9, 1)).bind fun x14 => some x14
noncomputable def impl_SpreadOf (a0 : Shares) : Option (Int × Bool) :=
  (impl_GoodShares a0).bind fun b6 => (bif (!b6) then some (0, false) else (slices_Max_int a0.Wins).bind fun b9 => (slices_Min_int a0.Wins).bind fun b10 => some ((IntKind.i64.wrap (b9 - b10)), true))
noncomputable def spec_DrawGoodShares (a0 : List Int) : Option (Shares) :=
  (spec_l1Cur_shares (⟨a0, 0, 0⟩ : L1Cur)).bind fun (b9, _b10) => some b9
noncomputable def spec_DrawRoundOf (a0 : List Int) : Option (Shares) :=
  (spec_DrawGoodShares a0).bind fun b5 => some b5
noncomputable def spec_l10Tell (a0 : Shares) : Option (Shares × Bool) :=
  (spec_GoodShares a0).bind fun b8 => (bif (!b8) then some ((⟨([] : List Int), 0⟩ : Shares), false) else some (a0, true))
noncomputable def spec_RoundOf (a0 : Shares) : Option (Shares × Bool × Bool) :=
  (spec_GoodShares a0).bind fun b8 => (bif (!b8) then some ((⟨([] : List Int), 0⟩ : Shares), false, false) else (spec_l10Round a0).bind fun (b12, b13) => (spec_l10Tell b12).bind fun (b20, b21) => (bif (!b21) then some ((⟨([] : List Int), 0⟩ : Shares), false, false) else some (b20, b13, true)))
noncomputable def laws_FnRounds_l0 (b14 : Int) (x : (Int × Int)) : Option (LR (Int × Int) (Int)) :=
  match x with
  | (x52, x53) => (bif (decide (x53 < b14)) then some (LR.next ((IntKind.i64.wrap (Int.tdiv (IntKind.i64.wrap (x52 + 1)) 2)), (IntKind.i64.wrap (x53 + 1)))) else some (LR.done (x52)))
noncomputable def laws_FnRounds (a0 : List Int) (a1 : List Int) : Option (Bool) :=
  (bif (decide (1048576 < (IntKind.i64.wrap ((a0.length : Int) + (a1.length : Int))))) then some true else (spec_DrawRoundsOf a0).bind fun (b7, b8) => (impl_RoundsOf b7 b8).bind fun (b13, b14, b15) => (spec_RoundsOf b7 b8).bind fun (b20, b21, b22) => ((bif (!(b15 == b22)) then some (true) else (bif (b14 != b21) then some (true) else (laws_sameShares b13 b20).bind fun b34 => some ((!b34))))).bind fun x29 => (bif x29 then some false else ((bif b15 then (impl_SpreadOf b7).bind fun (b44, b45) => (impl_SpreadOf b13).bind fun (b48, b49) => (whl (laws_FnRounds_l0 b14) (b44, 0)).bind fun x54 => ((bif (!b45) then some (true) else (bif (!b49) then some (true) else (bif (decide (x54 < b48)) then some (true) else (impl_GoodShares b13).bind fun b75 => some ((!b75)))))).bind fun x70 => (bif x70 then some (LR.done false) else some (LR.next ())) else some (LR.next ()))).bind fun y => match y with | LR.next () => (spec_DrawRoundOf a1).bind fun b80 => (impl_RoundOf b80).bind fun (b85, b86, b87) => (spec_RoundOf b80).bind fun (b94, b95, b96) => (bif (b87 == b96) then (bif (b86 == b95) then (laws_sameShares b85 b94).bind fun b100 => (bif b100 then (bif (!b87) then some true else (laws_sumOf b80.Wins).bind fun b101 => some (b86 == (decide (b80.Room < b101)))) else some false) else some false) else some false) | LR.done z => some z))
noncomputable def spec_DrawGrowAll (a0 : List Int) : Option (Shares) :=
  (spec_DrawGoodShares a0).bind fun b5 => some b5
noncomputable def spec_GrowAll (a0 : Shares) : Option (Shares × Bool) :=
  (spec_GoodShares a0).bind fun b8 => (bif (!b8) then some ((⟨([] : List Int), 0⟩ : Shares), false) else (spec_l10Grow a0).bind fun b11 => (spec_l10Tell b11).bind fun (b15, b16) => some (b15, b16))
noncomputable def impl_FairnessOf_l0 (a0 : Shares) (x : (Int × Int)) : Option (LR (Int × Int) (Int)) :=
  match x with
  | (x11, x12) => (bif (decide (x12 < (a0.Wins.length : Int))) then (idx a0.Wins x12).bind fun b27 => some (LR.next ((IntKind.i64.wrap (x11 + (IntKind.i64.wrap (b27 * b27)))), (IntKind.i64.wrap (x12 + 1)))) else some (LR.done (x11)))
noncomputable def impl_FairnessOf (a0 : Shares) : Option (Int × Int × Bool) :=
  (impl_GoodShares a0).bind fun b6 => (bif (!b6) then some (0, 0, false) else (whl (impl_FairnessOf_l0 a0) (0, 0)).bind fun x13 => (impl_sum a0.Wins).bind fun b31 => some ((IntKind.i64.wrap (b31 * b31)), (IntKind.i64.wrap ((a0.Wins.length : Int) * x13)), true))
noncomputable def spec_l10Fairness_l0 (a0 : Shares) (x : (Int × Int)) : Option (LR (Int × Int) (Int)) :=
  match x with
  | (x9, x10) => (bif (decide (x10 < (a0.Wins.length : Int))) then (idx a0.Wins x10).bind fun b25 => some (LR.next ((IntKind.i64.wrap (x9 + (IntKind.i64.wrap (b25 * b25)))), (IntKind.i64.wrap (x10 + 1)))) else some (LR.done (x9)))
noncomputable def spec_l10Fairness (a0 : Shares) : Option (Int × Int) :=
  (spec_l1Sum a0.Wins).bind fun b5 => (whl (spec_l10Fairness_l0 a0) (0, 0)).bind fun x11 => some ((IntKind.i64.wrap (b5 * b5)), (IntKind.i64.wrap ((a0.Wins.length : Int) * x11)))
noncomputable def spec_FairnessOf (a0 : Shares) : Option (Int × Int × Bool) :=
  (spec_GoodShares a0).bind fun b6 => (bif (!b6) then some (0, 0, false) else (spec_l10Fairness a0).bind fun (b10, b11) => some (b10, b11, true))
noncomputable def spec_l10Spread_l0 (a0 : Shares) (x : (Int × Int × Int)) : Option (LR (Int × Int × Int) (Int × Int)) :=
  match x with
  | (x10, x11, x12) => (bif (decide (x12 < (a0.Wins.length : Int))) then (idx a0.Wins x12).bind fun b28 => (spec_l1Least x10 b28).bind fun b30 => (spec_l1Most x11 b28).bind fun b31 => some (LR.next (b30, b31, (IntKind.i64.wrap (x12 + 1)))) else some (LR.done (x10, x11)))
noncomputable def spec_l10Spread (a0 : Shares) : Option (Int) :=
  (idx a0.Wins 0).bind fun b5 => (idx a0.Wins 0).bind fun b7 => (whl (spec_l10Spread_l0 a0) (b5, b7, 0)).bind fun (x13, x14) => some (IntKind.i64.wrap (x14 - x13))
noncomputable def spec_SpreadOf (a0 : Shares) : Option (Int × Bool) :=
  (spec_GoodShares a0).bind fun b6 => (bif (!b6) then some (0, false) else (spec_l10Spread a0).bind fun b9 => some (b9, true))
noncomputable def spec_HalveAll (a0 : Shares) : Option (Shares × Bool) :=
  (spec_GoodShares a0).bind fun b8 => (bif (!b8) then some ((⟨([] : List Int), 0⟩ : Shares), false) else (spec_l10Halve a0).bind fun b11 => (spec_l10Tell b11).bind fun (b15, b16) => some (b15, b16))
noncomputable def impl_IsFairer (a0 : Shares) (a1 : Shares) : Option (Bool × Bool) :=
  (impl_FairnessOf a0).bind fun (b8, b9, b10) => (impl_FairnessOf a1).bind fun (b13, b14, b15) => ((bif (!b10) then some (true) else (bif (!b15) then some (true) else some (((a0.Wins.length : Int) != (a1.Wins.length : Int)))))).bind fun x18 => (bif x18 then some (false, false) else some ((decide ((IntKind.i64.wrap (b13 * b9)) < (IntKind.i64.wrap (b8 * b14)))), true))
noncomputable def spec_DrawIsFairer (a0 : List Int) : Option (Shares × Shares) :=
  (spec_l1Cur_shares (⟨a0, 0, 0⟩ : L1Cur)).bind fun (b11, b12) => (spec_GrowAll b11).bind fun (b18, b19) => ((bif b19 then (spec_l1Cur_one b12 3).bind fun (b32, b33) => some (b32, b33.Code, b33.At, b33.Seed) else some (false, b12.Code, b12.At, b12.Seed))).bind fun (x23, x24, x25, x26) => (bif x23 then some (b18, b11) else (spec_l1Cur_shares (⟨x24, x25, x26⟩ : L1Cur)).bind fun (b37, _b38) => some (b11, b37))
noncomputable def spec_IsFairer (a0 : Shares) (a1 : Shares) : Option (Bool × Bool) :=
  ((spec_GoodShares a0).bind fun b13 => (bif (!b13) then some (true) else (spec_GoodShares a1).bind fun b14 => (bif (!b14) then some (true) else some (((a0.Wins.length : Int) != (a1.Wins.length : Int)))))).bind fun x8 => (bif x8 then some (false, false) else (spec_l10Fairness a0).bind fun (b18, b19) => (spec_l10Fairness a1).bind fun (b22, b23) => some ((decide ((IntKind.i64.wrap (b22 * b19)) < (IntKind.i64.wrap (b18 * b23)))), true))
noncomputable def laws_FnShares (a0 : List Int) (a1 : List Int) : Option (Bool) :=
  (bif (decide (1048576 < (IntKind.i64.wrap ((a0.length : Int) + (a1.length : Int))))) then some true else (spec_DrawGrowAll a0).bind fun b6 => (impl_GrowAll b6).bind fun (b11, b12) => (spec_GrowAll b6).bind fun (b19, b20) => (impl_FairnessOf b6).bind fun (b25, b26, b27) => (spec_FairnessOf b6).bind fun (b30, b31, b32) => (impl_SpreadOf b6).bind fun (b35, b36) => (spec_SpreadOf b6).bind fun (b39, b40) => (impl_HalveAll b6).bind fun (b43, b44) => (spec_HalveAll b6).bind fun (b51, b52) => ((bif (!(b12 == b20)) then some (true) else (laws_sameShares b11 b19).bind fun b62 => (bif (!b62) then some (true) else (bif (!(b27 == b32)) then some (true) else (bif (b25 != b30) then some (true) else (bif (b26 != b31) then some (true) else (bif (!(b36 == b40)) then some (true) else (bif (b35 != b39) then some (true) else (bif (!(b44 == b52)) then some (true) else (laws_sameShares b43 b51).bind fun b63 => (bif (!b63) then some (true) else (impl_GoodShares b6).bind fun b64 => some ((!(b64 == b32))))))))))))).bind fun x57 => (bif x57 then some false else ((bif b27 then (bif (decide (b26 < b25)) then some (true) else some ((!((b35 == 0) == (b25 == b26))))) else some (false))).bind fun x68 => (bif x68 then some false else ((bif b12 then (impl_IsFairer b6 b11).bind fun (b82, b83) => (impl_SpreadOf b11).bind fun (b86, b87) => ((bif (!b83) then some (true) else (bif b82 then some (true) else (bif (!b87) then some (true) else some ((b86 != b35)))))).bind fun x89 => (bif x89 then some (LR.done false) else some (LR.next ())) else some (LR.next ()))).bind fun y => match y with | LR.next () => (((bif b44 then (impl_SpreadOf b43).bind fun (b105, b106) => ((bif (!b106) then some (true) else some ((decide ((IntKind.i64.wrap (Int.tdiv (IntKind.i64.wrap (b35 + 1)) 2)) < b105))))).bind fun x108 => (bif x108 then some (LR.done false) else some (LR.next ())) else some (LR.next ()))).bind fun y => match y with | LR.next () => (spec_DrawIsFairer a1).bind fun (b118, b119) => (impl_IsFairer b118 b119).bind fun (b126, b127) => (spec_IsFairer b118 b119).bind fun (b130, b131) => (bif (b127 == b131) then some (b126 == b130) else some false) | LR.done z => some z) | LR.done z => some z)))
noncomputable def spec_l1Cur_quanta_l0 (x : ((List Int) × Int × (List Int) × Int × Int)) : Option (LR ((List Int) × Int × (List Int) × Int × Int) ((List Int) × (List Int) × Int × Int)) :=
  match x with
  | (x8, x11, x12, x13, x14) => (bif (decide (0 < x11)) then (spec_l1Cur_pick (⟨x12, x13, x14⟩ : L1Cur) 30).bind fun (b33, b34) => (app 8 x8 ([(IntKind.i64.wrap (20 + b33))] : List Int)).bind fun x37 => some (LR.next (x37, (IntKind.i64.wrap (x11 - 1)), b34.Code, b34.At, b34.Seed)) else some (LR.done (x8, x12, x13, x14)))
noncomputable def spec_l1Cur_quanta (a0 : L1Cur) : Option (List Int × L1Cur) :=
  (spec_l1Cur_pick a0 4).bind fun (b6, b7) => (whl (spec_l1Cur_quanta_l0) ([], (IntKind.i64.wrap (1 + b6)), b7.Code, b7.At, b7.Seed)).bind fun (x15, x17, x18, x19) => (spec_l1Cur_one (⟨x17, x18, x19⟩ : L1Cur) 30).bind fun (b45, b46) => ((bif b45 then (spec_l1Cur_among b46 ([19, 100, 101] : List Int)).bind fun (b58, b59) => (idx x15 0).bind fun _b60 => some ((x15.set (0 : Int).toNat b58), b59.Code, b59.At, b59.Seed) else some (x15, b46.Code, b46.At, b46.Seed))).bind fun (x47, x48, x49, x50) => some (x47, (⟨x48, x49, x50⟩ : L1Cur))
noncomputable def spec_NewTurns (a0 : List Int) : Option (Turns × Bool) :=
  ((spec_l1In (a0.length : Int) 1 4).bind fun b12 => (bif (!b12) then some (true) else (spec_l1All a0 20 100).bind fun b13 => some ((!b13)))).bind fun x7 => (bif x7 then some ((⟨([] : List Int), ([] : List (List Int)), ([] : List Int), ([] : List Int), 0⟩ : Turns), false) else (app 8 ([] : List Int) a0).bind fun x22 => (mkL 24 (a0.length : Int) ([] : List Int)).bind fun x27 => (mkL 8 (a0.length : Int) (0 : Int)).bind fun x31 => (mkL 8 (a0.length : Int) (0 : Int)).bind fun x34 => some ((⟨x22, x27, x31, x34, 0⟩ : Turns), true))
noncomputable def spec_GoodTurns_l0 (a0 : Turns) (x : (Int)) : Option (LR (Int) (LR Unit (Bool))) :=
  match x with
  | (x20) => (bif (decide (x20 < (a0.Queues.length : Int))) then (idx a0.Queues x20).bind fun b34 => ((bif (decide (30 < (b34.length : Int))) then some (true) else (spec_l1All b34 1 20).bind fun b41 => (bif (!b41) then some (true) else (bif ((b34.length : Int) == 0) then (idx a0.Credit x20).bind fun b42 => some ((b42 != 0)) else some (false))))).bind fun x36 => (bif x36 then some (LR.done (LR.done false)) else some (LR.next ((IntKind.i64.wrap (x20 + 1))))) else some (LR.done (LR.next ())))
noncomputable def spec_GoodTurns (a0 : Turns) : Option (Bool) :=
  ((spec_l1In (a0.Quanta.length : Int) 1 4).bind fun b12 => (bif (!b12) then some (true) else (spec_l1All a0.Quanta 20 100).bind fun b13 => (bif (!b13) then some (true) else (bif ((a0.Queues.length : Int) != (a0.Quanta.length : Int)) then some (true) else (bif ((a0.Credit.length : Int) != (a0.Quanta.length : Int)) then some (true) else (bif ((a0.Sent.length : Int) != (a0.Quanta.length : Int)) then some (true) else (spec_l1All a0.Credit 0 19).bind fun b14 => (bif (!b14) then some (true) else (spec_l1All a0.Sent 0 1000000).bind fun b15 => (bif (!b15) then some (true) else (spec_l1In a0.At 0 (IntKind.i64.wrap ((a0.Quanta.length : Int) - 1))).bind fun b16 => some ((!b16)))))))))).bind fun x7 => (bif x7 then some false else (whl (spec_GoodTurns_l0 a0) (0)).bind fun y => match y with | LR.next () => some true | LR.done z => some z)
noncomputable def spec_l8Own_l0 (a0 : Turns) (x : (Int × (List (List Int)))) : Option (LR (Int × (List (List Int))) ((List (List Int)))) :=
  match x with
  | (x23, x24) => (bif (decide (x23 < (a0.Queues.length : Int))) then (idx a0.Queues x23).bind fun b44 => (app 8 ([] : List Int) b44).bind fun x46 => (app 24 x24 ([x46] : List (List Int))).bind fun n54 => some (LR.next ((IntKind.i64.wrap (x23 + 1)), n54)) else some (LR.done (x24)))
noncomputable def spec_l8Own (a0 : Turns) : Option (Turns) :=
  (app 8 ([] : List Int) a0.Quanta).bind fun x8 => (app 8 ([] : List Int) a0.Credit).bind fun x12 => (app 8 ([] : List Int) a0.Sent).bind fun x16 => (whl (spec_l8Own_l0 a0) (0, ([] : List (List Int)))).bind fun x28 => some (⟨x8, x28, x12, x16, a0.At⟩ : Turns)
noncomputable def spec_PutPacket (a0 : Turns) (a1 : Int) (a2 : Int) : Option (Turns × Bool) :=
  ((spec_GoodTurns a0).bind fun b13 => (bif (!b13) then some (true) else (bif (decide (a1 < 0)) then some (true) else (bif (decide ((a0.Queues.length : Int) ≤ a1)) then some (true) else (spec_l1In a2 1 20).bind fun b14 => (bif (!b14) then some (true) else (idx a0.Queues a1).bind fun b15 => some (((b15.length : Int) == 30))))))).bind fun x8 => (bif x8 then some ((⟨([] : List Int), ([] : List (List Int)), ([] : List Int), ([] : List Int), 0⟩ : Turns), false) else (spec_l8Own a0).bind fun b23 => (idx b23.Queues a1).bind fun b37 => (app 8 b37 ([a2] : List Int)).bind fun x42 => some ((⟨b23.Quanta, (b23.Queues.set a1.toNat x42), b23.Credit, b23.Sent, b23.At⟩ : Turns), true))
noncomputable def spec_l8Next_l0 (a0 : Turns) (x : ((List Int) × (List Int) × (List Int) × (List Int))) : Option (LR ((List Int) × (List Int) × (List Int) × (List Int)) ((List Int) × (List Int) × (List Int) × (List Int))) :=
  match x with
  | (x29, x32, x35, x36) => ((bif (decide (0 < (x32.length : Int))) then (idx x32 0).bind fun b58 => (idx x35 a0.At).bind fun b60 => some ((decide (b58 ≤ b60))) else some (false))).bind fun x53 => (bif x53 then (idx x35 a0.At).bind fun b64 => (idx x32 0).bind fun b66 => (idx x35 a0.At).bind fun _b68 => (idx x36 a0.At).bind fun b71 => (idx x32 0).bind fun b73 => (idx x36 a0.At).bind fun _b75 => (idx x32 0).bind fun b78 => (app 8 x29 ([b78] : List Int)).bind fun x82 => (slc x32 1 (x32.length : Int)).bind fun x85 => some (LR.next (x82, x85, (x35.set a0.At.toNat (IntKind.i64.wrap (b64 - b66))), (x36.set a0.At.toNat (IntKind.i64.wrap (b71 + b73))))) else some (LR.done (x29, x32, x35, x36)))
noncomputable def spec_l8Next (a0 : Turns) : Option (Turns × List Int) :=
  (md (IntKind.i64.wrap (a0.At + 1)) (a0.Queues.length : Int)).bind fun x8 => (idx a0.Queues a0.At).bind fun b12 => ((bif (decide (0 < (b12.length : Int))) then (idx a0.Credit a0.At).bind fun b22 => (idx a0.Quanta a0.At).bind fun b24 => (idx a0.Credit a0.At).bind fun _b26 => some ((a0.Credit.set a0.At.toNat (IntKind.i64.wrap (b22 + b24)))) else some (a0.Credit))).bind fun x17 => (whl (spec_l8Next_l0 a0) ([], b12, x17, a0.Sent)).bind fun (x37, x39, x41, x42) => ((bif ((x39.length : Int) == 0) then (idx x41 a0.At).bind fun _b98 => some ((x41.set a0.At.toNat 0)) else some (x41))).bind fun x93 => (app 8 ([] : List Int) x39).bind fun x102 => some ((⟨a0.Quanta, (a0.Queues.set a0.At.toNat x102), x93, x42, x8⟩ : Turns), x37)
noncomputable def spec_NextTurn (a0 : Turns) : Option (Turns × List Int × Bool) :=
  (spec_GoodTurns a0).bind fun b8 => (bif (!b8) then some ((⟨([] : List Int), ([] : List (List Int)), ([] : List Int), ([] : List Int), 0⟩ : Turns), ([] : List Int), false) else (spec_l8Own a0).bind fun b17 => (spec_l8Next b17).bind fun (b28, b29) => (spec_GoodTurns b28).bind fun b45 => (bif (!b45) then some ((⟨([] : List Int), ([] : List (List Int)), ([] : List Int), ([] : List Int), 0⟩ : Turns), ([] : List Int), false) else (spec_l8Own b28).bind fun b54 => some (b54, b29, true)))
noncomputable def spec_l1Cur_turns_l0 (x : (Int × (List Int) × Int × Int × (List Int) × (List (List Int)) × (List Int) × (List Int) × Int)) : Option (LR (Int × (List Int) × Int × Int × (List Int) × (List (List Int)) × (List Int) × (List Int) × Int) ((List Int) × Int × Int × (List Int) × (List (List Int)) × (List Int) × (List Int) × Int)) :=
  match x with
  | (x73, x74, x75, x76, x77, x80, x84, x87, x90) => (bif (decide (0 < x73)) then ((spec_l1Cur_pick (⟨x74, x75, x76⟩ : L1Cur) (x80.length : Int)).bind fun (b135, b136) => (spec_l1Cur_pick b136 20).bind fun (b138, b139) => (spec_PutPacket (⟨x77, x80, x84, x87, x90⟩ : Turns) b135 (IntKind.i64.wrap (1 + b138))).bind fun (b141, b142) => ((bif b142 then some (b141.Quanta, b141.Queues, b141.Credit, b141.Sent, b141.At) else some (x77, x80, x84, x87, x90))).bind fun (x160, x163, x167, x170, x173) => (spec_NextTurn (⟨x160, x163, x167, x170, x173⟩ : Turns)).bind fun (b180, _b181, b182) => ((bif b182 then (spec_l1Cur_one b139 4).bind fun (b212, b213) => some (b212, b213.Code, b213.At, b213.Seed) else some (false, b139.Code, b139.At, b139.Seed))).bind fun (x203, x204, x205, x206) => ((bif x203 then some (b180.Quanta, b180.Queues, b180.Credit, b180.Sent, b180.At) else some (x160, x163, x167, x170, x173))).bind fun (x214, x217, x221, x224, x227) => some (x204, x205, x206, x214, x217, x221, x224, x227)).bind fun (x116, x117, x118, x119, x121, x124, x126, x128) => some (LR.next ((IntKind.i64.wrap (x73 - 1)), x116, x117, x118, x119, x121, x124, x126, x128)) else some (LR.done (x74, x75, x76, x77, x80, x84, x87, x90)))
noncomputable def spec_l1Cur_turns (a0 : L1Cur) : Option (Turns × L1Cur) :=
  (spec_l1Cur_quanta a0).bind fun (b6, b7) => (spec_NewTurns b6).bind fun (b11, b12) => ((bif (!b12) then (spec_NewTurns ([20] : List Int)).bind fun (b52, _b53) => some (b52.Quanta, b52.Queues, b52.Credit, b52.Sent, b52.At) else some (b11.Quanta, b11.Queues, b11.Credit, b11.Sent, b11.At))).bind fun (x31, x34, x38, x41, x44) => (spec_l1Cur_pick b7 20).bind fun (b71, b72) => (whl (spec_l1Cur_turns_l0) (b71, b72.Code, b72.At, b72.Seed, x31, x34, x38, x41, x44)).bind fun (x91, x92, x93, x94, x96, x99, x101, x103) => (spec_l1Cur_pick (⟨x91, x92, x93⟩ : L1Cur) 30).bind fun (b237, b238) => (((bif (b237 == 0) then (spec_l1Cur_pick b238 6).bind fun (b261, b262) => some (b262.Code, b262.At, b262.Seed, x99, x101, (IntKind.i64.wrap (b261 - 1))) else ((bif (b237 == 1) then (spec_l1Cur_pick b238 30).bind fun (b274, b275) => (idx x99 0).bind fun _b276 => some (b275.Code, b275.At, b275.Seed, (x99.set (0 : Int).toNat b274), x101) else ((bif (b237 == 2) then (idx x101 0).bind fun _b284 => some ((x101.set (0 : Int).toNat 1000000)) else some (x101))).bind fun x279 => some (b238.Code, b238.At, b238.Seed, x99, x279))).bind fun (x264, x265, x266, x267, x268) => some (x264, x265, x266, x267, x268, x103))).bind fun (x250, x251, x252, x253, x254, x255) => some (x250, x251, x252, x253, x254, x255)).bind fun (x240, x241, x242, x243, x244, x245) => some ((⟨x94, x96, x243, x244, x245⟩ : Turns), (⟨x240, x241, x242⟩ : L1Cur))
noncomputable def spec_DrawRunTurns (a0 : List Int) : Option (Turns × Int) :=
  (spec_l1Cur_turns (⟨a0, 0, 0⟩ : L1Cur)).bind fun (b9, b10) => (spec_l1Cur_among b10 ([-1, 0, 1, 3, 8, 60, 61] : List Int)).bind fun (b23, _b24) => some (b9, b23)
noncomputable def impl_areQuanta_1 (a0 : Int) : Option (Bool) :=
  (impl_in a0 20 100).bind fun b3 => some (!b3)
noncomputable def impl_areQuanta (a0 : List Int) : Option (Bool) :=
  (impl_in (a0.length : Int) 1 4).bind fun b3 => (bif b3 then (slices_ContainsFunc_int a0 impl_areQuanta_1).bind fun b4 => some (!b4) else some false)
noncomputable def impl_isPacket (a0 : Int) : Option (Bool) :=
  (impl_in a0 1 20).bind fun b3 => some b3
noncomputable def impl_GoodTurns_1 (a0 : Int) : Option (Bool) :=
  (impl_isPacket a0).bind fun b3 => some (!b3)
noncomputable def impl_GoodTurns_l0 (a0 : Turns) (x : (Int)) : Option (LR (Int) (LR Unit (Bool))) :=
  match x with
  | (x17) => (bif (decide (x17 < (a0.Queues.length : Int))) then (idx a0.Queues x17).bind fun b31 => ((bif (decide (30 < (b31.length : Int))) then some (true) else (slices_ContainsFunc_int b31 impl_GoodTurns_1).bind fun b39 => some (b39))).bind fun x34 => (bif x34 then some (LR.done (LR.done false)) else ((idx a0.Credit x17).bind fun b51 => (impl_in b51 0 19).bind fun b52 => (bif (!b52) then some (true) else (bif ((b31.length : Int) == 0) then (idx a0.Credit x17).bind fun b53 => (bif (decide (0 < b53)) then some (true) else (idx a0.Sent x17).bind fun b54 => (impl_in b54 0 1000000).bind fun b55 => some ((!b55))) else (idx a0.Sent x17).bind fun b56 => (impl_in b56 0 1000000).bind fun b57 => some ((!b57))))).bind fun x46 => (bif x46 then some (LR.done (LR.done false)) else some (LR.next ((IntKind.i64.wrap (x17 + 1)))))) else some (LR.done (LR.next ())))
noncomputable def impl_GoodTurns (a0 : Turns) : Option (Bool) :=
  ((impl_areQuanta a0.Quanta).bind fun b12 => (bif (!b12) then some (true) else (bif ((a0.Queues.length : Int) != (a0.Quanta.length : Int)) then some (true) else (bif ((a0.Credit.length : Int) != (a0.Quanta.length : Int)) then some (true) else (bif ((a0.Sent.length : Int) != (a0.Quanta.length : Int)) then some (true) else (impl_in a0.At 0 (IntKind.i64.wrap ((a0.Quanta.length : Int) - 1))).bind fun b13 => some ((!b13))))))).bind fun x7 => (bif x7 then some false else (whl (impl_GoodTurns_l0 a0) (0)).bind fun y => match y with | LR.next () => some true | LR.done z => some z)
noncomputable def impl_Turns_copied_l0 (a0 : Turns) (x : (Int × (List (List Int)))) : Option (LR (Int × (List (List Int))) ((List (List Int)))) :=
  match x with
  | (x21, x22) => (bif (decide (x21 < (a0.Queues.length : Int))) then (idx a0.Queues x21).bind fun b42 => (slices_Clone_int b42).bind fun b43 => (app 24 x22 ([b43] : List (List Int))).bind fun n52 => some (LR.next ((IntKind.i64.wrap (x21 + 1)), n52)) else some (LR.done (x22)))
noncomputable def impl_Turns_copied (a0 : Turns) : Option (Turns) :=
  (slices_Clone_int a0.Quanta).bind fun b7 => (slices_Clone_int a0.Credit).bind fun b9 => (slices_Clone_int a0.Sent).bind fun b13 => (whl (impl_Turns_copied_l0 a0) (0, ([] : List (List Int)))).bind fun x26 => some (⟨b7, x26, b9, b13, a0.At⟩ : Turns)
noncomputable def impl_Turns_turn_l0 (a0 : Turns) (x : ((List Int) × (List (List Int)) × (List Int) × (List Int))) : Option (LR ((List Int) × (List (List Int)) × (List Int) × (List Int)) ((List Int) × (List (List Int)) × (List Int) × (List Int))) :=
  match x with
  | (x28, x31, x33, x34) => ((idx x31 a0.At).bind fun b60 => (bif (decide (0 < (b60.length : Int))) then (idx b60 0).bind fun b64 => (idx x33 a0.At).bind fun b66 => some ((decide (b64 ≤ b66))) else some (false))).bind fun x53 => (bif x53 then (idx x31 a0.At).bind fun b73 => (idx b73 0).bind fun b76 => (slc b73 1 (b73.length : Int)).bind fun x80 => (idx x33 a0.At).bind fun b85 => (idx x33 a0.At).bind fun _b87 => (idx x34 a0.At).bind fun b90 => (idx x34 a0.At).bind fun _b92 => (app 8 x28 ([b76] : List Int)).bind fun x96 => some (LR.next (x96, (x31.set a0.At.toNat x80), (x33.set a0.At.toNat (IntKind.i64.wrap (b85 - b76))), (x34.set a0.At.toNat (IntKind.i64.wrap (b90 + b76))))) else some (LR.done (x28, x31, x33, x34)))
noncomputable def impl_Turns_turn (a0 : Turns) : Option (List Int × Bool × Turns) :=
  (md (IntKind.i64.wrap (a0.At + 1)) (a0.Quanta.length : Int)).bind fun x4 => (idx a0.Queues a0.At).bind fun b8 => ((bif (decide (0 < (b8.length : Int))) then (idx a0.Credit a0.At).bind fun b19 => (idx a0.Quanta a0.At).bind fun b21 => (idx a0.Credit a0.At).bind fun _b22 => some ((a0.Credit.set a0.At.toNat (IntKind.i64.wrap (b19 + b21)))) else some (a0.Credit))).bind fun x14 => (whl (impl_Turns_turn_l0 a0) ([], a0.Queues, x14, a0.Sent)).bind fun (x35, x37, x39, x40) => (idx x37 a0.At).bind fun b106 => ((bif ((b106.length : Int) == 0) then (idx x39 a0.At).bind fun _b117 => some ((x39.set a0.At.toNat 0)) else some (x39))).bind fun x112 => (idx x40 a0.At).bind fun b122 => some (x35, (decide (b122 ≤ 1000000)), (⟨a0.Quanta, x37, x112, x40, x4⟩ : Turns))
noncomputable def impl_RunTurns_l0 (a1 : Int) (x : (Int × (List Int) × (List (List Int)) × (List Int) × (List Int) × Int)) : Option (LR (Int × (List Int) × (List (List Int)) × (List Int) × (List Int) × Int) (LR ((List Int) × (List (List Int)) × (List Int) × (List Int) × Int) (Turns × Bool))) :=
  match x with
  | (x29, x30, x31, x34, x36, x38) => (bif (decide (x29 < a1)) then (impl_Turns_turn (⟨x30, x31, x34, x36, x38⟩ : Turns)).bind fun (_b62, b63, b64) => (bif (!b63) then some (LR.done (LR.done ((⟨([] : List Int), ([] : List (List Int)), ([] : List Int), ([] : List Int), 0⟩ : Turns), false))) else some (LR.next ((IntKind.i64.wrap (x29 + 1)), b64.Quanta, b64.Queues, b64.Credit, b64.Sent, b64.At))) else some (LR.done (LR.next (x30, x31, x34, x36, x38))))
noncomputable def impl_RunTurns (a0 : Turns) (a1 : Int) : Option (Turns × Bool) :=
  ((impl_GoodTurns a0).bind fun b13 => (bif (!b13) then some (true) else (impl_in a1 0 60).bind fun b14 => some ((!b14)))).bind fun x8 => (bif x8 then some ((⟨([] : List Int), ([] : List (List Int)), ([] : List Int), ([] : List Int), 0⟩ : Turns), false) else (impl_Turns_copied a0).bind fun b17 => (whl (impl_RunTurns_l0 a1) (0, b17.Quanta, b17.Queues, b17.Credit, b17.Sent, b17.At)).bind fun y => match y with | LR.next (x39, x40, x43, x45, x47) => some ((⟨x39, x40, x43, x45, x47⟩ : Turns), true) | LR.done z => some z)
noncomputable def spec_RunTurns_l0 (x : (Int × (List Int) × (List (List Int)) × (List Int) × (List Int) × Int)) : Option (LR (Int × (List Int) × (List (List Int)) × (List Int) × (List Int) × Int) (LR ((List Int) × (List (List Int)) × (List Int) × (List Int) × Int) (Turns × Bool))) :=
  match x with
  | (x35, x36, x39, x43, x46, x49) => (bif (decide (0 < x35)) then (spec_NextTurn (⟨x36, x39, x43, x46, x49⟩ : Turns)).bind fun (b74, _b75, b76) => (bif (!b76) then some (LR.done (LR.done ((⟨([] : List Int), ([] : List (List Int)), ([] : List Int), ([] : List Int), 0⟩ : Turns), false))) else some (LR.next ((IntKind.i64.wrap (x35 - 1)), b74.Quanta, b74.Queues, b74.Credit, b74.Sent, b74.At))) else some (LR.done (LR.next (x36, x39, x43, x46, x49))))
noncomputable def spec_RunTurns (a0 : Turns) (a1 : Int) : Option (Turns × Bool) :=
  ((spec_GoodTurns a0).bind fun b13 => (bif (!b13) then some (true) else (spec_l1In a1 0 60).bind fun b14 => some ((!b14)))).bind fun x8 => (bif x8 then some ((⟨([] : List Int), ([] : List (List Int)), ([] : List Int), ([] : List Int), 0⟩ : Turns), false) else (spec_l8Own a0).bind fun b22 => (whl (spec_RunTurns_l0) (a1, b22.Quanta, b22.Queues, b22.Credit, b22.Sent, b22.At)).bind fun y => match y with | LR.next (x50, x52, x55, x57, x59) => some ((⟨x50, x52, x55, x57, x59⟩ : Turns), true) | LR.done z => some z)
noncomputable def laws_sameTurns_l0 (a0 : Turns) (a1 : Turns) (x : (Int)) : Option (LR (Int) (LR Unit (Bool))) :=
  match x with
  | (x19) => (bif (decide (x19 < (a0.Queues.length : Int))) then (idx a0.Queues x19).bind fun b34 => (idx a1.Queues x19).bind fun b35 => (laws_sameInts b34 b35).bind fun b36 => (bif (!b36) then some (LR.done (LR.done false)) else some (LR.next ((IntKind.i64.wrap (x19 + 1))))) else some (LR.done (LR.next ())))
noncomputable def laws_sameTurns (a0 : Turns) (a1 : Turns) : Option (Bool) :=
  ((laws_sameInts a0.Quanta a1.Quanta).bind fun b13 => (bif (!b13) then some (true) else (laws_sameInts a0.Credit a1.Credit).bind fun b14 => (bif (!b14) then some (true) else (laws_sameInts a0.Sent a1.Sent).bind fun b15 => (bif (!b15) then some (true) else (bif (a0.At != a1.At) then some (true) else some (((a0.Queues.length : Int) != (a1.Queues.length : Int)))))))).bind fun x8 => (bif x8 then some false else (whl (laws_sameTurns_l0 a0 a1) (0)).bind fun y => match y with | LR.next () => some true | LR.done z => some z)
noncomputable def laws_FnCredit_l0 (b7 : Turns) (b22 : Turns) (x64 : Int) (x : (Int)) : Option (LR (Int) (LR Unit (LR Unit (Bool)))) :=
  match x with
  | (x66) => (bif (decide (x66 < (b7.Queues.length : Int))) then ((idx b22.Queues x66).bind fun b85 => (bif ((b85.length : Int) == 0) then some (LR.next ()) else (idx b22.Sent x66).bind fun b87 => (idx b7.Sent x66).bind fun b88 => ((idx b7.Quanta x66).bind fun b95 => (idx b7.Credit x66).bind fun b96 => (idx b22.Credit x66).bind fun b97 => (bif ((IntKind.i64.wrap (b87 - b88)) != (IntKind.i64.wrap ((IntKind.i64.wrap ((IntKind.i64.wrap (x64 * b95)) + b96)) - b97))) then some (true) else (idx b7.Quanta x66).bind fun b98 => (bif (decide ((IntKind.i64.wrap (b87 - b88)) ≤ (IntKind.i64.wrap ((IntKind.i64.wrap (x64 * b98)) - 20)))) then some (true) else (idx b7.Quanta x66).bind fun b99 => some ((decide ((IntKind.i64.wrap ((IntKind.i64.wrap (x64 * b99)) + 20)) ≤ (IntKind.i64.wrap (b87 - b88)))))))).bind fun x90 => (bif x90 then some (LR.done (LR.done (LR.done (LR.done false)))) else some (LR.next ())))).bind fun y => match y with | LR.next () => some (LR.next ((IntKind.i64.wrap (x66 + 1)))) | LR.done z => some z else some (LR.done (LR.next ())))
noncomputable def laws_FnCredit (a0 : List Int) (a1 : List Int) : Option (Bool) :=
  (bif (decide (1048576 < (IntKind.i64.wrap ((a0.length : Int) + (a1.length : Int))))) then some true else (spec_DrawRunTurns a0).bind fun (b7, b8) => (impl_RunTurns b7 b8).bind fun (b22, b23) => (spec_RunTurns b7 b8).bind fun (b28, b29) => ((bif (!(b23 == b29)) then some (true) else (laws_sameTurns b22 b28).bind fun b48 => some ((!b48)))).bind fun x43 => (bif x43 then some false else ((bif b23 then (bif (decide (0 < (b7.Queues.length : Int))) then (md b8 (b7.Queues.length : Int)).bind fun x58 => some ((x58 == 0)) else some (false)) else some (false))).bind fun x53 => ((bif x53 then (dv .i64 b8 (b7.Queues.length : Int)).bind fun x64 => (whl (laws_FnCredit_l0 b7 b22 x64) (0)).bind fun y => match y with | LR.next () => some (LR.next ()) | LR.done z => some z else some (LR.next ()))).bind fun y => match y with | LR.next () => some (decide (0 ≤ (a1.length : Int))) | LR.done z => some z))
noncomputable def spec_l1Cur_job (a0 : L1Cur) : Option (Job × L1Cur) :=
  (spec_l1Cur_one a0 40).bind fun (b7, b8) => (bif b7 then (spec_l1Cur_among b8 ([-1, 0, 23, 24] : List Int)).bind fun (b13, b14) => (spec_l1Cur_among b14 ([0, 1, 6, 7] : List Int)).bind fun (b18, b19) => (spec_l1Cur_among b19 ([0, 24, 25] : List Int)).bind fun (b23, b24) => some ((⟨b13, b18, b23⟩ : Job), b24) else (spec_l1Cur_pick b8 14).bind fun (b27, b28) => (spec_l1Cur_pick b28 4).bind fun (b30, b31) => (spec_l1Cur_pick b31 5).bind fun (b36, b37) => (spec_l1Cur_pick b37 9).bind fun (b39, b40) => ((bif (decide ((IntKind.i64.wrap ((IntKind.i64.wrap ((IntKind.i64.wrap (b27 + (IntKind.i64.wrap (1 + b30)))) + b36)) - (IntKind.i64.wrap (Int.tdiv b39 8)))) ≤ b27)) then some ((IntKind.i64.wrap (b27 + 1))) else some ((IntKind.i64.wrap ((IntKind.i64.wrap ((IntKind.i64.wrap (b27 + (IntKind.i64.wrap (1 + b30)))) + b36)) - (IntKind.i64.wrap (Int.tdiv b39 8))))))).bind fun x43 => some ((⟨b27, (IntKind.i64.wrap (1 + b30)), x43⟩ : Job), b40))
noncomputable def spec_l1Cur_jobs_l0 (x : ((List Job) × Int × (List Int) × Int × Int)) : Option (LR ((List Job) × Int × (List Int) × Int × Int) ((List Job) × (List Int) × Int × Int)) :=
  match x with
  | (x24, x27, x28, x29, x30) => (bif (decide (0 < x27)) then (spec_l1Cur_job (⟨x28, x29, x30⟩ : L1Cur)).bind fun (b49, b50) => (app 24 x24 ([b49] : List Job)).bind fun x53 => some (LR.next (x53, (IntKind.i64.wrap (x27 - 1)), b50.Code, b50.At, b50.Seed)) else some (LR.done (x24, x28, x29, x30)))
noncomputable def spec_l1Cur_jobs (a0 : L1Cur) : Option (List Job × L1Cur) :=
  (spec_l1Cur_pick a0 6).bind fun (b5, b6) => (spec_l1Cur_one b6 20).bind fun (b10, b11) => ((bif b10 then (spec_l1Cur_pick b11 2).bind fun (b21, b22) => some ((IntKind.i64.wrap (8 + b21)), b22.Code, b22.At, b22.Seed) else some (b5, b11.Code, b11.At, b11.Seed))).bind fun (x12, x13, x14, x15) => (whl (spec_l1Cur_jobs_l0) ([], x12, x13, x14, x15)).bind fun (x31, x33, x34, x35) => some (x31, (⟨x33, x34, x35⟩ : L1Cur))
noncomputable def spec_DrawGoodJobs (a0 : List Int) : Option (List Job) :=
  (spec_l1Cur_jobs (⟨a0, 0, 0⟩ : L1Cur)).bind fun (b7, _b8) => some b7
noncomputable def spec_DrawFirstOverload (a0 : List Int) : Option (List Job) :=
  (spec_DrawGoodJobs a0).bind fun b3 => some b3
noncomputable def slices_IndexFunc_impl_Job_l0 (a0 : List Job) (g1 : Job → Option Bool) (x : (Int)) : Option (LR (Int) (LR Unit (Int))) :=
  match x with
  | (x4) => (bif (decide (x4 < (a0.length : Int))) then (idx a0 x4).bind fun b19 => (g1 b19).bind fun b20 => (bif b20 then some (LR.done (LR.done x4)) else some (LR.next ((IntKind.i64.wrap (x4 + 1))))) else some (LR.done (LR.next ())))
noncomputable def slices_IndexFunc_impl_Job (a0 : List Job) (g1 : Job → Option Bool) : Option (Int) :=
  (whl (slices_IndexFunc_impl_Job_l0 a0 g1) (0)).bind fun y => match y with | LR.next () => some (-1) | LR.done z => some z
noncomputable def slices_ContainsFunc_impl_Job (a0 : List Job) (g1 : Job → Option Bool) : Option (Bool) :=
  (slices_IndexFunc_impl_Job a0 g1).bind fun b3 => some (decide (0 ≤ b3))
noncomputable def impl_isJob (a0 : Job) : Option (Bool) :=
  (impl_in a0.Start 0 23).bind fun b5 => (bif b5 then (impl_in a0.Need 1 6).bind fun b6 => (bif b6 then (impl_in a0.End (IntKind.i64.wrap (a0.Start + 1)) 24).bind fun b7 => some b7 else some false) else some false)
noncomputable def impl_areJobs_1 (a0 : Job) : Option (Bool) :=
  (impl_isJob a0).bind fun b5 => some (!b5)
noncomputable def impl_areJobs (a0 : List Job) : Option (Bool) :=
  (bif (decide ((a0.length : Int) ≤ 8)) then (slices_ContainsFunc_impl_Job a0 impl_areJobs_1).bind fun b3 => some (!b3) else some false)
noncomputable def impl_demand_l0 (a0 : List Job) (a1 : Int) (a2 : Int) (x : (Int × Int)) : Option (LR (Int × Int) (Int)) :=
  match x with
  | (x5, x6) => (bif (decide (x6 < (a0.length : Int))) then ((idx a0 x6).bind fun b25 => ((bif (decide (a1 ≤ b25.Start)) then some ((decide (b25.End ≤ a2))) else some (false))).bind fun x29 => ((bif x29 then some ((IntKind.i64.wrap (x5 + b25.Need))) else some (x5))).bind fun x34 => some (x34)).bind fun x20 => some (LR.next (x20, (IntKind.i64.wrap (x6 + 1)))) else some (LR.done (x5)))
noncomputable def impl_demand (a0 : List Job) (a1 : Int) (a2 : Int) : Option (Int) :=
  (whl (impl_demand_l0 a0 a1 a2) (0, 0)).bind fun x7 => some x7
noncomputable def impl_FirstOverload_l0 (a0 : List Job) (x8 : Int) (x : (Int)) : Option (LR (Int) (LR Unit (LR (Int) (LR Unit (Int × Int × Bool × Bool))))) :=
  match x with
  | (x23) => (bif (decide (x23 ≤ 24)) then (impl_demand a0 x8 x23).bind fun b37 => (bif (decide ((IntKind.i64.wrap (x23 - x8)) < b37)) then some (LR.done (LR.done (LR.done (LR.done (x8, x23, true, true))))) else some (LR.next ((IntKind.i64.wrap (x23 + 1))))) else some (LR.done (LR.next ())))
noncomputable def impl_FirstOverload_l1 (a0 : List Job) (x : (Int)) : Option (LR (Int) (LR Unit (Int × Int × Bool × Bool))) :=
  match x with
  | (x8) => (bif (decide (x8 < 24)) then (whl (impl_FirstOverload_l0 a0 x8) ((IntKind.i64.wrap (x8 + 1)))).bind fun y => match y with | LR.next () => some (LR.next ((IntKind.i64.wrap (x8 + 1)))) | LR.done z => some z else some (LR.done (LR.next ())))
noncomputable def impl_FirstOverload (a0 : List Job) : Option (Int × Int × Bool × Bool) :=
  (impl_areJobs a0).bind fun b4 => (bif (!b4) then some (0, 0, false, false) else (whl (impl_FirstOverload_l1 a0) (0)).bind fun y => match y with | LR.next () => some (0, 0, false, true) | LR.done z => some z)
noncomputable def spec_l4Job (a0 : Job) : Option (Bool) :=
  (spec_l1In a0.Start 0 23).bind fun b5 => (bif b5 then (spec_l1In a0.Need 1 6).bind fun b6 => (bif b6 then (spec_l1In a0.End (IntKind.i64.wrap (a0.Start + 1)) 24).bind fun b7 => some b7 else some false) else some false)
noncomputable def spec_GoodJobs_l0 (a0 : List Job) (x : (Int)) : Option (LR (Int) (LR Unit (Bool))) :=
  match x with
  | (x4) => (bif (decide (x4 < (a0.length : Int))) then (idx a0 x4).bind fun b18 => (spec_l4Job b18).bind fun b22 => (bif (!b22) then some (LR.done (LR.done false)) else some (LR.next ((IntKind.i64.wrap (x4 + 1))))) else some (LR.done (LR.next ())))
noncomputable def spec_GoodJobs (a0 : List Job) : Option (Bool) :=
  (whl (spec_GoodJobs_l0 a0) (0)).bind fun y => match y with | LR.next () => some (decide ((a0.length : Int) ≤ 8)) | LR.done z => some z
noncomputable def spec_l4Demand_l0 (a0 : List Job) (a1 : Int) (a2 : Int) (x : (Int × Int)) : Option (LR (Int × Int) (Int)) :=
  match x with
  | (x5, x6) => (bif (decide (x6 < (a0.length : Int))) then ((idx a0 x6).bind fun b25 => ((bif (decide (a1 ≤ b25.Start)) then some ((decide (b25.End ≤ a2))) else some (false))).bind fun x29 => ((bif x29 then some ((IntKind.i64.wrap (x5 + b25.Need))) else some (x5))).bind fun x34 => some (x34)).bind fun x20 => some (LR.next (x20, (IntKind.i64.wrap (x6 + 1)))) else some (LR.done (x5)))
noncomputable def spec_l4Demand (a0 : List Job) (a1 : Int) (a2 : Int) : Option (Int) :=
  (whl (spec_l4Demand_l0 a0 a1 a2) (0, 0)).bind fun x7 => some x7
noncomputable def spec_FirstOverload_l0 (a0 : List Job) (x8 : Int) (x : (Int)) : Option (LR (Int) (LR Unit (LR (Int) (LR Unit (Int × Int × Bool × Bool))))) :=
  match x with
  | (x22) => (bif (decide (x22 ≤ 24)) then (spec_l4Demand a0 x8 x22).bind fun b36 => (bif (decide ((IntKind.i64.wrap (x22 - x8)) < b36)) then some (LR.done (LR.done (LR.done (LR.done (x8, x22, true, true))))) else some (LR.next ((IntKind.i64.wrap (x22 + 1))))) else some (LR.done (LR.next ())))
noncomputable def spec_FirstOverload_l1 (a0 : List Job) (x : (Int)) : Option (LR (Int) (LR Unit (Int × Int × Bool × Bool))) :=
  match x with
  | (x8) => (bif (decide (x8 < 24)) then (whl (spec_FirstOverload_l0 a0 x8) ((IntKind.i64.wrap (x8 + 1)))).bind fun y => match y with | LR.next () => some (LR.next ((IntKind.i64.wrap (x8 + 1)))) | LR.done z => some z else some (LR.done (LR.next ())))
noncomputable def spec_FirstOverload (a0 : List Job) : Option (Int × Int × Bool × Bool) :=
  (spec_GoodJobs a0).bind fun b4 => (bif (!b4) then some (0, 0, false, false) else (whl (spec_FirstOverload_l1 a0) (0)).bind fun y => match y with | LR.next () => some (0, 0, false, true) | LR.done z => some z)
noncomputable def impl_earliest_l0 (a0 : List Job) (x11 : List Int) (x12 : Int) (x : (Int × Int)) : Option (LR (Int × Int) (Int)) :=
  match x with
  | (x31, x32) => (bif (decide (x32 < (a0.length : Int))) then ((idx a0 x32).bind fun b51 => ((bif (decide (b51.Start ≤ x12)) then (idx x11 x32).bind fun b60 => (bif (decide (b60 < b51.Need)) then (bif (decide (x31 < 0)) then some (true) else (idx a0 x31).bind fun b62 => some ((decide (b51.End < b62.End)))) else some (false)) else some (false))).bind fun x55 => ((bif x55 then some (x32) else some (x31))).bind fun x63 => some (x63)).bind fun x46 => some (LR.next (x46, (IntKind.i64.wrap (x32 + 1)))) else some (LR.done (x31)))
noncomputable def impl_earliest_l1 (a0 : List Job) (x : ((List Int) × (List Int) × Int)) : Option (LR ((List Int) × (List Int) × Int) ((List Int))) :=
  match x with
  | (x8, x11, x12) => (bif (decide (x12 < 24)) then (whl (impl_earliest_l0 a0 x11 x12) (-1, 0)).bind fun x33 => ((bif (decide (0 ≤ x33)) then (idx x11 x33).bind fun b77 => (idx x11 x33).bind fun _b79 => some ((x11.set x33.toNat (IntKind.i64.wrap (b77 + 1)))) else some (x11))).bind fun x72 => (app 8 x8 ([x33] : List Int)).bind fun x83 => some (LR.next (x83, x72, (IntKind.i64.wrap (x12 + 1)))) else some (LR.done (x8)))
noncomputable def impl_earliest (a0 : List Job) : Option (List Int) :=
  (mkL 8 (a0.length : Int) (0 : Int)).bind fun x5 => (whl (impl_earliest_l1 a0) ([], x5, 0)).bind fun x13 => some x13
noncomputable def impl_late_l0 (x8 : Int) (x35 : List Int) (x : (Int × Int)) : Option (LR (Int × Int) (Int)) :=
  match x with
  | (x36, x37) => (bif (decide (x37 < (x35.length : Int))) then ((idx x35 x37).bind fun b56 => ((bif (b56 == x8) then some ((IntKind.i64.wrap (x36 + 1))) else some (x36))).bind fun x58 => some (x58)).bind fun x51 => some (LR.next (x51, (IntKind.i64.wrap (x37 + 1)))) else some (LR.done (x36)))
noncomputable def impl_late_l1 (a0 : List Job) (a1 : List Int) (x : ((List Int) × Int)) : Option (LR ((List Int) × Int) ((List Int))) :=
  match x with
  | (x5, x8) => (bif (decide (x8 < (a0.length : Int))) then ((idx a0 x8).bind fun b29 => (slc a1 0 b29.End).bind fun x35 => (whl (impl_late_l0 x8 x35) (0, 0)).bind fun x38 => ((bif (decide (x38 < b29.Need)) then (app 8 x5 ([x8] : List Int)).bind fun x75 => some (x75) else some (x5))).bind fun x66 => some (x66)).bind fun x23 => some (LR.next (x23, (IntKind.i64.wrap (x8 + 1)))) else some (LR.done (x5)))
noncomputable def impl_late (a0 : List Job) (a1 : List Int) : Option (List Int) :=
  (whl (impl_late_l1 a0 a1) ([], 0)).bind fun x9 => some x9
noncomputable def impl_canMeet (a0 : List Job) : Option (Bool) :=
  (impl_earliest a0).bind fun b3 => (impl_late a0 b3).bind fun b6 => some ((b6.length : Int) == 0)
noncomputable def impl_CanMeet (a0 : List Job) : Option (Bool × Bool) :=
  (impl_areJobs a0).bind fun b4 => (bif (!b4) then some (false, false) else (impl_canMeet a0).bind fun b7 => some (b7, true))
noncomputable def impl_DemandIn (a0 : List Job) (a1 : Int) (a2 : Int) : Option (Int × Bool) :=
  ((impl_areJobs a0).bind fun b9 => (bif (!b9) then some (true) else (impl_in a2 0 24).bind fun b10 => (bif (!b10) then some (true) else (impl_in a1 0 (IntKind.i64.wrap (a2 - 1))).bind fun b11 => some ((!b11))))).bind fun x4 => (bif x4 then some (0, false) else (impl_demand a0 a1 a2).bind fun b14 => some (b14, true))
noncomputable def spec_DrawDemandIn (a0 : List Int) : Option (List Job × Int × Int) :=
  (spec_l1Cur_pick (⟨a0, 0, 0⟩ : L1Cur) 20).bind fun (b7, b8) => (spec_l1Cur_jobs b8).bind fun (b11, b12) => (spec_l1Cur_pick b12 10).bind fun (b16, _b17) => some (b11, (IntKind.i64.wrap (b7 - 1)), (IntKind.i64.wrap ((IntKind.i64.wrap (b7 - 1)) + b16)))
noncomputable def spec_DemandIn (a0 : List Job) (a1 : Int) (a2 : Int) : Option (Int × Bool) :=
  ((spec_GoodJobs a0).bind fun b9 => (bif (!b9) then some (true) else (spec_l1In a1 0 24).bind fun b10 => (bif (!b10) then some (true) else (spec_l1In a2 (IntKind.i64.wrap (a1 + 1)) 24).bind fun b11 => some ((!b11))))).bind fun x4 => (bif x4 then some (0, false) else (spec_l4Demand a0 a1 a2).bind fun b14 => some (b14, true))
noncomputable def spec_DrawAdmitJob (a0 : List Int) : Option (List Job × Job) :=
  (spec_l1Cur_jobs (⟨a0, 0, 0⟩ : L1Cur)).bind fun (b9, b10) => (spec_l1Cur_job b10).bind fun (b14, _b15) => some (b9, b14)
noncomputable def slices_Clone_impl_Job (a0 : List Job) : Option (List Job) :=
  app 24 [] a0
noncomputable def impl_AdmitJob (a0 : List Job) (a1 : Job) : Option (List Job × Bool) :=
  (slices_Clone_impl_Job a0).bind fun b5 => (app 24 b5 ([a1] : List Job)).bind fun x11 => ((impl_areJobs x11).bind fun b21 => (bif (!b21) then some (true) else (impl_canMeet x11).bind fun b22 => some ((!b22)))).bind fun x16 => (bif x16 then some ([], false) else some (x11, true))
noncomputable def spec_l4Earliest_l0 (a0 : List Job) (x9 : List Int) (x13 : Int) (x : (Int × Int)) : Option (LR (Int × Int) (Int)) :=
  match x with
  | (x31, x32) => (bif (decide (x32 < (a0.length : Int))) then ((idx a0 x32).bind fun b51 => ((bif (decide (b51.Start ≤ x13)) then (idx x9 x32).bind fun b60 => (bif (decide (b60 < b51.Need)) then (bif (decide (x31 < 0)) then some (true) else (idx a0 x31).bind fun b62 => some ((decide (b51.End < b62.End)))) else some (false)) else some (false))).bind fun x55 => ((bif x55 then some (x32) else some (x31))).bind fun x63 => some (x63)).bind fun x46 => some (LR.next (x46, (IntKind.i64.wrap (x32 + 1)))) else some (LR.done (x31)))
noncomputable def spec_l4Earliest_l1 (a0 : List Job) (x : ((List Int) × (List Int) × Int)) : Option (LR ((List Int) × (List Int) × Int) ((List Int))) :=
  match x with
  | (x9, x10, x13) => (bif (decide (x13 < 24)) then (whl (spec_l4Earliest_l0 a0 x9 x13) (-1, 0)).bind fun x33 => ((bif (decide (0 ≤ x33)) then (idx x9 x33).bind fun b77 => (idx x9 x33).bind fun _b79 => some ((x9.set x33.toNat (IntKind.i64.wrap (b77 + 1)))) else some (x9))).bind fun x72 => (app 8 x10 ([x33] : List Int)).bind fun x83 => some (LR.next (x72, x83, (IntKind.i64.wrap (x13 + 1)))) else some (LR.done (x10)))
noncomputable def spec_l4Earliest (a0 : List Job) : Option (List Int) :=
  (mkL 8 (a0.length : Int) (0 : Int)).bind fun x5 => (whl (spec_l4Earliest_l1 a0) (x5, [], 0)).bind fun x14 => some x14
noncomputable def spec_l4Late_l0 (a1 : List Int) (x8 : Int) (b29 : Job) (x : (Int × Int)) : Option (LR (Int × Int) (Int)) :=
  match x with
  | (x35, x36) => (bif (decide (x36 < b29.End)) then (idx a1 x36).bind fun b50 => (spec_l1Bit (b50 == x8)).bind fun b51 => some (LR.next ((IntKind.i64.wrap (x35 + b51)), (IntKind.i64.wrap (x36 + 1)))) else some (LR.done (x35)))
noncomputable def spec_l4Late_l1 (a0 : List Job) (a1 : List Int) (x : ((List Int) × Int)) : Option (LR ((List Int) × Int) ((List Int))) :=
  match x with
  | (x5, x8) => (bif (decide (x8 < (a0.length : Int))) then ((idx a0 x8).bind fun b29 => (whl (spec_l4Late_l0 a1 x8 b29) (0, 0)).bind fun x37 => ((bif (decide (x37 < b29.Need)) then (app 8 x5 ([x8] : List Int)).bind fun x64 => some (x64) else some (x5))).bind fun x55 => some (x55)).bind fun x23 => some (LR.next (x23, (IntKind.i64.wrap (x8 + 1)))) else some (LR.done (x5)))
noncomputable def spec_l4Late (a0 : List Job) (a1 : List Int) : Option (List Int) :=
  (whl (spec_l4Late_l1 a0 a1) ([], 0)).bind fun x9 => some x9
noncomputable def spec_l4Meet (a0 : List Job) : Option (Bool) :=
  (spec_l4Earliest a0).bind fun b3 => (spec_l4Late a0 b3).bind fun b6 => some ((b6.length : Int) == 0)
noncomputable def spec_AdmitJob (a0 : List Job) (a1 : Job) : Option (List Job × Bool) :=
  ((spec_GoodJobs a0).bind fun b11 => (bif (!b11) then some (true) else (spec_l4Job a1).bind fun b12 => (bif (!b12) then some (true) else some (((a0.length : Int) == 8))))).bind fun x6 => (bif x6 then some ([], false) else (app 24 ([] : List Job) a0).bind fun x16 => (app 24 x16 ([a1] : List Job)).bind fun x21 => (spec_l4Meet x21).bind fun b26 => (bif (!b26) then some ([], false) else some (x21, true)))
noncomputable def laws_sameJobs_l0 (a0 : List Job) (a1 : List Job) (x : (Int)) : Option (LR (Int) (LR Unit (Bool))) :=
  match x with
  | (x7) => (bif (decide (x7 < (a0.length : Int))) then (idx a0 x7).bind fun b22 => (idx a1 x7).bind fun b23 => (bif (!((b22.Start == b23.Start) && ((b22.Need == b23.Need) && ((b22.End == b23.End) && true)))) then some (LR.done (LR.done false)) else some (LR.next ((IntKind.i64.wrap (x7 + 1))))) else some (LR.done (LR.next ())))
noncomputable def laws_sameJobs (a0 : List Job) (a1 : List Job) : Option (Bool) :=
  (bif ((a0.length : Int) != (a1.length : Int)) then some false else (whl (laws_sameJobs_l0 a0 a1) (0)).bind fun y => match y with | LR.next () => some true | LR.done z => some z)
noncomputable def laws_FnDemand (a0 : List Int) (a1 : List Int) : Option (Bool) :=
  (bif (decide (1048576 < (IntKind.i64.wrap ((a0.length : Int) + (a1.length : Int))))) then some true else (spec_DrawFirstOverload a0).bind fun b6 => (impl_FirstOverload b6).bind fun (b11, b12, b13, b14) => (spec_FirstOverload b6).bind fun (b17, b18, b19, b20) => ((bif (!(b14 == b20)) then some (true) else (bif (!(b13 == b19)) then some (true) else (bif (b11 != b17) then some (true) else some ((b12 != b18)))))).bind fun x23 => (bif x23 then some false else ((bif b14 then (impl_CanMeet b6).bind fun (b37, b38) => ((bif (!b38) then some (true) else some ((b37 == b13)))).bind fun x41 => (bif x41 then some (LR.done false) else ((bif b13 then (impl_DemandIn b6 b11 b12).bind fun (b56, b57) => ((bif (!b57) then some (true) else some ((decide (b56 ≤ (IntKind.i64.wrap (b12 - b11))))))).bind fun x59 => (bif x59 then some (LR.done (LR.done false)) else some (LR.next ())) else some (LR.next ()))).bind fun y => match y with | LR.next () => some (LR.next ()) | LR.done z => some z) else some (LR.next ()))).bind fun y => match y with | LR.next () => (spec_DrawDemandIn a1).bind fun (b71, b72, b73) => (impl_DemandIn b71 b72 b73).bind fun (b78, b79) => (spec_DemandIn b71 b72 b73).bind fun (b82, b83) => (spec_DrawAdmitJob a1).bind fun (b86, b87) => (impl_AdmitJob b86 b87).bind fun (b94, b95) => (spec_AdmitJob b86 b87).bind fun (b101, b102) => ((bif (!(b79 == b83)) then some (true) else (bif (b78 != b82) then some (true) else (bif (!(b95 == b102)) then some (true) else (laws_sameJobs b94 b101).bind fun b113 => some ((!b113)))))).bind fun x108 => (bif x108 then some false else (bif b95 then (impl_CanMeet b94).bind fun (b119, b120) => (impl_CanMeet b86).bind fun (b123, b124) => (bif b120 then (bif b119 then (bif b124 then (bif b123 then some ((b94.length : Int) == (IntKind.i64.wrap ((b86.length : Int) + 1))) else some false) else some false) else some false) else some false) else some true)) | LR.done z => some z))
noncomputable def spec_EarliestFirst (a0 : List Job) : Option (List Int × Bool) :=
  (spec_GoodJobs a0).bind fun b4 => (bif (!b4) then some ([], false) else (spec_l4Earliest a0).bind fun b7 => some (b7, true))
noncomputable def spec_DrawIsSchedule_l0 (x : ((List Int) × Int × (List Int) × Int × Int)) : Option (LR ((List Int) × Int × (List Int) × Int × Int) ((List Int) × (List Int) × Int × Int)) :=
  match x with
  | (x23, x24, x25, x26, x27) => ((bif (decide (0 < x24)) then some ((decide (0 < (x23.length : Int)))) else some (false))).bind fun x42 => (bif x42 then (spec_l1Cur_pick (⟨x25, x26, x27⟩ : L1Cur) (x23.length : Int)).bind fun (b51, b52) => (spec_l1Cur_pick b52 (x23.length : Int)).bind fun (b55, b56) => (idx x23 b51).bind fun b58 => (idx x23 b55).bind fun b61 => (idx x23 b51).bind fun _b63 => (idx (x23.set b51.toNat b61) b55).bind fun _b65 => some (LR.next (((x23.set b51.toNat b61).set b55.toNat b58), (IntKind.i64.wrap (x24 - 1)), b56.Code, b56.At, b56.Seed)) else some (LR.done (x23, x25, x26, x27)))
noncomputable def spec_DrawIsSchedule (a0 : List Int) : Option (List Job × List Int) :=
  (spec_l1Cur_jobs (⟨a0, 0, 0⟩ : L1Cur)).bind fun (b7, b8) => (spec_EarliestFirst b7).bind fun (b13, _b14) => (spec_l1Cur_pick b8 6).bind fun (b21, b22) => (whl (spec_DrawIsSchedule_l0) (b13, b21, b22.Code, b22.At, b22.Seed)).bind fun (x28, x29, x30, x31) => ((bif (decide (0 < (x28.length : Int))) then (spec_l1Cur_one (⟨x29, x30, x31⟩ : L1Cur) 12).bind fun (b80, b81) => some (b80, b81.Code, b81.At, b81.Seed) else some (false, x29, x30, x31))).bind fun (x71, x72, x73, x74) => ((bif x71 then (spec_l1Cur_pick (⟨x72, x73, x74⟩ : L1Cur) (x28.length : Int)).bind fun (b88, b89) => (spec_l1Cur_pick b89 9).bind fun (b91, _b92) => (idx x28 b88).bind fun _b93 => some ((x28.set b88.toNat (IntKind.i64.wrap (b91 - 2)))) else some (x28))).bind fun x82 => some (b7, x82)
noncomputable def spec_DrawLateIn (a0 : List Int) : Option (List Job × List Int) :=
  (spec_DrawIsSchedule a0).bind fun (b4, b5) => some (b4, b5)
noncomputable def impl_isPlan_1 (a0 : Int) (a1 : List Job) : Option (Bool) :=
  (impl_in a0 (-1) (IntKind.i64.wrap ((a1.length : Int) - 1))).bind fun b3 => some (!b3)
noncomputable def impl_isPlan (a0 : List Job) (a1 : List Int) : Option (Bool) :=
  (impl_areJobs a0).bind fun b5 => (bif b5 then (bif ((a1.length : Int) == 24) then (slices_ContainsFunc_int a1 (fun y0 => impl_isPlan_1 y0 a0)).bind fun b6 => some (!b6) else some false) else some false)
noncomputable def impl_isSchedule_l0 (a0 : List Job) (a1 : List Int) (x : ((List Int) × Int)) : Option (LR ((List Int) × Int) (LR Unit (Bool))) :=
  match x with
  | (x8, x9) => (bif (decide (x9 < (a1.length : Int))) then ((idx a1 x9).bind fun b27 => (bif (decide (b27 < 0)) then some (LR.next (x8)) else (idx x8 b27).bind fun b31 => (idx x8 b27).bind fun _b33 => ((idx a0 b27).bind fun b41 => (bif (decide (x9 < b41.Start)) then some (true) else (idx (x8.set b27.toNat (IntKind.i64.wrap (b31 + 1))) b27).bind fun b42 => (idx a0 b27).bind fun b44 => some ((decide (b44.Need < b42))))).bind fun x36 => (bif x36 then some (LR.done (LR.done (LR.done false))) else some (LR.next ((x8.set b27.toNat (IntKind.i64.wrap (b31 + 1)))))))).bind fun y => match y with | LR.next (x22) => some (LR.next (x22, (IntKind.i64.wrap (x9 + 1)))) | LR.done z => some z else some (LR.done (LR.next ())))
noncomputable def impl_isSchedule (a0 : List Job) (a1 : List Int) : Option (Bool) :=
  (mkL 8 (a0.length : Int) (0 : Int)).bind fun x5 => (whl (impl_isSchedule_l0 a0 a1) (x5, 0)).bind fun y => match y with | LR.next () => some true | LR.done z => some z
noncomputable def impl_LateIn (a0 : List Job) (a1 : List Int) : Option (List Int × Bool) :=
  ((impl_isPlan a0 a1).bind fun b9 => (bif (!b9) then some (true) else (impl_isSchedule a0 a1).bind fun b10 => some ((!b10)))).bind fun x4 => (bif x4 then some ([], false) else (impl_late a0 a1).bind fun b13 => some (b13, true))
noncomputable def spec_l4Schedule_l0 (a0 : List Job) (a1 : List Int) (x : ((List Int) × Int)) : Option (LR ((List Int) × Int) (LR Unit (Bool))) :=
  match x with
  | (x17, x18) => (bif (decide (x18 < (a1.length : Int))) then ((idx a1 x18).bind fun b36 => (bif (decide (b36 < 0)) then some (LR.next (x17)) else (idx x17 b36).bind fun b40 => (idx x17 b36).bind fun _b42 => ((idx a0 b36).bind fun b50 => (bif (decide (x18 < b50.Start)) then some (true) else (idx (x17.set b36.toNat (IntKind.i64.wrap (b40 + 1))) b36).bind fun b51 => (idx a0 b36).bind fun b53 => some ((decide (b53.Need < b51))))).bind fun x45 => (bif x45 then some (LR.done (LR.done (LR.done false))) else some (LR.next ((x17.set b36.toNat (IntKind.i64.wrap (b40 + 1)))))))).bind fun y => match y with | LR.next (x31) => some (LR.next (x31, (IntKind.i64.wrap (x18 + 1)))) | LR.done z => some z else some (LR.done (LR.next ())))
noncomputable def spec_l4Schedule (a0 : List Job) (a1 : List Int) : Option (Bool) :=
  ((bif ((a1.length : Int) != 24) then some (true) else (spec_l1All a1 (-1) (IntKind.i64.wrap ((a0.length : Int) - 1))).bind fun b9 => some ((!b9)))).bind fun x4 => (bif x4 then some false else (mkL 8 (a0.length : Int) (0 : Int)).bind fun x14 => (whl (spec_l4Schedule_l0 a0 a1) (x14, 0)).bind fun y => match y with | LR.next () => some true | LR.done z => some z)
noncomputable def spec_LateIn (a0 : List Job) (a1 : List Int) : Option (List Int × Bool) :=
  ((spec_GoodJobs a0).bind fun b9 => (bif (!b9) then some (true) else (spec_l4Schedule a0 a1).bind fun b10 => some ((!b10)))).bind fun x4 => (bif x4 then some ([], false) else (spec_l4Late a0 a1).bind fun b13 => some (b13, true))
noncomputable def impl_EarliestFirst (a0 : List Job) : Option (List Int × Bool) :=
  (impl_areJobs a0).bind fun b4 => (bif (!b4) then some ([], false) else (impl_earliest a0).bind fun b7 => some (b7, true))
noncomputable def spec_CanMeet (a0 : List Job) : Option (Bool × Bool) :=
  (spec_GoodJobs a0).bind fun b4 => (bif (!b4) then some (false, false) else (spec_l4Meet a0).bind fun b7 => some (b7, true))
noncomputable def impl_GoodJobs (a0 : List Job) : Option (Bool) :=
  (impl_areJobs a0).bind fun b3 => some b3
noncomputable def impl_IsSchedule (a0 : List Job) (a1 : List Int) : Option (Bool × Bool) :=
  (impl_areJobs a0).bind fun b4 => (bif (!b4) then some (false, false) else (impl_isPlan a0 a1).bind fun b7 => (bif b7 then (impl_isSchedule a0 a1).bind fun b8 => some (b8, true) else some (false, true)))
noncomputable def spec_IsSchedule (a0 : List Job) (a1 : List Int) : Option (Bool × Bool) :=
  (spec_GoodJobs a0).bind fun b4 => (bif (!b4) then some (false, false) else (spec_l4Schedule a0 a1).bind fun b7 => some (b7, true))
noncomputable def laws_FnEarliest (a0 : List Int) (a1 : List Int) : Option (Bool) :=
  (bif (decide (1048576 < (IntKind.i64.wrap ((a0.length : Int) + (a1.length : Int))))) then some true else (spec_DrawLateIn a0).bind fun (b7, b8) => (impl_LateIn b7 b8).bind fun (b15, b16) => (spec_LateIn b7 b8).bind fun (b22, b23) => (impl_EarliestFirst b7).bind fun (b29, b30) => (spec_EarliestFirst b7).bind fun (b36, b37) => (impl_CanMeet b7).bind fun (b43, b44) => (spec_CanMeet b7).bind fun (b47, b48) => ((bif (!(b16 == b23)) then some (true) else (laws_sameInts b15 b22).bind fun b56 => (bif (!b56) then some (true) else (bif (!(b30 == b37)) then some (true) else (laws_sameInts b29 b36).bind fun b57 => (bif (!b57) then some (true) else (bif (!(b44 == b48)) then some (true) else (bif (!(b43 == b47)) then some (true) else (impl_GoodJobs b7).bind fun b58 => some ((!(b58 == b37)))))))))).bind fun x51 => (bif x51 then some false else ((bif b30 then (impl_IsSchedule b7 b29).bind fun (b68, b69) => (impl_LateIn b7 b29).bind fun (b72, b73) => ((bif (!b69) then some (true) else (bif (!b68) then some (true) else (bif (!b73) then some (true) else (bif (!b44) then some (true) else (bif (!(b43 == ((b72.length : Int) == 0))) then some (true) else (bif b16 then (bif ((b15.length : Int) == 0) then some ((!b43)) else some (false)) else some (false)))))))).bind fun x78 => (bif x78 then some (LR.done false) else some (LR.next ())) else some (LR.next ()))).bind fun y => match y with | LR.next () => (spec_DrawIsSchedule a1).bind fun (b88, b89) => (impl_IsSchedule b88 b89).bind fun (b96, b97) => (spec_IsSchedule b88 b89).bind fun (b100, b101) => (bif (b97 == b101) then some (b96 == b100) else some false) | LR.done z => some z))
noncomputable def spec_DrawConforms (a0 : List Int) : Option (Int × Int × List Int) :=
  (spec_l1Cur_rate (⟨a0, 0, 0⟩ : L1Cur)).bind fun (b7, b8, b9) => (spec_l1Cur_flow b9).bind fun (b12, b13) => (spec_ShapeFlow b7 b8 b12).bind fun (b19, _b20, b21) => ((bif b21 then (spec_l1Cur_one b13 2).bind fun (b35, _b36) => some (b35) else some (false))).bind fun x29 => (bif x29 then some (b7, b8, b19) else some (b7, b8, b12))
noncomputable def laws_numberOf_l0 (a0 : List Int) (x : (Int × Int)) : Option (LR (Int × Int) (Int)) :=
  match x with
  | (x5, x6) => (bif (decide (x6 < (a0.length : Int))) then (idx a0 x6).bind fun b21 => some (LR.next ((Int.tmod (IntKind.i64.wrap ((IntKind.i64.wrap (31 * x5)) + (IntKind.i64.wrap b21))) 1000003), (IntKind.i64.wrap (x6 + 1)))) else some (LR.done (x5)))
noncomputable def laws_numberOf (a0 : List Int) : Option (Int) :=
  (whl (laws_numberOf_l0 a0) (0, 0)).bind fun x7 => some x7
noncomputable def impl_PassThrough_1 (_a0 : Int) (a1 : Int) (a2 : Int) : Option (Int) :=
  some (if a2 < a1 then a2 else a1)
noncomputable def impl_serve_l0 (a0 : List Int) (g1 : Int → Int → Option Int) (x : ((List Int) × (List Int) × Int × Int)) : Option (LR ((List Int) × (List Int) × Int × Int) ((List Int) × (List Int))) :=
  match x with
  | (x5, x8, x11, x12) => (bif (decide (x12 < (a0.length : Int))) then (idx a0 x12).bind fun b30 => (g1 x12 (IntKind.i64.wrap (x11 + b30))).bind fun b33 => (app 8 x5 ([b33] : List Int)).bind fun x37 => (app 8 x8 ([(IntKind.i64.wrap ((IntKind.i64.wrap (x11 + b30)) - b33))] : List Int)).bind fun x42 => some (LR.next (x37, x42, (IntKind.i64.wrap ((IntKind.i64.wrap (x11 + b30)) - b33)), (IntKind.i64.wrap (x12 + 1)))) else some (LR.done (x5, x8)))
noncomputable def impl_serve (a0 : List Int) (g1 : Int → Int → Option Int) : Option (List Int × List Int × Bool) :=
  (whl (impl_serve_l0 a0 g1) ([], [], 0, 0)).bind fun (x13, x15) => some (x13, x15, true)
noncomputable def impl_PassThrough (a0 : List Int) (a1 : Int) : Option (List Int × List Int × Bool) :=
  ((impl_isFlow a0).bind fun b11 => (bif (!b11) then some (true) else (impl_in a1 1 60).bind fun b12 => some ((!b12)))).bind fun x6 => (bif x6 then some ([], [], false) else (impl_serve a0 (fun y0 y1 => impl_PassThrough_1 y0 y1 a1)).bind fun (b16, b17, b18) => some (b16, b17, b18))
noncomputable def impl_WorstDelay_l0 (a0 : List Int) (a1 : List Int) (x : ((List Int) × (List Int) × Int × Int × Int)) : Option (LR ((List Int) × (List Int) × Int × Int × Int) (LR ((List Int) × (List Int)) (Int × Bool))) :=
  match x with
  | (x15, x18, x21, x22, x23) => (bif (decide (x23 < (a0.length : Int))) then (idx a0 x23).bind fun b41 => ((idx a1 x23).bind fun b50 => (bif (decide (b50 < 0)) then some (true) else (idx a1 x23).bind fun b51 => some ((decide ((IntKind.i64.wrap ((IntKind.i64.wrap (x21 + b41)) - x22)) < b51))))).bind fun x45 => (bif x45 then some (LR.done (LR.done (0, false))) else (idx a1 x23).bind fun b58 => (app 8 x15 ([(IntKind.i64.wrap (x21 + b41))] : List Int)).bind fun x61 => (app 8 x18 ([(IntKind.i64.wrap (x22 + b58))] : List Int)).bind fun x66 => some (LR.next (x61, x66, (IntKind.i64.wrap (x21 + b41)), (IntKind.i64.wrap (x22 + b58)), (IntKind.i64.wrap (x23 + 1))))) else some (LR.done (LR.next (x15, x18))))
noncomputable def impl_WorstDelay_l1 (x26 : List Int) (x75 : Int) (b90 : Int) (x : (Int)) : Option (LR (Int) (Int)) :=
  match x with
  | (x94) => ((bif (decide ((IntKind.i64.wrap (x75 + x94)) < (x26.length : Int))) then (idx x26 (IntKind.i64.wrap (x75 + x94))).bind fun b111 => some ((decide (b111 < b90))) else some (false))).bind fun x106 => (bif x106 then some (LR.next ((IntKind.i64.wrap (x94 + 1)))) else some (LR.done (x94)))
noncomputable def impl_WorstDelay_l2 (x24 : List Int) (x26 : List Int) (x : (Int × Int)) : Option (LR (Int × Int) (Int)) :=
  match x with
  | (x74, x75) => (bif (decide (x75 < (x24.length : Int))) then (idx x24 x75).bind fun b90 => (whl (impl_WorstDelay_l1 x26 x75 b90) (0)).bind fun x95 => some (LR.next ((if x95 > x74 then x95 else x74), (IntKind.i64.wrap (x75 + 1)))) else some (LR.done (x74)))
noncomputable def impl_WorstDelay (a0 : List Int) (a1 : List Int) : Option (Int × Bool) :=
  ((impl_isFlow a0).bind fun b9 => (bif (!b9) then some (true) else some (((a1.length : Int) != (a0.length : Int))))).bind fun x4 => (bif x4 then some (0, false) else (whl (impl_WorstDelay_l0 a0 a1) ([], [], 0, 0, 0)).bind fun y => match y with | LR.next (x24, x26) => (whl (impl_WorstDelay_l2 x24 x26) (0, 0)).bind fun x76 => some (x76, true) | LR.done z => some z)
noncomputable def spec_DrawPassThrough (a0 : List Int) : Option (List Int × Int) :=
  (spec_l1Cur_flow (⟨a0, 0, 0⟩ : L1Cur)).bind fun (b7, b8) => (spec_l1Cur_among b8 ([0, 1, 3, 5, 20, 60, 61] : List Int)).bind fun (b14, _b15) => some (b7, b14)
noncomputable def spec_PassThrough_l0 (a0 : List Int) (a1 : Int) (x : ((List Int) × (List Int) × Int × Int)) : Option (LR ((List Int) × (List Int) × Int × Int) ((List Int) × (List Int))) :=
  match x with
  | (x16, x19, x22, x23) => (bif (decide (x23 < (a0.length : Int))) then (idx a0 x23).bind fun b41 => (spec_l1Least (IntKind.i64.wrap (x22 + b41)) a1).bind fun b44 => (app 8 x16 ([b44] : List Int)).bind fun x49 => (app 8 x19 ([(IntKind.i64.wrap ((IntKind.i64.wrap (x22 + b41)) - b44))] : List Int)).bind fun x54 => some (LR.next (x49, x54, (IntKind.i64.wrap ((IntKind.i64.wrap (x22 + b41)) - b44)), (IntKind.i64.wrap (x23 + 1)))) else some (LR.done (x16, x19)))
noncomputable def spec_PassThrough (a0 : List Int) (a1 : Int) : Option (List Int × List Int × Bool) :=
  ((spec_l7Flow a0).bind fun b9 => (bif (!b9) then some (true) else (spec_l1In a1 1 60).bind fun b10 => some ((!b10)))).bind fun x4 => (bif x4 then some ([], [], false) else (whl (spec_PassThrough_l0 a0 a1) ([], [], 0, 0)).bind fun (x24, x26) => some (x24, x26, true))
noncomputable def spec_DrawWorstDelay (a0 : List Int) : Option (List Int × List Int) :=
  (spec_l1Cur_flow (⟨a0, 0, 0⟩ : L1Cur)).bind fun (b7, b8) => (spec_l1Cur_pick b8 9).bind fun (b13, b14) => (spec_PassThrough b7 (IntKind.i64.wrap (1 + b13))).bind fun (b16, _b17, _b18) => ((bif (decide (0 < (b16.length : Int))) then (spec_l1Cur_one b14 6).bind fun (b36, b37) => some (b36, b37.Code, b37.At, b37.Seed) else some (false, b14.Code, b14.At, b14.Seed))).bind fun (x27, x28, x29, x30) => ((bif x27 then (spec_l1Cur_pick (⟨x28, x29, x30⟩ : L1Cur) (b16.length : Int)).bind fun (b44, b45) => (idx b16 b44).bind fun b46 => (spec_l1Cur_pick b45 3).bind fun (b49, _b50) => (idx b16 b44).bind fun _b51 => some ((b16.set b44.toNat (IntKind.i64.wrap (b46 + (IntKind.i64.wrap (b49 - 1)))))) else some (b16))).bind fun x38 => some (b7, x38)
noncomputable def spec_WorstDelay_l0 (a0 : List Int) (a1 : List Int) (x : (Int × Int × Int)) : Option (LR (Int × Int × Int) (LR Unit (Int × Bool))) :=
  match x with
  | (x16, x17, x18) => (bif (decide (x18 < (a0.length : Int))) then (idx a0 x18).bind fun b33 => (idx a1 x18).bind fun b35 => (bif (decide ((IntKind.i64.wrap (x16 + b33)) < (IntKind.i64.wrap (x17 + b35)))) then some (LR.done (LR.done (0, false))) else some (LR.next ((IntKind.i64.wrap (x16 + b33)), (IntKind.i64.wrap (x17 + b35)), (IntKind.i64.wrap (x18 + 1))))) else some (LR.done (LR.next ())))
noncomputable def spec_WorstDelay_l1 (a1 : List Int) (x48 : Int) (b66 : Int) (x : (Int × Int)) : Option (LR (Int × Int) (Int × Int)) :=
  match x with
  | (x70, x71) => ((bif (decide (x71 < (a1.length : Int))) then some ((decide (x70 < (IntKind.i64.wrap (x48 + b66))))) else some (false))).bind fun x84 => (bif x84 then (idx a1 x71).bind fun b91 => some (LR.next ((IntKind.i64.wrap (x70 + b91)), (IntKind.i64.wrap (x71 + 1)))) else some (LR.done (x70, x71)))
noncomputable def spec_WorstDelay_l2 (a0 : List Int) (a1 : List Int) (x : (Int × Int × Int)) : Option (LR (Int × Int × Int) (Int)) :=
  match x with
  | (x48, x49, x50) => (bif (decide (x50 < (a0.length : Int))) then (idx a0 x50).bind fun b66 => (whl (spec_WorstDelay_l1 a1 x48 b66) (0, 0)).bind fun (x72, x73) => ((bif (decide (x72 < (IntKind.i64.wrap (x48 + b66)))) then some ((IntKind.i64.wrap ((a0.length : Int) - x50))) else some ((IntKind.i64.wrap ((IntKind.i64.wrap (x73 - 1)) - x50))))).bind fun x97 => (spec_l1Most x49 x97).bind fun b102 => some (LR.next ((IntKind.i64.wrap (x48 + b66)), b102, (IntKind.i64.wrap (x50 + 1)))) else some (LR.done (x49)))
noncomputable def spec_WorstDelay (a0 : List Int) (a1 : List Int) : Option (Int × Bool) :=
  ((spec_l7Flow a0).bind fun b9 => (bif (!b9) then some (true) else (spec_l1All a1 0 2400).bind fun b10 => (bif (!b10) then some (true) else some (((a1.length : Int) != (a0.length : Int)))))).bind fun x4 => (bif x4 then some (0, false) else (whl (spec_WorstDelay_l0 a0 a1) (0, 0, 0)).bind fun y => match y with | LR.next () => (whl (spec_WorstDelay_l2 a0 a1) (0, 0, 0)).bind fun x51 => some (x51, true) | LR.done z => some z)
noncomputable def laws_FnDelays_l0 (b8 : Int) (b44 : List Int) (x : (Int)) : Option (LR (Int) (LR Unit (LR Unit (Bool)))) :=
  match x with
  | (x68) => (bif (decide (x68 < (b44.length : Int))) then (idx b44 x68).bind fun b82 => (bif (decide (b8 < b82)) then some (LR.done (LR.done (LR.done false))) else some (LR.next ((IntKind.i64.wrap (x68 + 1))))) else some (LR.done (LR.next ())))
noncomputable def laws_FnDelays (a0 : List Int) (a1 : List Int) : Option (Bool) :=
  (bif (decide (1048576 < (IntKind.i64.wrap ((a0.length : Int) + (a1.length : Int))))) then some true else (spec_DrawConforms a0).bind fun (b7, b8, b9) => (impl_Conforms b7 b8 b9).bind fun (b14, b15) => (spec_Conforms b7 b8 b9).bind fun (b18, b19) => ((bif (!(b15 == b19)) then some (true) else some ((!(b14 == b18))))).bind fun x22 => (bif x22 then some false else ((bif b15 then some (b14) else some (false))).bind fun x30 => ((bif x30 then (laws_numberOf a1).bind fun b40 => (impl_PassThrough b9 (IntKind.i64.wrap (b7 + (Int.tmod b40 10)))).bind fun (b43, b44, b45) => (impl_WorstDelay b9 b43).bind fun (b54, b55) => ((bif (!b45) then some (true) else (bif (!b55) then some (true) else (dv .i64 (IntKind.i64.wrap (b8 - 1)) (IntKind.i64.wrap (b7 + (Int.tmod b40 10)))).bind fun x63 => some ((decide (x63 < b54)))))).bind fun x58 => (bif x58 then some (LR.done false) else (whl (laws_FnDelays_l0 b8 b44) (0)).bind fun y => match y with | LR.next () => some (LR.next ()) | LR.done z => some z) else some (LR.next ()))).bind fun y => match y with | LR.next () => (spec_DrawPassThrough a1).bind fun (b96, b97) => (impl_PassThrough b96 b97).bind fun (b102, b103, b104) => (spec_PassThrough b96 b97).bind fun (b113, b114, b115) => (spec_DrawWorstDelay a1).bind fun (b124, b125) => (impl_WorstDelay b124 b125).bind fun (b132, b133) => (spec_WorstDelay b124 b125).bind fun (b136, b137) => (bif (b104 == b115) then (laws_sameInts b102 b113).bind fun b139 => (bif b139 then (laws_sameInts b103 b114).bind fun b140 => (bif b140 then (bif (b133 == b137) then some (b132 == b136) else some false) else some false) else some false) else some false) | LR.done z => some z))
noncomputable def spec_l1Cur_work (a0 : L1Cur) : Option (Work × L1Cur) :=
  (spec_l1Cur_one a0 40).bind fun (b7, b8) => (bif b7 then (spec_l1Cur_among b8 ([-1, 1000000, 1000001] : List Int)).bind fun (b13, b14) => some ((⟨b13, 0, 0⟩ : Work), b14) else (spec_l1Cur_pick b8 9).bind fun (b17, b18) => (spec_l1Cur_pick b18 3).bind fun (b20, b21) => (spec_l1Cur_pick b21 20).bind fun (b23, b24) => some ((⟨b17, b20, b23⟩ : Work), b24))
noncomputable def spec_l1Cur_works_l0 (x : ((List Work) × Int × (List Int) × Int × Int)) : Option (LR ((List Work) × Int × (List Int) × Int × Int) ((List Work) × (List Int) × Int × Int)) :=
  match x with
  | (x24, x27, x28, x29, x30) => (bif (decide (0 < x27)) then (spec_l1Cur_work (⟨x28, x29, x30⟩ : L1Cur)).bind fun (b49, b50) => (app 24 x24 ([b49] : List Work)).bind fun x53 => some (LR.next (x53, (IntKind.i64.wrap (x27 - 1)), b50.Code, b50.At, b50.Seed)) else some (LR.done (x24, x28, x29, x30)))
noncomputable def spec_l1Cur_works (a0 : L1Cur) : Option (List Work × L1Cur) :=
  (spec_l1Cur_pick a0 9).bind fun (b5, b6) => (spec_l1Cur_one b6 20).bind fun (b10, b11) => ((bif b10 then (spec_l1Cur_pick b11 3).bind fun (b21, b22) => some ((IntKind.i64.wrap (39 + b21)), b22.Code, b22.At, b22.Seed) else some (b5, b11.Code, b11.At, b11.Seed))).bind fun (x12, x13, x14, x15) => (whl (spec_l1Cur_works_l0) ([], x12, x13, x14, x15)).bind fun (x31, x33, x34, x35) => some (x31, (⟨x33, x34, x35⟩ : L1Cur))
noncomputable def spec_DrawMakeHeap (a0 : List Int) : Option (List Work) :=
  (spec_l1Cur_works (⟨a0, 0, 0⟩ : L1Cur)).bind fun (b7, _b8) => some b7
noncomputable def slices_IndexFunc_impl_Work_l0 (a0 : List Work) (g1 : Work → Option Bool) (x : (Int)) : Option (LR (Int) (LR Unit (Int))) :=
  match x with
  | (x4) => (bif (decide (x4 < (a0.length : Int))) then (idx a0 x4).bind fun b19 => (g1 b19).bind fun b20 => (bif b20 then some (LR.done (LR.done x4)) else some (LR.next ((IntKind.i64.wrap (x4 + 1))))) else some (LR.done (LR.next ())))
noncomputable def slices_IndexFunc_impl_Work (a0 : List Work) (g1 : Work → Option Bool) : Option (Int) :=
  (whl (slices_IndexFunc_impl_Work_l0 a0 g1) (0)).bind fun y => match y with | LR.next () => some (-1) | LR.done z => some z
noncomputable def slices_ContainsFunc_impl_Work (a0 : List Work) (g1 : Work → Option Bool) : Option (Bool) :=
  (slices_IndexFunc_impl_Work a0 g1).bind fun b3 => some (decide (0 ≤ b3))
noncomputable def impl_isWork (a0 : Work) : Option (Bool) :=
  (impl_in a0.End 0 1000000).bind fun b5 => (bif b5 then (impl_in a0.Rank 0 1000000).bind fun b6 => (bif b6 then (impl_in a0.Id 0 1000000).bind fun b7 => some b7 else some false) else some false)
noncomputable def impl_areWork_1 (a0 : Work) : Option (Bool) :=
  (impl_isWork a0).bind fun b5 => some (!b5)
noncomputable def impl_areWork (a0 : List Work) : Option (Bool) :=
  (bif (decide ((a0.length : Int) ≤ 40)) then (slices_ContainsFunc_impl_Work a0 impl_areWork_1).bind fun b3 => some (!b3) else some false)
noncomputable def slices_Clone_impl_Work (a0 : List Work) : Option (List Work) :=
  app 24 [] a0
noncomputable def cmp_Or_int_l0 (a0 : List Int) (x : (Int)) : Option (LR (Int) (LR Unit (Int))) :=
  match x with
  | (x5) => (bif (decide (x5 < (a0.length : Int))) then (idx a0 x5).bind fun b19 => (bif (b19 != 0) then some (LR.done (LR.done b19)) else some (LR.next ((IntKind.i64.wrap (x5 + 1))))) else some (LR.done (LR.next ())))
noncomputable def cmp_Or_int (a0 : List Int) : Option (Int) :=
  (whl (cmp_Or_int_l0 a0) (0)).bind fun y => match y with | LR.next () => some 0 | LR.done z => some z
noncomputable def impl_compareWork (a0 : Work) (a1 : Work) : Option (Int) :=
  (cmp_Or_int ([(IntKind.i64.wrap (a0.End - a1.End)), (IntKind.i64.wrap (a0.Rank - a1.Rank)), (IntKind.i64.wrap (a0.Id - a1.Id))] : List Int)).bind fun b9 => some b9
noncomputable def impl_down_l0 (x : ((List Work) × Int × Int)) : Option (LR ((List Work) × Int × Int) (Int × (List Work))) :=
  match x with
  | (x4, x5, x6) => (bif (decide ((IntKind.i64.wrap ((IntKind.i64.wrap (2 * x5)) + 1)) < (x4.length : Int))) then ((bif (decide ((IntKind.i64.wrap ((IntKind.i64.wrap ((IntKind.i64.wrap (2 * x5)) + 1)) + 1)) < (x4.length : Int))) then (idx x4 (IntKind.i64.wrap ((IntKind.i64.wrap ((IntKind.i64.wrap (2 * x5)) + 1)) + 1))).bind fun b28 => (idx x4 (IntKind.i64.wrap ((IntKind.i64.wrap (2 * x5)) + 1))).bind fun b30 => (impl_compareWork b28 b30).bind fun b32 => some ((decide (b32 < 0))) else some (false))).bind fun x23 => ((bif x23 then some ((IntKind.i64.wrap ((IntKind.i64.wrap ((IntKind.i64.wrap (2 * x5)) + 1)) + 1))) else some ((IntKind.i64.wrap ((IntKind.i64.wrap (2 * x5)) + 1))))).bind fun x33 => (idx x4 x33).bind fun b40 => (idx x4 x5).bind fun b42 => (impl_compareWork b40 b42).bind fun b44 => (bif (decide (0 ≤ b44)) then some (LR.done (x6, x4)) else (idx x4 x33).bind fun b48 => (idx x4 x5).bind fun b50 => (idx x4 x5).bind fun _b52 => (idx (x4.set x5.toNat b48) x33).bind fun _b54 => some (LR.next (((x4.set x5.toNat b48).set x33.toNat b50), x33, (IntKind.i64.wrap (x6 + 1))))) else some (LR.done (x6, x4)))
noncomputable def impl_down (a0 : List Work) (a1 : Int) : Option (Int × List Work) :=
  (whl (impl_down_l0) (a0, a1, 0)).bind fun (x7, x8) => some (x7, x8)
noncomputable def impl_made_l0 (x : ((List Work) × Int × Int)) : Option (LR ((List Work) × Int × Int) ((List Work) × Int)) :=
  match x with
  | (x8, x9, x10) => (bif (decide (0 ≤ x10)) then (impl_down x8 x10).bind fun (b26, b27) => some (LR.next (b27, (IntKind.i64.wrap (x9 + b26)), (IntKind.i64.wrap (x10 - 1)))) else some (LR.done (x8, x9)))
noncomputable def impl_made (a0 : List Work) : Option (List Work × Int) :=
  (slices_Clone_impl_Work a0).bind fun b3 => (whl (impl_made_l0) (b3, 0, (IntKind.i64.wrap ((IntKind.i64.wrap (Int.tdiv (a0.length : Int) 2)) - 1)))).bind fun (x11, x12) => some (x11, x12)
noncomputable def impl_MakeHeap (a0 : List Work) : Option (List Work × Bool) :=
  (impl_areWork a0).bind fun b4 => (bif (!b4) then some ([], false) else (impl_made a0).bind fun (b8, _b9) => some (b8, true))
noncomputable def spec_l3Work (a0 : Work) : Option (Bool) :=
  (spec_l1In a0.End 0 1000000).bind fun b5 => (bif b5 then (spec_l1In a0.Rank 0 1000000).bind fun b6 => (bif b6 then (spec_l1In a0.Id 0 1000000).bind fun b7 => some b7 else some false) else some false)
noncomputable def spec_l3Good_l0 (a0 : List Work) (x : (Int)) : Option (LR (Int) (LR Unit (Bool))) :=
  match x with
  | (x4) => (bif (decide (x4 < (a0.length : Int))) then (idx a0 x4).bind fun b18 => (spec_l3Work b18).bind fun b22 => (bif (!b22) then some (LR.done (LR.done false)) else some (LR.next ((IntKind.i64.wrap (x4 + 1))))) else some (LR.done (LR.next ())))
noncomputable def spec_l3Good (a0 : List Work) : Option (Bool) :=
  (whl (spec_l3Good_l0 a0) (0)).bind fun y => match y with | LR.next () => some (decide ((a0.length : Int) ≤ 40)) | LR.done z => some z
noncomputable def spec_l3Less (a0 : Work) (a1 : Work) : Option (Bool) :=
  (bif (a0.End != a1.End) then some (decide (a0.End < a1.End)) else (bif (a0.Rank != a1.Rank) then some (decide (a0.Rank < a1.Rank)) else some (decide (a0.Id < a1.Id))))
noncomputable def spec_l3Down_l0 (x3 : List Work) (x4 : Int) (x : (Int × Int)) : Option (LR (Int × Int) (Int)) :=
  match x with
  | (x20, x21) => (bif (decide (x21 < (([(IntKind.i64.wrap ((IntKind.i64.wrap (2 * x4)) + 1)), (IntKind.i64.wrap ((IntKind.i64.wrap (2 * x4)) + 2))] : List Int).length : Int))) then ((idx ([(IntKind.i64.wrap ((IntKind.i64.wrap (2 * x4)) + 1)), (IntKind.i64.wrap ((IntKind.i64.wrap (2 * x4)) + 2))] : List Int) x21).bind fun b40 => ((bif (decide (b40 < (x3.length : Int))) then (idx x3 b40).bind fun b48 => (idx x3 x20).bind fun b50 => (spec_l3Less b48 b50).bind fun b52 => some (b52) else some (false))).bind fun x43 => ((bif x43 then some (b40) else some (x20))).bind fun x53 => some (x53)).bind fun x35 => some (LR.next (x35, (IntKind.i64.wrap (x21 + 1)))) else some (LR.done (x20)))
noncomputable def spec_l3Down_l1 (x : ((List Work) × Int × Int)) : Option (LR ((List Work) × Int × Int) (LR Unit (Int × List Work))) :=
  match x with
  | (x3, x4, x5) => (whl (spec_l3Down_l0 x3 x4) (x4, 0)).bind fun x22 => (bif (x22 == x4) then some (LR.done (LR.done (x5, x3))) else (idx x3 x4).bind fun b68 => (idx x3 x22).bind fun b73 => (idx x3 x4).bind fun _b75 => (idx (x3.set x4.toNat b73) x22).bind fun _b78 => some (LR.next (((x3.set x4.toNat b73).set x22.toNat b68), x22, (IntKind.i64.wrap (x5 + 1)))))
noncomputable def spec_l3Down (a0 : List Work) (a1 : Int) : Option (Int × List Work) :=
  (whl (spec_l3Down_l1) (a0, a1, 0)).bind fun y => match y with | LR.next () => none | LR.done z => some z
noncomputable def spec_l3Make_l0 (x : ((List Work) × Int × Int)) : Option (LR ((List Work) × Int × Int) ((List Work) × Int)) :=
  match x with
  | (x10, x11, x12) => (bif (decide (0 ≤ x12)) then (spec_l3Down x10 x12).bind fun (b28, b29) => some (LR.next (b29, (IntKind.i64.wrap (x11 + b28)), (IntKind.i64.wrap (x12 - 1)))) else some (LR.done (x10, x11)))
noncomputable def spec_l3Make (a0 : List Work) : Option (List Work × Int) :=
  (app 24 ([] : List Work) a0).bind fun x4 => (whl (spec_l3Make_l0) (x4, 0, (IntKind.i64.wrap ((IntKind.i64.wrap (Int.tdiv (x4.length : Int) 2)) - 1)))).bind fun (x13, x14) => some (x13, x14)
noncomputable def spec_MakeHeap (a0 : List Work) : Option (List Work × Bool) :=
  (spec_l3Good a0).bind fun b4 => (bif (!b4) then some ([], false) else (spec_l3Make a0).bind fun (b8, _b9) => some (b8, true))
noncomputable def impl_StepsToMake (a0 : List Work) : Option (Int × Bool) :=
  (impl_areWork a0).bind fun b4 => (bif (!b4) then some (0, false) else (impl_made a0).bind fun (_b8, b9) => some (b9, true))
noncomputable def spec_StepsToMake (a0 : List Work) : Option (Int × Bool) :=
  (spec_l3Good a0).bind fun b4 => (bif (!b4) then some (0, false) else (spec_l3Make a0).bind fun (_b8, b9) => some (b9, true))
noncomputable def impl_pop (a0 : List Work) : Option (List Work × Work) :=
  (idx a0 0).bind fun b5 => (idx a0 (IntKind.i64.wrap ((a0.length : Int) - 1))).bind fun b10 => (idx a0 0).bind fun _b12 => (slc (a0.set (0 : Int).toNat b10) 0 (IntKind.i64.wrap ((a0.length : Int) - 1))).bind fun x15 => (impl_down x15 0).bind fun (_b20, b21) => some (b21, b5)
noncomputable def impl_SortWork_l0 (x : ((List Work) × (List Work))) : Option (LR ((List Work) × (List Work)) ((List Work))) :=
  match x with
  | (x14, x17) => (bif (decide (0 < (x17.length : Int))) then (impl_pop x17).bind fun (b38, b39) => (app 24 x14 ([b39] : List Work)).bind fun x44 => some (LR.next (x44, b38)) else some (LR.done (x14)))
noncomputable def impl_SortWork (a0 : List Work) : Option (List Work × Bool) :=
  (impl_areWork a0).bind fun b4 => (bif (!b4) then some ([], false) else (impl_made a0).bind fun (b10, _b11) => (whl (impl_SortWork_l0) ([], b10)).bind fun x20 => some (x20, true))
noncomputable def spec_l3Pop (a0 : List Work) : Option (List Work × Work) :=
  (app 24 ([] : List Work) a0).bind fun x6 => (idx x6 0).bind fun b10 => (idx x6 (IntKind.i64.wrap ((x6.length : Int) - 1))).bind fun b15 => (idx x6 0).bind fun _b17 => (slc (x6.set (0 : Int).toNat b15) 0 (IntKind.i64.wrap (((x6.set (0 : Int).toNat b15).length : Int) - 1))).bind fun x20 => ((bif (decide (0 < (x20.length : Int))) then (spec_l3Down x20 0).bind fun (_b31, b32) => some (b32) else some (x20))).bind fun x25 => some (x25, b10)
noncomputable def spec_SortWork_l0 (x : ((List Work) × (List Work))) : Option (LR ((List Work) × (List Work)) ((List Work))) :=
  match x with
  | (x14, x17) => (bif (decide (0 < (x14.length : Int))) then (spec_l3Pop x14).bind fun (b35, b36) => (app 24 x17 ([b36] : List Work)).bind fun x45 => some (LR.next (b35, x45)) else some (LR.done (x17)))
noncomputable def spec_SortWork (a0 : List Work) : Option (List Work × Bool) :=
  (spec_l3Good a0).bind fun b4 => (bif (!b4) then some ([], false) else (spec_l3Make a0).bind fun (b8, _b9) => (whl (spec_SortWork_l0) (b8, [])).bind fun x20 => some (x20, true))
noncomputable def laws_sameWorks_l0 (a0 : List Work) (a1 : List Work) (x : (Int)) : Option (LR (Int) (LR Unit (Bool))) :=
  match x with
  | (x7) => (bif (decide (x7 < (a0.length : Int))) then (idx a0 x7).bind fun b22 => (idx a1 x7).bind fun b23 => (bif (!((b22.End == b23.End) && ((b22.Rank == b23.Rank) && ((b22.Id == b23.Id) && true)))) then some (LR.done (LR.done false)) else some (LR.next ((IntKind.i64.wrap (x7 + 1))))) else some (LR.done (LR.next ())))
noncomputable def laws_sameWorks (a0 : List Work) (a1 : List Work) : Option (Bool) :=
  (bif ((a0.length : Int) != (a1.length : Int)) then some false else (whl (laws_sameWorks_l0 a0 a1) (0)).bind fun y => match y with | LR.next () => some true | LR.done z => some z)
noncomputable def impl_isHeap_l0 (a0 : List Work) (x : (Int)) : Option (LR (Int) (LR Unit (Bool))) :=
  match x with
  | (x8) => (bif (decide (x8 < (a0.length : Int))) then (idx a0 x8).bind fun b22 => (idx a0 (IntKind.i64.wrap (Int.tdiv (IntKind.i64.wrap (x8 - 1)) 2))).bind fun b23 => (impl_compareWork b22 b23).bind fun b24 => (bif (decide (b24 < 0)) then some (LR.done (LR.done false)) else some (LR.next ((IntKind.i64.wrap (x8 + 1))))) else some (LR.done (LR.next ())))
noncomputable def impl_isHeap (a0 : List Work) : Option (Bool) :=
  (impl_areWork a0).bind fun b4 => (bif (!b4) then some false else (whl (impl_isHeap_l0 a0) (1)).bind fun y => match y with | LR.next () => some true | LR.done z => some z)
noncomputable def impl_IsHeap (a0 : List Work) : Option (Bool × Bool) :=
  (impl_areWork a0).bind fun b4 => (bif (!b4) then some (false, false) else (impl_isHeap a0).bind fun b7 => some (b7, true))
noncomputable def laws_manyOf_l0 (a0 : List Work) (a1 : Work) (x : (Int × Int)) : Option (LR (Int × Int) (Int)) :=
  match x with
  | (x7, x8) => (bif (decide (x8 < (a0.length : Int))) then ((idx a0 x8).bind fun b27 => ((bif ((a1.End == b27.End) && ((a1.Rank == b27.Rank) && ((a1.Id == b27.Id) && true))) then some ((IntKind.i64.wrap (x7 + 1))) else some (x7))).bind fun x31 => some (x31)).bind fun x22 => some (LR.next (x22, (IntKind.i64.wrap (x8 + 1)))) else some (LR.done (x7)))
noncomputable def laws_manyOf (a0 : List Work) (a1 : Work) : Option (Int) :=
  (whl (laws_manyOf_l0 a0 a1) (0, 0)).bind fun x9 => some x9
noncomputable def impl_LessWork (a0 : Work) (a1 : Work) : Option (Bool × Bool) :=
  ((impl_isWork a0).bind fun b13 => (bif (!b13) then some (true) else (impl_isWork a1).bind fun b14 => some ((!b14)))).bind fun x8 => (bif x8 then some (false, false) else (impl_compareWork a0 a1).bind fun b17 => some ((decide (b17 < 0)), true))
noncomputable def spec_DrawLessWork (a0 : List Int) : Option (Work × Work) :=
  (spec_l1Cur_work (⟨a0, 0, 0⟩ : L1Cur)).bind fun (b11, b12) => (spec_l1Cur_work b12).bind fun (b14, _b15) => some (b11, b14)
noncomputable def spec_LessWork (a0 : Work) (a1 : Work) : Option (Bool × Bool) :=
  ((spec_l3Work a0).bind fun b13 => (bif (!b13) then some (true) else (spec_l3Work a1).bind fun b14 => some ((!b14)))).bind fun x8 => (bif x8 then some (false, false) else (spec_l3Less a0 a1).bind fun b17 => some (b17, true))
noncomputable def laws_FnSorted_l0 (b6 : List Work) (b11 : List Work) (b33 : List Work) (x : (Int)) : Option (LR (Int) (LR Unit (LR Unit (Bool)))) :=
  match x with
  | (x76) => (bif (decide (x76 < (b33.length : Int))) then ((idx b33 x76).bind fun b93 => ((laws_manyOf b33 b93).bind fun b104 => (laws_manyOf b6 b93).bind fun b105 => (bif (b104 != b105) then some (true) else (laws_manyOf b11 b93).bind fun b106 => (laws_manyOf b6 b93).bind fun b107 => some ((b106 != b107)))).bind fun x99 => (bif x99 then some (LR.done (LR.done (LR.done (LR.done false)))) else ((bif (decide (0 < x76)) then (idx b33 (IntKind.i64.wrap (x76 - 1))).bind fun b123 => (impl_LessWork b93 b123).bind fun (b126, b127) => ((bif (!b127) then some (true) else some (b126))).bind fun x129 => (bif x129 then some (LR.done (LR.done (LR.done (LR.done (LR.done false))))) else some (LR.next ())) else some (LR.next ()))).bind fun y => match y with | LR.next () => some (LR.next ()) | LR.done z => some z)).bind fun y => match y with | LR.next () => some (LR.next ((IntKind.i64.wrap (x76 + 1)))) | LR.done z => some z else some (LR.done (LR.next ())))
noncomputable def laws_FnSorted (a0 : List Int) (a1 : List Int) : Option (Bool) :=
  (bif (decide (1048576 < (IntKind.i64.wrap ((a0.length : Int) + (a1.length : Int))))) then some true else (spec_DrawMakeHeap a0).bind fun b6 => (impl_MakeHeap b6).bind fun (b11, b12) => (spec_MakeHeap b6).bind fun (b18, b19) => (impl_StepsToMake b6).bind fun (b25, b26) => (spec_StepsToMake b6).bind fun (b29, b30) => (impl_SortWork b6).bind fun (b33, b34) => (spec_SortWork b6).bind fun (b40, b41) => ((bif (!(b12 == b19)) then some (true) else (laws_sameWorks b11 b18).bind fun b52 => (bif (!b52) then some (true) else (bif (!(b26 == b30)) then some (true) else (bif (b25 != b29) then some (true) else (bif (!(b34 == b41)) then some (true) else (laws_sameWorks b33 b40).bind fun b53 => some ((!b53)))))))).bind fun x47 => (bif x47 then some false else ((bif b12 then (impl_IsHeap b11).bind fun (b63, b64) => ((bif (!b64) then some (true) else (bif (!b63) then some (true) else (bif (!b26) then some (true) else (bif (decide ((b6.length : Int) < b25)) then some (true) else (bif (decide (0 < (b6.length : Int))) then (bif (decide ((b6.length : Int) ≤ b25)) then some (true) else (bif (!b34) then some (true) else some (((b33.length : Int) != (b6.length : Int))))) else (bif (!b34) then some (true) else some (((b33.length : Int) != (b6.length : Int)))))))))).bind fun x67 => (bif x67 then some (LR.done false) else (whl (laws_FnSorted_l0 b6 b11 b33) (0)).bind fun y => match y with | LR.next () => some (LR.next ()) | LR.done z => some z) else some (LR.next ()))).bind fun y => match y with | LR.next () => (spec_DrawLessWork a1).bind fun (b149, b150) => (impl_LessWork b149 b150).bind fun (b157, b158) => (spec_LessWork b149 b150).bind fun (b161, b162) => ((bif (!(b158 == b162)) then some (true) else some ((!(b157 == b161))))).bind fun x165 => (bif x165 then some false else (bif b158 then (impl_LessWork b150 b149).bind fun (b175, b176) => (bif b176 then (bif b157 then (bif (!b175) then some true else some false) else (bif b175 then some true else some ((b149.End == b150.End) && ((b149.Rank == b150.Rank) && ((b149.Id == b150.Id) && true))))) else some false) else some true)) | LR.done z => some z))
noncomputable def spec_l1Cur_number (a0 : L1Cur) : Option (Int × L1Cur) :=
  (spec_l1Cur_one a0 3).bind fun (b5, b6) => (bif b5 then (spec_l1Cur_among b6 ([0, 63, 64, 16383, 16384, 1073741823, 1073741824, 1152921504606846975, 1152921504606846976, -1] : List Int)).bind fun (b11, b12) => some (b11, b12) else (spec_l1Cur_pick b6 256).bind fun (b15, b16) => (spec_l1Cur_among b16 ([1, 3, 1000, 99991] : List Int)).bind fun (b20, b21) => some ((IntKind.i64.wrap (b15 * b20)), b21))
noncomputable def spec_l1Cur_numbers_l0 (x : ((List Int) × Int × (List Int) × Int × Int)) : Option (LR ((List Int) × Int × (List Int) × Int × Int) ((List Int) × (List Int) × Int × Int)) :=
  match x with
  | (x8, x11, x12, x13, x14) => (bif (decide (0 < x11)) then (spec_l1Cur_number (⟨x12, x13, x14⟩ : L1Cur)).bind fun (b33, b34) => (app 8 x8 ([b33] : List Int)).bind fun x37 => some (LR.next (x37, (IntKind.i64.wrap (x11 - 1)), b34.Code, b34.At, b34.Seed)) else some (LR.done (x8, x12, x13, x14)))
noncomputable def spec_l1Cur_numbers (a0 : L1Cur) : Option (List Int × L1Cur) :=
  (spec_l1Cur_pick a0 8).bind fun (b6, b7) => (whl (spec_l1Cur_numbers_l0) ([], b6, b7.Code, b7.At, b7.Seed)).bind fun (x15, x17, x18, x19) => (spec_l1Cur_one (⟨x17, x18, x19⟩ : L1Cur) 20).bind fun (b45, b46) => ((bif b45 then (spec_l1Cur_pick b46 3).bind fun (b58, b59) => (mkL 8 (IntKind.i64.wrap (59 + b58)) (0 : Int)).bind fun x62 => some (x62, b59.Code, b59.At, b59.Seed) else some (x15, b46.Code, b46.At, b46.Seed))).bind fun (x47, x50, x51, x52) => some (x47, (⟨x50, x51, x52⟩ : L1Cur))
noncomputable def spec_DrawPutList (a0 : List Int) : Option (List Int) :=
  (spec_l1Cur_numbers (⟨a0, 0, 0⟩ : L1Cur)).bind fun (b7, _b8) => some b7
noncomputable def impl_isNumber (a0 : Int) : Option (Bool) :=
  (impl_in a0 0 1152921504606846975).bind fun b3 => some b3
noncomputable def impl_sizeOf (a0 : Int) : Option (Int) :=
  (bif (decide (a0 < 64)) then some 1 else (bif (decide (a0 < 16384)) then some 2 else (bif (decide (a0 < 1073741824)) then some 4 else some 8)))
noncomputable def impl_wide_l0 (x : (Int × (List Int) × Int)) : Option (LR (Int × (List Int) × Int) ((List Int))) :=
  match x with
  | (x8, x9, x10) => (bif (decide (0 ≤ x10)) then (idx x9 x10).bind fun _b25 => some (LR.next ((shrL .i64 x8 8), (x9.set x10.toNat (IntKind.u8.wrap x8)), (IntKind.i64.wrap (x10 - 1)))) else some (LR.done (x9)))
noncomputable def impl_wide_l1 (a1 : Int) (x : ((List Int) × Int)) : Option (LR ((List Int) × Int) ((List Int))) :=
  match x with
  | (x31, x32) => (bif (decide (x32 < a1)) then (idx x31 0).bind fun b46 => (idx x31 0).bind fun _b48 => some (LR.next ((x31.set (0 : Int).toNat (IntKind.u8.wrap (b46 + 64))), (IntKind.i64.wrap (x32 * 2)))) else some (LR.done (x31)))
noncomputable def impl_wide (a0 : Int) (a1 : Int) : Option (List UInt8) :=
  (mkL 1 a1 (0 : Int)).bind fun x5 => (whl (impl_wide_l0) (a0, x5, (IntKind.i64.wrap (a1 - 1)))).bind fun x11 => (whl (impl_wide_l1 a1) (x11, 1)).bind fun x33 => some (toStr x33)
noncomputable def impl_number (a0 : Int) : Option (List UInt8) :=
  (impl_sizeOf a0).bind fun b3 => (impl_wide a0 b3).bind fun b4 => some b4
noncomputable def impl_PutList_l0 (a0 : List Int) (x : ((List UInt8) × Int)) : Option (LR ((List UInt8) × Int) (LR ((List UInt8)) (List UInt8 × Bool))) :=
  match x with
  | (x8, x9) => (bif (decide (x9 < (a0.length : Int))) then (idx a0 x9).bind fun b24 => (impl_isNumber b24).bind fun b27 => (bif (!b27) then some (LR.done (LR.done ([], false))) else (impl_number b24).bind fun b33 => (cat x8 b33).bind fun x34 => some (LR.next (x34, (IntKind.i64.wrap (x9 + 1))))) else some (LR.done (LR.next (x8))))
noncomputable def impl_PutList (a0 : List Int) : Option (List UInt8 × Bool) :=
  (bif (decide (60 < (a0.length : Int))) then some ([], false) else (whl (impl_PutList_l0 a0) ([], 0)).bind fun y => match y with | LR.next (x10) => some (x10, true) | LR.done z => some z)
noncomputable def spec_l1Size (a0 : Int) : Option (Int) :=
  (bif (decide (a0 < 64)) then some 1 else (bif (decide (a0 < 16384)) then some 2 else (bif (decide (a0 < 1073741824)) then some 4 else some 8)))
noncomputable def spec_l1Mark (a0 : Int) : Option (Int) :=
  (bif (a0 == 2) then some 64 else (bif (a0 == 4) then some 128 else (bif (a0 == 8) then some 192 else some 0)))
noncomputable def spec_l1Wide_l0 (x : (Int × (List Int) × Int)) : Option (LR (Int × (List Int) × Int) ((List Int))) :=
  match x with
  | (x8, x9, x10) => (bif (decide (0 ≤ x10)) then (idx x9 x10).bind fun _b25 => some (LR.next ((shrL .i64 x8 8), (x9.set x10.toNat (IntKind.u8.wrap x8)), (IntKind.i64.wrap (x10 - 1)))) else some (LR.done (x9)))
noncomputable def spec_l1Wide (a0 : Int) (a1 : Int) : Option (List UInt8) :=
  (mkL 1 a1 (0 : Int)).bind fun x5 => (whl (spec_l1Wide_l0) (a0, x5, (IntKind.i64.wrap (a1 - 1)))).bind fun x11 => (idx x11 0).bind fun b30 => (spec_l1Mark a1).bind fun b32 => (idx x11 0).bind fun _b33 => some (toStr (x11.set (0 : Int).toNat (IntKind.u8.wrap (b30 + (IntKind.u8.wrap b32)))))
noncomputable def spec_l1Put (a0 : Int) : Option (List UInt8) :=
  (spec_l1Size a0).bind fun b3 => (spec_l1Wide a0 b3).bind fun b4 => some b4
noncomputable def spec_PutList_l0 (a0 : List Int) (x : ((List UInt8) × Int)) : Option (LR ((List UInt8) × Int) ((List UInt8))) :=
  match x with
  | (x14, x15) => (bif (decide (x15 < (a0.length : Int))) then (idx a0 x15).bind fun b30 => (spec_l1Put b30).bind fun b31 => (cat x14 b31).bind fun x32 => some (LR.next (x32, (IntKind.i64.wrap (x15 + 1)))) else some (LR.done (x14)))
noncomputable def spec_PutList (a0 : List Int) : Option (List UInt8 × Bool) :=
  ((bif (decide (60 < (a0.length : Int))) then some (true) else (spec_l1All a0 0 1152921504606846975).bind fun b9 => some ((!b9)))).bind fun x4 => (bif x4 then some ([], false) else (whl (spec_PutList_l0 a0) ([], 0)).bind fun x16 => some (x16, true))
noncomputable def impl_GetNumber_l0 (a0 : List UInt8) (a1 : Int) (x8 : Int) (x : (Int × Int)) : Option (LR (Int × Int) (Int)) :=
  match x with
  | (x16, x17) => (bif (decide (x17 < x8)) then (idx a0 (IntKind.i64.wrap (a1 + x17))).bind fun b31 => some (LR.next ((orL .i64 (shlL .i64 x16 8) (IntKind.i64.wrap (b31.toNat : Int))), (IntKind.i64.wrap (x17 + 1)))) else some (LR.done (x16)))
noncomputable def impl_GetNumber (a0 : List UInt8) (a1 : Int) : Option (Int × Int × Bool) :=
  (impl_in a1 0 (IntKind.i64.wrap ((a0.length : Int) - 1))).bind fun b4 => (bif (!b4) then some (0, 0, false) else (idx a0 a1).bind fun b7 => (sl .i64 1 (shrL .u8 (b7.toNat : Int) 6)).bind fun x8 => (bif (decide ((a0.length : Int) < (IntKind.i64.wrap (a1 + x8)))) then some (0, 0, false) else (idx a0 a1).bind fun b13 => (whl (impl_GetNumber_l0 a0 a1 x8) ((IntKind.i64.wrap (andL .u8 (b13.toNat : Int) 63)), 1)).bind fun x18 => ((impl_isNumber x18).bind fun b41 => (bif (!b41) then some (true) else (impl_sizeOf x18).bind fun b42 => some ((b42 != x8)))).bind fun x36 => (bif x36 then some (0, 0, false) else some (x18, (IntKind.i64.wrap (a1 + x8)), true))))
noncomputable def impl_GetList_l0 (a0 : List UInt8) (x : ((List Int) × Int)) : Option (LR ((List Int) × Int) (LR ((List Int)) (List Int × Bool))) :=
  match x with
  | (x8, x11) => (bif (decide (x11 < (a0.length : Int))) then (impl_GetNumber a0 x11).bind fun (b27, b28, b29) => ((bif (!b29) then some (true) else some (((x8.length : Int) == 60)))).bind fun x32 => (bif x32 then some (LR.done (LR.done ([], false))) else (app 8 x8 ([b27] : List Int)).bind fun x45 => some (LR.next (x45, b28))) else some (LR.done (LR.next (x8))))
noncomputable def impl_GetList (a0 : List UInt8) : Option (List Int × Bool) :=
  (bif (decide (600 < (a0.length : Int))) then some ([], false) else (whl (impl_GetList_l0 a0) ([], 0)).bind fun y => match y with | LR.next (x12) => some (x12, true) | LR.done z => some z)
noncomputable def spec_l1Number (a0 : Int) : Option (Bool) :=
  (spec_l1In a0 0 1152921504606846975).bind fun b3 => some b3
noncomputable def spec_l1Cur_spoilt_l0 (a2 : List UInt8) (x : ((List UInt8) × Int × (List Int) × Int × Int)) : Option (LR ((List UInt8) × Int × (List Int) × Int × Int) ((List UInt8) × (List Int) × Int × Int)) :=
  match x with
  | (x7, x8, x9, x10, x11) => ((bif (decide (0 < x8)) then some ((decide (0 < (x7.length : Int)))) else some (false))).bind fun x26 => (bif x26 then ((spec_l1Cur_pick (⟨x9, x10, x11⟩ : L1Cur) (x7.length : Int)).bind fun (b42, b43) => (spec_l1Cur_pick b43 (a2.length : Int)).bind fun (b46, b47) => (idx a2 b46).bind fun b48 => (spec_l1Cur_pick b47 3).bind fun (b53, b54) => (((bif (b53 == 0) then (slc x7 0 b42).bind fun x66 => (cat x66 (toStr ([(b48.toNat : Int)] : List Int))).bind fun x67 => (slc x7 b42 (x7.length : Int)).bind fun x68 => (cat x67 x68).bind fun x69 => some (x69) else ((bif (b53 == 1) then (slc x7 0 b42).bind fun x76 => (cat x76 (toStr ([(b48.toNat : Int)] : List Int))).bind fun x77 => (slc x7 (IntKind.i64.wrap (b42 + 1)) (x7.length : Int)).bind fun x78 => (cat x77 x78).bind fun x79 => some (x79) else (slc x7 0 b42).bind fun x80 => (slc x7 (IntKind.i64.wrap (b42 + 1)) (x7.length : Int)).bind fun x81 => (cat x80 x81).bind fun x82 => some (x82))).bind fun x71 => some (x71))).bind fun x61 => some (x61)).bind fun x56 => some (x56, b54.Code, b54.At, b54.Seed)).bind fun (x33, x34, x35, x36) => some (LR.next (x33, (IntKind.i64.wrap (x8 - 1)), x34, x35, x36)) else some (LR.done (x7, x9, x10, x11)))
noncomputable def spec_l1Cur_spoilt (a0 : L1Cur) (a1 : List UInt8) (a2 : List UInt8) : Option (List UInt8 × L1Cur) :=
  (spec_l1Cur_pick a0 3).bind fun (b5, b6) => (whl (spec_l1Cur_spoilt_l0 a2) (a1, b5, b6.Code, b6.At, b6.Seed)).bind fun (x12, x13, x14, x15) => some (x12, (⟨x13, x14, x15⟩ : L1Cur))
noncomputable def spec_l1Cur_numberText_l0 (b6 : List Int) (x : ((List UInt8) × Int)) : Option (LR ((List UInt8) × Int) ((List UInt8))) :=
  match x with
  | (x10, x11) => (bif (decide (x11 < (b6.length : Int))) then ((idx b6 x11).bind fun b30 => (spec_l1Number b30).bind fun b33 => ((bif b33 then (spec_l1Put b30).bind fun b39 => (cat x10 b39).bind fun x40 => some (x40) else some (x10))).bind fun x34 => some (x34)).bind fun x25 => some (LR.next (x25, (IntKind.i64.wrap (x11 + 1)))) else some (LR.done (x10)))
noncomputable def spec_l1Cur_numberText (a0 : L1Cur) : Option (List UInt8 × L1Cur) :=
  (spec_l1Cur_numbers a0).bind fun (b6, b7) => (whl (spec_l1Cur_numberText_l0 b6) ([], 0)).bind fun x12 => (spec_l1Cur_one b7 3).bind fun (b46, b47) => ((bif b46 then (spec_l1Cur_spoilt b47 x12 ([0, 64, 128, 192])).bind fun (b57, b58) => some (b57, b58.Code, b58.At, b58.Seed) else some (x12, b47.Code, b47.At, b47.Seed))).bind fun (x48, x49, x50, x51) => some (x48, (⟨x49, x50, x51⟩ : L1Cur))
noncomputable def spec_DrawGetList (a0 : List Int) : Option (List UInt8) :=
  (spec_l1Cur_numberText (⟨a0, 0, 0⟩ : L1Cur)).bind fun (b7, _b8) => some b7
noncomputable def spec_l1Get_l0 (a0 : List UInt8) (a1 : Int) (x7 : Int) (x : (Int × Int)) : Option (LR (Int × Int) (Int)) :=
  match x with
  | (x15, x16) => (bif (decide (x16 < x7)) then (idx a0 (IntKind.i64.wrap (a1 + x16))).bind fun b30 => some (LR.next ((orL .i64 (shlL .i64 x15 8) (IntKind.i64.wrap (b30.toNat : Int))), (IntKind.i64.wrap (x16 + 1)))) else some (LR.done (x15)))
noncomputable def spec_l1Get (a0 : List UInt8) (a1 : Int) : Option (Int × Int) :=
  (bif (decide ((a0.length : Int) ≤ a1)) then some (0, -1) else (idx a0 a1).bind fun b6 => (sl .i64 1 (IntKind.u64.wrap (shrL .u8 (b6.toNat : Int) 6))).bind fun x7 => (bif (decide ((IntKind.i64.wrap ((a0.length : Int) - a1)) < x7)) then some (0, -1) else (idx a0 a1).bind fun b12 => (whl (spec_l1Get_l0 a0 a1 x7) ((IntKind.i64.wrap (andL .u8 (b12.toNat : Int) 63)), 1)).bind fun x17 => ((spec_l1Number x17).bind fun b40 => (bif (!b40) then some (true) else (spec_l1Size x17).bind fun b41 => some ((b41 != x7)))).bind fun x35 => (bif x35 then some (0, -1) else some (x17, (IntKind.i64.wrap (a1 + x7))))))
noncomputable def spec_l1List_l0 (a0 : List UInt8) (x : ((List Int) × Int)) : Option (LR ((List Int) × Int) (LR ((List Int)) (List Int × Bool))) :=
  match x with
  | (x5, x8) => (bif (decide (x8 < (a0.length : Int))) then (spec_l1Get a0 x8).bind fun (b24, b25) => (bif (decide (b25 < 0)) then some (LR.done (LR.done ([], false))) else (app 8 x5 ([b24] : List Int)).bind fun x36 => some (LR.next (x36, b25))) else some (LR.done (LR.next (x5))))
noncomputable def spec_l1List (a0 : List UInt8) : Option (List Int × Bool) :=
  (whl (spec_l1List_l0 a0) ([], 0)).bind fun y => match y with | LR.next (x9) => some (x9, true) | LR.done z => some z
noncomputable def spec_GetList (a0 : List UInt8) : Option (List Int × Bool) :=
  (bif (decide (600 < (a0.length : Int))) then some ([], false) else (spec_l1List a0).bind fun (b7, b8) => ((bif (!b8) then some (true) else some ((decide (60 < (b7.length : Int)))))).bind fun x13 => (bif x13 then some ([], false) else some (b7, true)))
noncomputable def spec_l1Cur_of (a0 : L1Cur) (a1 : List (List UInt8)) : Option (List UInt8 × L1Cur) :=
  (spec_l1Cur_pick a0 (a1.length : Int)).bind fun (b4, b5) => (idx a1 b4).bind fun b6 => some (b6, b5)
noncomputable def spec_DrawPutText (a0 : List Int) : Option (List UInt8) :=
  (spec_l1Cur_one (⟨a0, 0, 0⟩ : L1Cur) 12).bind fun (b8, b9) => (bif b8 then (spec_l1Cur_among b9 ([63, 64, 199, 200, 201] : List Int)).bind fun (b14, _b15) => (mkL 1 b14 (0 : Int)).bind fun x18 => some (toStr x18) else (spec_l1Cur_of b9 ([[], [97], [115, 111, 109, 101, 32, 116, 101, 120, 116], [0, 255]] : List (List UInt8))).bind fun (b23, _b24) => some b23)
noncomputable def impl_PutText (a0 : List UInt8) : Option (List UInt8 × Bool) :=
  (bif (decide (200 < (a0.length : Int))) then some ([], false) else (impl_number (a0.length : Int)).bind fun b6 => (cat b6 a0).bind fun x7 => some (x7, true))
noncomputable def spec_PutText (a0 : List UInt8) : Option (List UInt8 × Bool) :=
  (bif (decide (200 < (a0.length : Int))) then some ([], false) else (spec_l1Put (a0.length : Int)).bind fun b6 => (cat b6 a0).bind fun x7 => some (x7, true))
noncomputable def impl_GetText (a0 : List UInt8) (a1 : Int) : Option (List UInt8 × Int × Bool) :=
  (impl_GetNumber a0 a1).bind fun (b4, b5, b6) => ((bif (!b6) then some (true) else (bif (decide (200 < b4)) then some (true) else some ((decide ((a0.length : Int) < (IntKind.i64.wrap (b5 + b4)))))))).bind fun x9 => (bif x9 then some ([], 0, false) else (slc a0 b5 (IntKind.i64.wrap (b5 + b4))).bind fun x16 => some (x16, (IntKind.i64.wrap (b5 + b4)), true))
noncomputable def spec_DrawGetText (a0 : List Int) : Option (List UInt8 × Int) :=
  (spec_DrawPutText a0).bind fun b6 => (spec_PutText b6).bind fun (b8, _b9) => (spec_PutText ([109, 111, 114, 101])).bind fun (b12, _b13) => (cat b8 b12).bind fun x15 => (spec_l1Cur_one (⟨a0, 0, 0⟩ : L1Cur) 3).bind fun (b19, b20) => ((bif b19 then (spec_l1Cur_spoilt b20 x15 ([0, 4, 64])).bind fun (b30, b31) => some (b30, b31.Code, b31.At, b31.Seed) else some (x15, b20.Code, b20.At, b20.Seed))).bind fun (x21, x22, x23, x24) => (spec_l1Cur_among (⟨x22, x23, x24⟩ : L1Cur) ([0, 0, 0, (b8.length : Int), -1, 1] : List Int)).bind fun (b36, _b37) => some (x21, b36)
noncomputable def spec_GetText (a0 : List UInt8) (a1 : Int) : Option (List UInt8 × Int × Bool) :=
  ((bif (decide (a1 < 0)) then some (true) else some ((decide ((a0.length : Int) ≤ a1))))).bind fun x4 => (bif x4 then some ([], 0, false) else (spec_l1Get a0 a1).bind fun (b12, b13) => ((bif (decide (b13 < 0)) then some (true) else (bif (decide (200 < b12)) then some (true) else some ((decide ((IntKind.i64.wrap ((a0.length : Int) - b13)) < b12)))))).bind fun x16 => (bif x16 then some ([], 0, false) else (slc a0 b13 (IntKind.i64.wrap (b13 + b12))).bind fun x23 => some (x23, (IntKind.i64.wrap (b13 + b12)), true)))
noncomputable def laws_FnTexts (a0 : List Int) (a1 : List Int) : Option (Bool) :=
  (bif (decide (1048576 < (IntKind.i64.wrap ((a0.length : Int) + (a1.length : Int))))) then some true else (spec_DrawPutList a0).bind fun b6 => (impl_PutList b6).bind fun (b11, b12) => (spec_PutList b6).bind fun (b15, b16) => ((bif (!(b12 == b16)) then some (true) else some ((!(b11 == b15))))).bind fun x19 => (bif x19 then some false else ((bif b12 then some ((decide ((b11.length : Int) ≤ 600))) else some (false))).bind fun x27 => ((bif x27 then (impl_GetList b11).bind fun (b38, b39) => ((bif (!b39) then some (true) else (laws_sameInts b38 b6).bind fun b48 => some ((!b48)))).bind fun x43 => (bif x43 then some (LR.done false) else some (LR.next ())) else some (LR.next ()))).bind fun y => match y with | LR.next () => ((spec_DrawGetList a1).bind fun b53 => (impl_GetList b53).bind fun (b56, b57) => (spec_GetList b53).bind fun (b62, b63) => ((bif (!(b57 == b63)) then some (true) else (laws_sameInts b56 b62).bind fun b73 => some ((!b73)))).bind fun x68 => (bif x68 then some false else ((bif b57 then (impl_PutList b56).bind fun (b83, b84) => ((bif (!b84) then some (true) else some ((!(b83 == b53))))).bind fun x86 => (bif x86 then some (LR.done false) else some (LR.next ())) else some (LR.next ()))).bind fun y => match y with | LR.next () => ((spec_DrawPutText a0).bind fun b95 => (impl_PutText b95).bind fun (b98, b99) => (spec_PutText b95).bind fun (b102, b103) => ((bif (!(b99 == b103)) then some (true) else some ((!(b98 == b102))))).bind fun x106 => (bif x106 then some false else ((bif b99 then (cat b98 b53).bind fun x119 => (impl_GetText x119 0).bind fun (b121, b122, b123) => ((bif (!b123) then some (true) else (bif (!(b121 == b95)) then some (true) else some ((b122 != (b98.length : Int)))))).bind fun x125 => (bif x125 then some (LR.done false) else some (LR.next ())) else some (LR.next ()))).bind fun y => match y with | LR.next () => (spec_DrawGetText a1).bind fun (b135, b136) => (impl_GetText b135 b136).bind fun (b139, b140, b141) => (spec_GetText b135 b136).bind fun (b144, b145, b146) => (bif (b141 == b146) then (bif (b139 == b144) then some (b140 == b145) else some false) else some false) | LR.done z => some z)) | LR.done z => some z)) | LR.done z => some z))
noncomputable def spec_l1Cur_heap (a0 : L1Cur) : Option (List Work × L1Cur) :=
  (spec_l1Cur_works a0).bind fun (b4, b5) => (spec_MakeHeap b4).bind fun (b10, b11) => ((bif (!b11) then some (true, b5.Code, b5.At, b5.Seed) else (spec_l1Cur_one b5 12).bind fun (b26, b27) => some (b26, b27.Code, b27.At, b27.Seed))).bind fun (x17, x18, x19, x20) => (bif x17 then some (b4, (⟨x18, x19, x20⟩ : L1Cur)) else some (b10, (⟨x18, x19, x20⟩ : L1Cur)))
noncomputable def spec_DrawPushHeap (a0 : List Int) : Option (List Work × Work) :=
  (spec_l1Cur_heap (⟨a0, 0, 0⟩ : L1Cur)).bind fun (b9, b10) => (spec_l1Cur_work b10).bind fun (b14, _b15) => some (b9, b14)
noncomputable def impl_up_l0 (x : ((List Work) × Int × Int)) : Option (LR ((List Work) × Int × Int) (Int × (List Work))) :=
  match x with
  | (x4, x5, x6) => ((bif (decide (0 < x5)) then (idx x4 x5).bind fun b24 => (idx x4 (IntKind.i64.wrap (Int.tdiv (IntKind.i64.wrap (x5 - 1)) 2))).bind fun b26 => (impl_compareWork b24 b26).bind fun b28 => some ((decide (b28 < 0))) else some (false))).bind fun x19 => (bif x19 then (idx x4 (IntKind.i64.wrap (Int.tdiv (IntKind.i64.wrap (x5 - 1)) 2))).bind fun b32 => (idx x4 x5).bind fun b34 => (idx x4 x5).bind fun _b36 => (idx (x4.set x5.toNat b32) (IntKind.i64.wrap (Int.tdiv (IntKind.i64.wrap (x5 - 1)) 2))).bind fun _b38 => some (LR.next (((x4.set x5.toNat b32).set (IntKind.i64.wrap (Int.tdiv (IntKind.i64.wrap (x5 - 1)) 2)).toNat b34), (IntKind.i64.wrap (Int.tdiv (IntKind.i64.wrap (x5 - 1)) 2)), (IntKind.i64.wrap (x6 + 1)))) else some (LR.done (x6, x4)))
noncomputable def impl_up (a0 : List Work) (a1 : Int) : Option (Int × List Work) :=
  (whl (impl_up_l0) (a0, a1, 0)).bind fun (x7, x8) => some (x7, x8)
noncomputable def impl_PushHeap (a0 : List Work) (a1 : Work) : Option (List Work × Bool) :=
  ((impl_isHeap a0).bind fun b11 => (bif (!b11) then some (true) else (bif ((a0.length : Int) == 40) then some (true) else (impl_isWork a1).bind fun b12 => some ((!b12))))).bind fun x6 => (bif x6 then some ([], false) else (slices_Clone_impl_Work a0).bind fun b15 => (app 24 b15 ([a1] : List Work)).bind fun x21 => (impl_up x21 (a0.length : Int)).bind fun (_b26, b27) => some (b27, true))
noncomputable def spec_l3Is_l0 (a0 : List Work) (x : (Int)) : Option (LR (Int) (LR Unit (Bool))) :=
  match x with
  | (x4) => (bif (decide (x4 < (a0.length : Int))) then (idx a0 x4).bind fun b18 => (idx a0 (IntKind.i64.wrap (Int.tdiv (IntKind.i64.wrap (x4 - 1)) 2))).bind fun b19 => (spec_l3Less b18 b19).bind fun b20 => (bif b20 then some (LR.done (LR.done false)) else some (LR.next ((IntKind.i64.wrap (x4 + 1))))) else some (LR.done (LR.next ())))
noncomputable def spec_l3Is (a0 : List Work) : Option (Bool) :=
  (whl (spec_l3Is_l0 a0) (1)).bind fun y => match y with | LR.next () => some true | LR.done z => some z
noncomputable def spec_l3Up_l0 (x : ((List Work) × Int)) : Option (LR ((List Work) × Int) (Int × (List Work))) :=
  match x with
  | (x3, x4) => ((bif (decide (0 < x4)) then (idx x3 x4).bind fun b22 => (idx x3 (IntKind.i64.wrap (Int.tdiv (IntKind.i64.wrap (x4 - 1)) 2))).bind fun b24 => (spec_l3Less b22 b24).bind fun b26 => some (b26) else some (false))).bind fun x17 => (bif x17 then (idx x3 x4).bind fun b30 => (idx x3 (IntKind.i64.wrap (Int.tdiv (IntKind.i64.wrap (x4 - 1)) 2))).bind fun b35 => (idx x3 x4).bind fun _b37 => (idx (x3.set x4.toNat b35) (IntKind.i64.wrap (Int.tdiv (IntKind.i64.wrap (x4 - 1)) 2))).bind fun _b40 => some (LR.next (((x3.set x4.toNat b35).set (IntKind.i64.wrap (Int.tdiv (IntKind.i64.wrap (x4 - 1)) 2)).toNat b30), (IntKind.i64.wrap (Int.tdiv (IntKind.i64.wrap (x4 - 1)) 2)))) else some (LR.done (x4, x3)))
noncomputable def spec_l3Up (a0 : List Work) (a1 : Int) : Option (Int × List Work) :=
  (whl (spec_l3Up_l0) (a0, a1)).bind fun (x5, x6) => some (x5, x6)
noncomputable def spec_l3Push (a0 : List Work) (a1 : Work) : Option (List Work) :=
  (app 24 ([] : List Work) a0).bind fun x6 => (app 24 x6 ([a1] : List Work)).bind fun x11 => (spec_l3Up x11 (IntKind.i64.wrap ((x11.length : Int) - 1))).bind fun (_b16, b17) => some b17
noncomputable def spec_PushHeap (a0 : List Work) (a1 : Work) : Option (List Work × Bool) :=
  ((spec_l3Good a0).bind fun b11 => (bif (!b11) then some (true) else (spec_l3Is a0).bind fun b12 => (bif (!b12) then some (true) else (spec_l3Work a1).bind fun b13 => (bif (!b13) then some (true) else some (((a0.length : Int) == 40)))))).bind fun x6 => (bif x6 then some ([], false) else (spec_l3Push a0 a1).bind fun b16 => some (b16, true))
noncomputable def impl_PopHeap (a0 : List Work) : Option (List Work × Work × Bool) :=
  ((impl_isHeap a0).bind fun b11 => (bif (!b11) then some (true) else some (((a0.length : Int) == 0)))).bind fun x6 => (bif x6 then some ([], (⟨0, 0, 0⟩ : Work), false) else (slices_Clone_impl_Work a0).bind fun b14 => (impl_pop b14).bind fun (b18, b19) => some (b18, b19, true))
noncomputable def spec_DrawRemoveAt (a0 : List Int) : Option (List Work × Int) :=
  (spec_l1Cur_heap (⟨a0, 0, 0⟩ : L1Cur)).bind fun (b7, b8) => (spec_l1Cur_pick b8 (IntKind.i64.wrap ((b7.length : Int) + 2))).bind fun (b13, _b14) => some (b7, (IntKind.i64.wrap (b13 - 1)))
noncomputable def impl_RemoveAt (a0 : List Work) (a1 : Int) : Option (List Work × Bool) :=
  ((impl_isHeap a0).bind fun b9 => (bif (!b9) then some (true) else (impl_in a1 0 (IntKind.i64.wrap ((a0.length : Int) - 1))).bind fun b10 => some ((!b10)))).bind fun x4 => (bif x4 then some ([], false) else (slices_Clone_impl_Work a0).bind fun b13 => (idx b13 (IntKind.i64.wrap ((a0.length : Int) - 1))).bind fun b17 => (idx b13 a1).bind fun _b19 => (slc (b13.set a1.toNat b17) 0 (IntKind.i64.wrap ((a0.length : Int) - 1))).bind fun x22 => ((bif (decide (a1 < (IntKind.i64.wrap ((a0.length : Int) - 1)))) then (impl_up x22 a1).bind fun (b34, b35) => some (b35, (b34 == 0)) else some (x22, false))).bind fun (x27, x28) => ((bif x28 then (impl_down x27 a1).bind fun (_b42, b43) => some (b43) else some (x27))).bind fun x36 => some (x36, true))
noncomputable def spec_RemoveAt (a0 : List Work) (a1 : Int) : Option (List Work × Bool) :=
  ((spec_l3Good a0).bind fun b9 => (bif (!b9) then some (true) else (spec_l3Is a0).bind fun b10 => (bif (!b10) then some (true) else (bif (decide (a1 < 0)) then some (true) else some ((decide ((a0.length : Int) ≤ a1))))))).bind fun x4 => (bif x4 then some ([], false) else (app 24 ([] : List Work) a0).bind fun x14 => (idx x14 (IntKind.i64.wrap ((x14.length : Int) - 1))).bind fun b18 => (slc x14 0 (IntKind.i64.wrap ((x14.length : Int) - 1))).bind fun x23 => ((bif (decide (a1 < (x23.length : Int))) then (idx x23 a1).bind fun _b34 => (spec_l3Up (x23.set a1.toNat b18) a1).bind fun (b38, b39) => ((bif (b38 == a1) then (spec_l3Down b39 a1).bind fun (_b46, b47) => some (b47) else some (b39))).bind fun x40 => some (x40) else some (x23))).bind fun x28 => (app 24 ([] : List Work) x28).bind fun x50 => some (x50, true))
noncomputable def spec_DrawIsHeap (a0 : List Int) : Option (List Work) :=
  (spec_l1Cur_heap (⟨a0, 0, 0⟩ : L1Cur)).bind fun (b7, _b8) => some b7
noncomputable def spec_DrawPopHeap (a0 : List Int) : Option (List Work) :=
  (spec_DrawIsHeap a0).bind fun b3 => some b3
noncomputable def spec_PopHeap (a0 : List Work) : Option (List Work × Work × Bool) :=
  ((spec_l3Good a0).bind fun b11 => (bif (!b11) then some (true) else (spec_l3Is a0).bind fun b12 => (bif (!b12) then some (true) else some (((a0.length : Int) == 0))))).bind fun x6 => (bif x6 then some ([], (⟨0, 0, 0⟩ : Work), false) else (spec_l3Pop a0).bind fun (b16, b17) => (app 24 ([] : List Work) b16).bind fun x24 => some (x24, b17, true))
noncomputable def spec_IsHeap (a0 : List Work) : Option (Bool × Bool) :=
  (spec_l3Good a0).bind fun b4 => (bif (!b4) then some (false, false) else (spec_l3Is a0).bind fun b7 => some (b7, true))
noncomputable def laws_FnHeaps_l0 (b15 : List Work) (b48 : List Work) (b49 : Work) (x : (Int)) : Option (LR (Int) (LR Unit (LR Unit (Bool)))) :=
  match x with
  | (x73) => (bif (decide (x73 < (b15.length : Int))) then (idx b15 x73).bind fun b87 => (impl_LessWork b87 b49).bind fun (b93, b94) => ((bif (!b94) then some (true) else (bif b93 then some (true) else (laws_manyOf b15 b87).bind fun b101 => (laws_manyOf b48 b87).bind fun b102 => (laws_manyOf ([b49] : List Work) b87).bind fun b105 => some ((b101 != (IntKind.i64.wrap (b102 + b105))))))).bind fun x96 => (bif x96 then some (LR.done (LR.done (LR.done false))) else some (LR.next ((IntKind.i64.wrap (x73 + 1))))) else some (LR.done (LR.next ())))
noncomputable def laws_FnHeaps (a0 : List Int) (a1 : List Int) : Option (Bool) :=
  (bif (decide (1048576 < (IntKind.i64.wrap ((a0.length : Int) + (a1.length : Int))))) then some true else (spec_DrawPushHeap a0).bind fun (b7, b8) => (impl_PushHeap b7 b8).bind fun (b15, b16) => (spec_PushHeap b7 b8).bind fun (b22, b23) => ((bif (!(b16 == b23)) then some (true) else (laws_sameWorks b15 b22).bind fun b34 => some ((!b34)))).bind fun x29 => (bif x29 then some false else ((bif b16 then (impl_IsHeap b15).bind fun (b44, b45) => (impl_PopHeap b15).bind fun (b48, b49, b50) => (impl_IsHeap b48).bind fun (b58, b59) => ((bif (!b45) then some (true) else (bif (!b44) then some (true) else (bif (!b50) then some (true) else (bif (!b59) then some (true) else (bif (!b58) then some (true) else (bif ((b15.length : Int) != (IntKind.i64.wrap ((b7.length : Int) + 1))) then some (true) else (bif ((b48.length : Int) != (b7.length : Int)) then some (true) else (laws_manyOf b15 b8).bind fun b67 => (laws_manyOf b7 b8).bind fun b68 => some ((b67 != (IntKind.i64.wrap (b68 + 1)))))))))))).bind fun x62 => (bif x62 then some (LR.done false) else (whl (laws_FnHeaps_l0 b15 b48 b49) (0)).bind fun y => match y with | LR.next () => some (LR.next ()) | LR.done z => some z) else some (LR.next ()))).bind fun y => match y with | LR.next () => ((spec_DrawRemoveAt a1).bind fun (b117, b118) => (impl_RemoveAt b117 b118).bind fun (b123, b124) => (spec_RemoveAt b117 b118).bind fun (b130, b131) => ((bif (!(b124 == b131)) then some (true) else (laws_sameWorks b123 b130).bind fun b142 => some ((!b142)))).bind fun x137 => (bif x137 then some false else ((bif b124 then (impl_IsHeap b123).bind fun (b152, b153) => ((bif (!b153) then some (true) else (bif (!b152) then some (true) else (bif ((b123.length : Int) != (IntKind.i64.wrap ((b117.length : Int) - 1))) then some (true) else (idx b117 b118).bind fun b160 => (laws_manyOf b123 b160).bind fun b162 => (idx b117 b118).bind fun b163 => (laws_manyOf b117 b163).bind fun b165 => some ((b162 != (IntKind.i64.wrap (b165 - 1)))))))).bind fun x155 => (bif x155 then some (LR.done false) else some (LR.next ())) else some (LR.next ()))).bind fun y => match y with | LR.next () => (spec_DrawPopHeap a1).bind fun b170 => (impl_PopHeap b170).bind fun (b175, b176, b177) => (spec_PopHeap b170).bind fun (b185, b186, b187) => (impl_IsHeap b170).bind fun (b195, b196) => (spec_IsHeap b170).bind fun (b199, b200) => (bif (b177 == b187) then (bif ((b176.End == b186.End) && ((b176.Rank == b186.Rank) && ((b176.Id == b186.Id) && true))) then (laws_sameWorks b175 b185).bind fun b202 => (bif b202 then (bif (b196 == b200) then some (b195 == b199) else some false) else some false) else some false) else some false) | LR.done z => some z)) | LR.done z => some z))
noncomputable def spec_DrawGoodTurns (a0 : List Int) : Option (Turns) :=
  (spec_l1Cur_turns (⟨a0, 0, 0⟩ : L1Cur)).bind fun (b9, _b10) => some b9
noncomputable def spec_DrawNextTurn (a0 : List Int) : Option (Turns) :=
  (spec_DrawGoodTurns a0).bind fun b5 => some b5
noncomputable def impl_NextTurn (a0 : Turns) : Option (Turns × List Int × Bool) :=
  (impl_GoodTurns a0).bind fun b8 => (bif (!b8) then some ((⟨([] : List Int), ([] : List (List Int)), ([] : List Int), ([] : List Int), 0⟩ : Turns), [], false) else (impl_Turns_copied a0).bind fun b11 => (impl_Turns_turn b11).bind fun (b23, b24, b25) => (bif (!b24) then some ((⟨([] : List Int), ([] : List (List Int)), ([] : List Int), ([] : List Int), 0⟩ : Turns), ([] : List Int), false) else some (b25, b23, true)))
noncomputable def impl_TotalSent (a0 : Turns) : Option (Int × Bool) :=
  (impl_GoodTurns a0).bind fun b6 => (bif (!b6) then some (0, false) else (impl_sum a0.Sent).bind fun b9 => some (b9, true))
noncomputable def spec_TotalSent (a0 : Turns) : Option (Int × Bool) :=
  (spec_GoodTurns a0).bind fun b6 => (bif (!b6) then some (0, false) else (spec_l1Sum a0.Sent).bind fun b9 => some (b9, true))
end Go.VxW
