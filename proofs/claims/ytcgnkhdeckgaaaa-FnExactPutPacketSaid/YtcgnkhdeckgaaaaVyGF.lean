import Derived.Test.YtcgnkhdeckgaaaaVaE
open Go Go.VS
set_option maxRecDepth 8000
namespace Go.VxW
structure Turns where
  Quanta : List Int
  Queues : List (List Int)
  Credit : List Int
  Sent : List Int
  At : Int
structure Again where
  Need : Int
  Every : Int
structure Task where
  Need : Int
  End : Int
structure Case where
  End : Int
  Asks : Bool
  Final : Int
  Said : Int
structure Slip where
  Kind : Int
  Case : Int
  What : Int
structure Court where
  Now : Int
  Cases : List Case
  Line : List Slip
structure Hello where
  Kind : Int
  X : Int
  Y : Int
structure Greet where
  StateA : Int
  StateB : Int
  X : Int
  Y : Int
  OfX : Int
  OfY : Int
  LastX : Int
  LastY : Int
  Line : List Hello
  OpenedA : List Hello
  OpenedB : List Hello
structure CourtStep where
  Kind : Int
  K : Int
structure L1Cur where
  Code : List Int
  At : Int
  Seed : Int
structure GreetStep where
  Kind : Int
  K : Int
noncomputable def laws_szIntS (a0 : List Int) (a1 : Int) : Option (Int) :=
  (bif (decide ((IntKind.i64.wrap (a1 - (a0.length : Int))) < 0)) then some (-1) else some (IntKind.i64.wrap (a1 - (a0.length : Int))))
noncomputable def laws_szIntSS_l0 (a0 : List (List Int)) (x : (Int × Int)) : Option (LR (Int × Int) (LR (Int) (Int))) :=
  match x with
  | (x8, x9) => (bif (decide (x9 < (a0.length : Int))) then (idx a0 x9).bind fun b24 => (laws_szIntS b24 x8).bind fun b25 => (bif (decide (b25 < 0)) then some (LR.done (LR.done (-1))) else some (LR.next (b25, (IntKind.i64.wrap (x9 + 1))))) else some (LR.done (LR.next (x8))))
noncomputable def laws_szIntSS (a0 : List (List Int)) (a1 : Int) : Option (Int) :=
  (bif (decide ((IntKind.i64.wrap (a1 - (a0.length : Int))) < 0)) then some (-1) else (whl (laws_szIntSS_l0 a0) ((IntKind.i64.wrap (a1 - (a0.length : Int))), 0)).bind fun y => match y with | LR.next (x10) => some x10 | LR.done z => some z)
noncomputable def laws_szTurns (a0 : Turns) (a1 : Int) : Option (Int) :=
  (laws_szIntS a0.Quanta a1).bind fun b5 => (bif (decide (b5 < 0)) then some (-1) else (laws_szIntSS a0.Queues b5).bind fun b10 => (bif (decide (b10 < 0)) then some (-1) else (laws_szIntS a0.Credit b10).bind fun b15 => (bif (decide (b15 < 0)) then some (-1) else (laws_szIntS a0.Sent b15).bind fun b20 => (bif (decide (b20 < 0)) then some (-1) else some b20))))
noncomputable def laws_toIntS_l0 (a0 : List Int) (x : ((List Int) × Int)) : Option (LR ((List Int) × Int) ((List Int))) :=
  match x with
  | (x8, x9) => (bif (decide (x9 < (a0.length : Int))) then (idx a0 x9).bind fun b23 => (idx x8 x9).bind fun _b24 => some (LR.next ((x8.set x9.toNat b23), (IntKind.i64.wrap (x9 + 1)))) else some (LR.done (x8)))
noncomputable def laws_toIntS (a0 : List Int) : Option (List Int) :=
  (mkL 8 (a0.length : Int) (0 : Int)).bind fun x5 => (whl (laws_toIntS_l0 a0) (x5, 0)).bind fun x10 => some x10
noncomputable def laws_toIntSS_l0 (a0 : List (List Int)) (x : ((List (List Int)) × Int)) : Option (LR ((List (List Int)) × Int) ((List (List Int)))) :=
  match x with
  | (x10, x12) => (bif (decide (x12 < (a0.length : Int))) then (idx a0 x12).bind fun b27 => (laws_toIntS b27).bind fun b28 => (idx x10 x12).bind fun _b32 => some (LR.next ((x10.set x12.toNat b28), (IntKind.i64.wrap (x12 + 1)))) else some (LR.done (x10)))
noncomputable def laws_toIntSS (a0 : List (List Int)) : Option (List (List Int)) :=
  (mkL 24 (a0.length : Int) ([] : List Int)).bind fun x5 => (whl (laws_toIntSS_l0 a0) (x5, 0)).bind fun x13 => some x13
noncomputable def laws_toTurns (a0 : Turns) : Option (Turns) :=
  (laws_toIntS a0.Quanta).bind fun b10 => (laws_toIntSS a0.Queues).bind fun b14 => (laws_toIntS a0.Credit).bind fun b19 => (laws_toIntS a0.Sent).bind fun b23 => some (⟨b10, b14, b19, b23, a0.At⟩ : Turns)
noncomputable def spec_l1In (a0 : Int) (a1 : Int) (a2 : Int) : Option (Bool) :=
  (bif (decide (a1 ≤ a0)) then some (decide (a0 ≤ a2)) else some false)
noncomputable def spec_l1All_l0 (a0 : List Int) (a1 : Int) (a2 : Int) (x : (Int)) : Option (LR (Int) (LR Unit (Bool))) :=
  match x with
  | (x4) => (bif (decide (x4 < (a0.length : Int))) then (idx a0 x4).bind fun b18 => (spec_l1In b18 a1 a2).bind fun b20 => (bif (!b20) then some (LR.done (LR.done false)) else some (LR.next ((IntKind.i64.wrap (x4 + 1))))) else some (LR.done (LR.next ())))
noncomputable def spec_l1All (a0 : List Int) (a1 : Int) (a2 : Int) : Option (Bool) :=
  (whl (spec_l1All_l0 a0 a1 a2) (0)).bind fun y => match y with | LR.next () => some true | LR.done z => some z
noncomputable def spec_GoodTurns_l0 (a0 : Turns) (x : (Int)) : Option (LR (Int) (LR Unit (Bool))) :=
  match x with
  | (x20) => (bif (decide (x20 < (a0.Queues.length : Int))) then (idx a0.Queues x20).bind fun b34 => ((bif (decide (30 < (b34.length : Int))) then some (true) else (spec_l1All b34 1 20).bind fun b41 => (bif (!b41) then some (true) else (bif ((b34.length : Int) == 0) then (idx a0.Credit x20).bind fun b42 => some ((b42 != 0)) else some (false))))).bind fun x36 => (bif x36 then some (LR.done (LR.done false)) else some (LR.next ((IntKind.i64.wrap (x20 + 1))))) else some (LR.done (LR.next ())))
noncomputable def spec_GoodTurns (a0 : Turns) : Option (Bool) :=
  ((spec_l1In (a0.Quanta.length : Int) 1 4).bind fun b12 => (bif (!b12) then some (true) else (spec_l1All a0.Quanta 20 100).bind fun b13 => (bif (!b13) then some (true) else (bif ((a0.Queues.length : Int) != (a0.Quanta.length : Int)) then some (true) else (bif ((a0.Credit.length : Int) != (a0.Quanta.length : Int)) then some (true) else (bif ((a0.Sent.length : Int) != (a0.Quanta.length : Int)) then some (true) else (spec_l1All a0.Credit 0 19).bind fun b14 => (bif (!b14) then some (true) else (spec_l1All a0.Sent 0 1000000).bind fun b15 => (bif (!b15) then some (true) else (spec_l1In a0.At 0 (IntKind.i64.wrap ((a0.Quanta.length : Int) - 1))).bind fun b16 => some ((!b16)))))))))).bind fun x7 => (bif x7 then some false else (whl (spec_GoodTurns_l0 a0) (0)).bind fun y => match y with | LR.next () => some true | LR.done z => some z)
noncomputable def spec_l8Own_l0 (a0 : Turns) (x : (Int × (List (List Int)))) : Option (LR (Int × (List (List Int))) ((List (List Int)))) :=
  match x with
  | (x23, x24) => (bif (decide (x23 < (a0.Queues.length : Int))) then (idx a0.Queues x23).bind fun b44 => (app 8 ([] : List Int) b44).bind fun x46 => (app 24 x24 ([x46] : List (List Int))).bind fun n54 => some (LR.next ((IntKind.i64.wrap (x23 + 1)), n54)) else some (LR.done (x24)))
noncomputable def spec_l8Own (a0 : Turns) : Option (Turns) :=
  (app 8 ([] : List Int) a0.Quanta).bind fun x8 => (app 8 ([] : List Int) a0.Credit).bind fun x12 => (app 8 ([] : List Int) a0.Sent).bind fun x16 => (whl (spec_l8Own_l0 a0) (0, ([] : List (List Int)))).bind fun x28 => some (⟨x8, x28, x12, x16, a0.At⟩ : Turns)
noncomputable def spec_PutPacket (a0 : Turns) (a1 : Int) (a2 : Int) : Option (Turns × Bool) :=
  ((spec_GoodTurns a0).bind fun b13 => (bif (!b13) then some (true) else (bif (decide (a1 < 0)) then some (true) else (bif (decide ((a0.Queues.length : Int) ≤ a1)) then some (true) else (spec_l1In a2 1 20).bind fun b14 => (bif (!b14) then some (true) else (idx a0.Queues a1).bind fun b15 => some (((b15.length : Int) == 30))))))).bind fun x8 => (bif x8 then some ((⟨([] : List Int), ([] : List (List Int)), ([] : List Int), ([] : List Int), 0⟩ : Turns), false) else (spec_l8Own a0).bind fun b23 => (idx b23.Queues a1).bind fun b37 => (app 8 b37 ([a2] : List Int)).bind fun x42 => some ((⟨b23.Quanta, (b23.Queues.set a1.toNat x42), b23.Credit, b23.Sent, b23.At⟩ : Turns), true))
noncomputable def impl_in (a0 : Int) (a1 : Int) (a2 : Int) : Option (Bool) :=
  (bif (decide (a1 ≤ a0)) then some (decide (a0 ≤ a2)) else some false)
noncomputable def slices_IndexFunc_int_l0 (a0 : List Int) (g1 : Int → Option Bool) (x : (Int)) : Option (LR (Int) (LR Unit (Int))) :=
  match x with
  | (x4) => (bif (decide (x4 < (a0.length : Int))) then (idx a0 x4).bind fun b19 => (g1 b19).bind fun b20 => (bif b20 then some (LR.done (LR.done x4)) else some (LR.next ((IntKind.i64.wrap (x4 + 1))))) else some (LR.done (LR.next ())))
noncomputable def slices_IndexFunc_int (a0 : List Int) (g1 : Int → Option Bool) : Option (Int) :=
  (whl (slices_IndexFunc_int_l0 a0 g1) (0)).bind fun y => match y with | LR.next () => some (-1) | LR.done z => some z
noncomputable def slices_ContainsFunc_int (a0 : List Int) (g1 : Int → Option Bool) : Option (Bool) :=
  (slices_IndexFunc_int a0 g1).bind fun b3 => some (decide (0 ≤ b3))
noncomputable def impl_areQuanta_1 (a0 : Int) : Option (Bool) :=
  (impl_in a0 20 100).bind fun b3 => some (!b3)
noncomputable def impl_areQuanta (a0 : List Int) : Option (Bool) :=
  (impl_in (a0.length : Int) 1 4).bind fun b3 => (bif b3 then (slices_ContainsFunc_int a0 impl_areQuanta_1).bind fun b4 => some (!b4) else some false)
noncomputable def impl_isPacket (a0 : Int) : Option (Bool) :=
  (impl_in a0 1 20).bind fun b3 => some b3
noncomputable def impl_GoodTurns_1 (a0 : Int) : Option (Bool) :=
  (impl_isPacket a0).bind fun b3 => some (!b3)
noncomputable def impl_GoodTurns_l0 (a0 : Turns) (x : (Int)) : Option (LR (Int) (LR Unit (Bool))) :=
  match x with
  | (x17) => (bif (decide (x17 < (a0.Queues.length : Int))) then (idx a0.Queues x17).bind fun b31 => ((bif (decide (30 < (b31.length : Int))) then some (true) else (slices_ContainsFunc_int b31 impl_GoodTurns_1).bind fun b39 => some (b39))).bind fun x34 => (bif x34 then some (LR.done (LR.done false)) else ((idx a0.Credit x17).bind fun b51 => (impl_in b51 0 19).bind fun b52 => (bif (!b52) then some (true) else (bif ((b31.length : Int) == 0) then (idx a0.Credit x17).bind fun b53 => (bif (decide (0 < b53)) then some (true) else (idx a0.Sent x17).bind fun b54 => (impl_in b54 0 1000000).bind fun b55 => some ((!b55))) else (idx a0.Sent x17).bind fun b56 => (impl_in b56 0 1000000).bind fun b57 => some ((!b57))))).bind fun x46 => (bif x46 then some (LR.done (LR.done false)) else some (LR.next ((IntKind.i64.wrap (x17 + 1)))))) else some (LR.done (LR.next ())))
noncomputable def impl_GoodTurns (a0 : Turns) : Option (Bool) :=
  ((impl_areQuanta a0.Quanta).bind fun b12 => (bif (!b12) then some (true) else (bif ((a0.Queues.length : Int) != (a0.Quanta.length : Int)) then some (true) else (bif ((a0.Credit.length : Int) != (a0.Quanta.length : Int)) then some (true) else (bif ((a0.Sent.length : Int) != (a0.Quanta.length : Int)) then some (true) else (impl_in a0.At 0 (IntKind.i64.wrap ((a0.Quanta.length : Int) - 1))).bind fun b13 => some ((!b13))))))).bind fun x7 => (bif x7 then some false else (whl (impl_GoodTurns_l0 a0) (0)).bind fun y => match y with | LR.next () => some true | LR.done z => some z)
noncomputable def slices_Clone_int (a0 : List Int) : Option (List Int) :=
  app 8 [] a0
noncomputable def impl_Turns_copied_l0 (a0 : Turns) (x : (Int × (List (List Int)))) : Option (LR (Int × (List (List Int))) ((List (List Int)))) :=
  match x with
  | (x23, x24) => (bif (decide (x23 < (a0.Queues.length : Int))) then (idx a0.Queues x23).bind fun b44 => (slices_Clone_int b44).bind fun b45 => (app 24 x24 ([b45] : List (List Int))).bind fun n54 => some (LR.next ((IntKind.i64.wrap (x23 + 1)), n54)) else some (LR.done (x24)))
noncomputable def impl_Turns_copied (a0 : Turns) : Option (Turns) :=
  (slices_Clone_int a0.Quanta).bind fun b7 => (slices_Clone_int a0.Credit).bind fun b11 => (slices_Clone_int a0.Sent).bind fun b15 => (whl (impl_Turns_copied_l0 a0) (0, ([] : List (List Int)))).bind fun x28 => some (⟨b7, x28, b11, b15, a0.At⟩ : Turns)
noncomputable def impl_PutPacket (a0 : Turns) (a1 : Int) (a2 : Int) : Option (Turns × Bool) :=
  ((impl_GoodTurns a0).bind fun b13 => (bif (!b13) then some (true) else (impl_in a1 0 (IntKind.i64.wrap ((a0.Queues.length : Int) - 1))).bind fun b14 => (bif (!b14) then some (true) else (impl_isPacket a2).bind fun b15 => (bif (!b15) then some (true) else (idx a0.Queues a1).bind fun b16 => some (((b16.length : Int) == 30)))))).bind fun x8 => (bif x8 then some ((⟨([] : List Int), ([] : List (List Int)), ([] : List Int), ([] : List Int), 0⟩ : Turns), false) else (impl_Turns_copied a0).bind fun b24 => (idx b24.Queues a1).bind fun b38 => (app 8 b38 ([a2] : List Int)).bind fun x43 => some ((⟨b24.Quanta, (b24.Queues.set a1.toNat x43), b24.Credit, b24.Sent, b24.At⟩ : Turns), true))
noncomputable def laws_eqIntS_l0 (a0 : List Int) (a1 : List Int) (x : (Int)) : Option (LR (Int) (LR Unit (Bool))) :=
  match x with
  | (x7) => (bif (decide (x7 < (a0.length : Int))) then (idx a0 x7).bind fun b21 => (idx a1 x7).bind fun b22 => (bif (b21 != b22) then some (LR.done (LR.done false)) else some (LR.next ((IntKind.i64.wrap (x7 + 1))))) else some (LR.done (LR.next ())))
noncomputable def laws_eqIntS (a0 : List Int) (a1 : List Int) : Option (Bool) :=
  (bif ((a0.length : Int) != (a1.length : Int)) then some false else (whl (laws_eqIntS_l0 a0 a1) (0)).bind fun y => match y with | LR.next () => some true | LR.done z => some z)
noncomputable def laws_eqIntSS_l0 (a0 : List (List Int)) (a1 : List (List Int)) (x : (Int)) : Option (LR (Int) (LR Unit (Bool))) :=
  match x with
  | (x7) => (bif (decide (x7 < (a0.length : Int))) then (idx a0 x7).bind fun b21 => (idx a1 x7).bind fun b22 => (laws_eqIntS b21 b22).bind fun b23 => (bif (!b23) then some (LR.done (LR.done false)) else some (LR.next ((IntKind.i64.wrap (x7 + 1))))) else some (LR.done (LR.next ())))
noncomputable def laws_eqIntSS (a0 : List (List Int)) (a1 : List (List Int)) : Option (Bool) :=
  (bif ((a0.length : Int) != (a1.length : Int)) then some false else (whl (laws_eqIntSS_l0 a0 a1) (0)).bind fun y => match y with | LR.next () => some true | LR.done z => some z)
noncomputable def laws_eqTurns (a0 : Turns) (a1 : Turns) : Option (Bool) :=
  (laws_eqIntS a0.Quanta a1.Quanta).bind fun b8 => (bif (!b8) then some false else (laws_eqIntSS a0.Queues a1.Queues).bind fun b12 => (bif (!b12) then some false else (laws_eqIntS a0.Credit a1.Credit).bind fun b16 => (bif (!b16) then some false else (laws_eqIntS a0.Sent a1.Sent).bind fun b20 => (bif (!b20) then some false else (bif (a0.At != a1.At) then some false else some true)))))
noncomputable def laws_markIntS_l0 (x : ((List Int) × Int × Int)) : Option (LR ((List Int) × Int × Int) (Int × (List Int))) :=
  match x with
  | (x4, x5, x6) => (bif (decide (x6 < (x4.length : Int))) then (idx x4 x6).bind fun _b22 => some (LR.next ((x4.set x6.toNat x5), (IntKind.i64.wrap (x5 + 1)), (IntKind.i64.wrap (x6 + 1)))) else some (LR.done (x5, x4)))
noncomputable def laws_markIntS (a0 : List Int) (a1 : Int) : Option (Int × List Int) :=
  (whl (laws_markIntS_l0) (a0, a1, 0)).bind fun (x7, x8) => some (x7, x8)
noncomputable def laws_markIntSS_l0 (x : ((List (List Int)) × Int × Int)) : Option (LR ((List (List Int)) × Int × Int) (Int × (List (List Int)))) :=
  match x with
  | (x5, x7, x8) => (bif (decide (x8 < (x5.length : Int))) then (idx x5 x8).bind fun b25 => (laws_markIntS b25 x7).bind fun (b29, b30) => some (LR.next ((x5.set x8.toNat b30), b29, (IntKind.i64.wrap (x8 + 1)))) else some (LR.done (x7, x5)))
noncomputable def laws_markIntSS (a0 : List (List Int)) (a1 : Int) : Option (Int × List (List Int)) :=
  (whl (laws_markIntSS_l0) (a0, a1, 0)).bind fun (x9, x10) => some (x9, x10)
noncomputable def laws_markTurns (a0 : Turns) (a1 : Int) : Option (Int × List Int × List (List Int) × List Int × List Int) :=
  (laws_markIntS a0.Quanta a1).bind fun (b6, b7) => (laws_markIntSS a0.Queues b6).bind fun (b10, b11) => (laws_markIntS a0.Credit b10).bind fun (b15, b16) => (laws_markIntS a0.Sent b15).bind fun (b19, b20) => some (b19, b7, b11, b16, b20)
noncomputable def laws_heldIntS_l0 (a0 : List Int) (x : (Int × Int)) : Option (LR (Int × Int) (LR (Int) (Int))) :=
  match x with
  | (x4, x5) => (bif (decide (x5 < (a0.length : Int))) then (idx a0 x5).bind fun b21 => (bif (b21 != x4) then some (LR.done (LR.done (-1))) else some (LR.next ((IntKind.i64.wrap (x4 + 1)), (IntKind.i64.wrap (x5 + 1))))) else some (LR.done (LR.next (x4))))
noncomputable def laws_heldIntS (a0 : List Int) (a1 : Int) : Option (Int) :=
  (whl (laws_heldIntS_l0 a0) (a1, 0)).bind fun y => match y with | LR.next (x6) => some x6 | LR.done z => some z
noncomputable def laws_heldIntSS_l0 (a0 : List (List Int)) (x : (Int × Int)) : Option (LR (Int × Int) (LR (Int) (Int))) :=
  match x with
  | (x4, x5) => (bif (decide (x5 < (a0.length : Int))) then (idx a0 x5).bind fun b20 => (laws_heldIntS b20 x4).bind fun b21 => (bif (decide (b21 < 0)) then some (LR.done (LR.done (-1))) else some (LR.next (b21, (IntKind.i64.wrap (x5 + 1))))) else some (LR.done (LR.next (x4))))
noncomputable def laws_heldIntSS (a0 : List (List Int)) (a1 : Int) : Option (Int) :=
  (whl (laws_heldIntSS_l0 a0) (a1, 0)).bind fun y => match y with | LR.next (x6) => some x6 | LR.done z => some z
noncomputable def laws_heldTurns (a0 : Turns) (a1 : Int) : Option (Int) :=
  (laws_heldIntS a0.Quanta a1).bind fun b5 => (bif (decide (b5 < 0)) then some (-1) else (laws_heldIntSS a0.Queues b5).bind fun b10 => (bif (decide (b10 < 0)) then some (-1) else (laws_heldIntS a0.Credit b10).bind fun b15 => (bif (decide (b15 < 0)) then some (-1) else (laws_heldIntS a0.Sent b15).bind fun b20 => (bif (decide (b20 < 0)) then some (-1) else some b20))))
noncomputable def laws_FnExactPutPacket (a0 : Turns) (a1 : Int) (a2 : Int) : Option (Bool) :=
  (laws_szTurns a0 1048576).bind fun b6 => (bif (decide (b6 < 0)) then some true else (laws_toTurns a0).bind fun b11 => (spec_PutPacket b11 a1 a2).bind fun (b22, b23) => (laws_toTurns a0).bind fun b41 => (impl_PutPacket b41 a1 a2).bind fun (b55, b56) => ((laws_eqTurns b55 b22).bind fun b80 => (bif (!b80) then some (true) else some ((!(b56 == b23))))).bind fun x75 => (bif x75 then some false else (laws_toTurns a0).bind fun b84 => (laws_eqTurns b41 b84).bind fun b90 => (bif (!b90) then some false else (laws_markTurns b41 1).bind fun (b95, _b96, _b97, _b98, _b99) => ((bif (decide (b95 < 0)) then some (true) else (laws_eqTurns b55 b22).bind fun b108 => (bif (!b108) then some (true) else some ((!(b56 == b23)))))).bind fun x103 => (bif x103 then some false else (laws_markTurns b55 1).bind fun (b113, b114, b115, b116, b117) => (laws_heldTurns (⟨b114, b115, b116, b117, b55.At⟩ : Turns) 1).bind fun b121 => (bif (decide (b121 < 0)) then some false else (bif (b121 != b113) then some false else (laws_toTurns a0).bind fun b129 => (impl_PutPacket b129 a1 a2).bind fun (b140, b141) => ((laws_eqTurns b140 b22).bind fun b165 => (bif (!b165) then some (true) else some ((!(b141 == b23))))).bind fun x160 => (bif x160 then some false else (laws_heldTurns (⟨b114, b115, b116, b117, b55.At⟩ : Turns) 1).bind fun b169 => (bif (decide (b169 < 0)) then some false else (bif (b169 != b113) then some false else some true)))))))))
noncomputable def spec_l8Next_l0 (a0 : Turns) (x : ((List Int) × (List Int) × (List Int) × (List Int))) : Option (LR ((List Int) × (List Int) × (List Int) × (List Int)) ((List Int) × (List Int) × (List Int) × (List Int))) :=
  match x with
  | (x29, x32, x35, x36) => ((bif (decide (0 < (x32.length : Int))) then (idx x32 0).bind fun b58 => (idx x35 a0.At).bind fun b60 => some ((decide (b58 ≤ b60))) else some (false))).bind fun x53 => (bif x53 then (idx x35 a0.At).bind fun b64 => (idx x32 0).bind fun b66 => (idx x35 a0.At).bind fun _b68 => (idx x36 a0.At).bind fun b71 => (idx x32 0).bind fun b73 => (idx x36 a0.At).bind fun _b75 => (idx x32 0).bind fun b78 => (app 8 x29 ([b78] : List Int)).bind fun x82 => (slc x32 1 (x32.length : Int)).bind fun x85 => some (LR.next (x82, x85, (x35.set a0.At.toNat (IntKind.i64.wrap (b64 - b66))), (x36.set a0.At.toNat (IntKind.i64.wrap (b71 + b73))))) else some (LR.done (x29, x32, x35, x36)))
noncomputable def spec_l8Next (a0 : Turns) : Option (Turns × List Int) :=
  (md (IntKind.i64.wrap (a0.At + 1)) (a0.Queues.length : Int)).bind fun x8 => (idx a0.Queues a0.At).bind fun b12 => ((bif (decide (0 < (b12.length : Int))) then (idx a0.Credit a0.At).bind fun b22 => (idx a0.Quanta a0.At).bind fun b24 => (idx a0.Credit a0.At).bind fun _b26 => some ((a0.Credit.set a0.At.toNat (IntKind.i64.wrap (b22 + b24)))) else some (a0.Credit))).bind fun x17 => (whl (spec_l8Next_l0 a0) ([], b12, x17, a0.Sent)).bind fun (x37, x39, x41, x42) => ((bif ((x39.length : Int) == 0) then (idx x41 a0.At).bind fun _b98 => some ((x41.set a0.At.toNat 0)) else some (x41))).bind fun x93 => (app 8 ([] : List Int) x39).bind fun x102 => some ((⟨a0.Quanta, (a0.Queues.set a0.At.toNat x102), x93, x42, x8⟩ : Turns), x37)
noncomputable def spec_NextTurn (a0 : Turns) : Option (Turns × List Int × Bool) :=
  (spec_GoodTurns a0).bind fun b8 => (bif (!b8) then some ((⟨([] : List Int), ([] : List (List Int)), ([] : List Int), ([] : List Int), 0⟩ : Turns), ([] : List Int), false) else (spec_l8Own a0).bind fun b17 => (spec_l8Next b17).bind fun (b28, b29) => (spec_GoodTurns b28).bind fun b45 => (bif (!b45) then some ((⟨([] : List Int), ([] : List (List Int)), ([] : List Int), ([] : List Int), 0⟩ : Turns), ([] : List Int), false) else (spec_l8Own b28).bind fun b54 => some (b54, b29, true)))
noncomputable def impl_Turns_turn_l0 (a0 : Turns) (x : ((List Int) × (List (List Int)) × (List Int) × (List Int))) : Option (LR ((List Int) × (List (List Int)) × (List Int) × (List Int)) ((List Int) × (List (List Int)) × (List Int) × (List Int))) :=
  match x with
  | (x29, x32, x34, x35) => ((idx x32 a0.At).bind fun b61 => (bif (decide (0 < (b61.length : Int))) then (idx b61 0).bind fun b65 => (idx x34 a0.At).bind fun b67 => some ((decide (b65 ≤ b67))) else some (false))).bind fun x54 => (bif x54 then (idx x32 a0.At).bind fun b74 => (idx b74 0).bind fun b77 => (slc b74 1 (b74.length : Int)).bind fun x81 => (idx x34 a0.At).bind fun b86 => (idx x34 a0.At).bind fun _b88 => (idx x35 a0.At).bind fun b91 => (idx x35 a0.At).bind fun _b93 => (app 8 x29 ([b77] : List Int)).bind fun x97 => some (LR.next (x97, (x32.set a0.At.toNat x81), (x34.set a0.At.toNat (IntKind.i64.wrap (b86 - b77))), (x35.set a0.At.toNat (IntKind.i64.wrap (b91 + b77))))) else some (LR.done (x29, x32, x34, x35)))
noncomputable def impl_Turns_turn (a0 : Turns) : Option (List Int × Bool × Turns) :=
  (md (IntKind.i64.wrap (a0.At + 1)) (a0.Quanta.length : Int)).bind fun x4 => (idx a0.Queues a0.At).bind fun b8 => ((bif (decide (0 < (b8.length : Int))) then (idx a0.Credit a0.At).bind fun b19 => (idx a0.Quanta a0.At).bind fun b21 => (idx a0.Credit a0.At).bind fun _b23 => some ((a0.Credit.set a0.At.toNat (IntKind.i64.wrap (b19 + b21)))) else some (a0.Credit))).bind fun x14 => (whl (impl_Turns_turn_l0 a0) ([], a0.Queues, x14, a0.Sent)).bind fun (x36, x38, x40, x41) => (idx x38 a0.At).bind fun b107 => ((bif ((b107.length : Int) == 0) then (idx x40 a0.At).bind fun _b118 => some ((x40.set a0.At.toNat 0)) else some (x40))).bind fun x113 => (idx x41 a0.At).bind fun b123 => some (x36, (decide (b123 ≤ 1000000)), (⟨a0.Quanta, x38, x113, x41, x4⟩ : Turns))
noncomputable def impl_NextTurn (a0 : Turns) : Option (Turns × List Int × Bool) :=
  (impl_GoodTurns a0).bind fun b8 => (bif (!b8) then some ((⟨([] : List Int), ([] : List (List Int)), ([] : List Int), ([] : List Int), 0⟩ : Turns), ([] : List Int), false) else (impl_Turns_copied a0).bind fun b17 => (impl_Turns_turn b17).bind fun (b31, b32, b33) => (bif (!b32) then some ((⟨([] : List Int), ([] : List (List Int)), ([] : List Int), ([] : List Int), 0⟩ : Turns), ([] : List Int), false) else some (b33, b31, true)))
noncomputable def laws_FnExactNextTurn (a0 : Turns) : Option (Bool) :=
  (laws_szTurns a0 1048576).bind fun b6 => (bif (decide (b6 < 0)) then some true else (laws_toTurns a0).bind fun b11 => (spec_NextTurn b11).bind fun (b22, b23, b24) => (laws_toTurns a0).bind fun b45 => (impl_NextTurn b45).bind fun (b59, b60, b61) => ((laws_eqTurns b59 b22).bind fun b88 => (bif (!b88) then some (true) else (laws_eqIntS b60 b23).bind fun b89 => (bif (!b89) then some (true) else some ((!(b61 == b24)))))).bind fun x83 => (bif x83 then some false else (laws_toTurns a0).bind fun b93 => (laws_eqTurns b45 b93).bind fun b99 => (bif (!b99) then some false else (laws_markTurns b45 1).bind fun (b104, _b105, _b106, _b107, _b108) => ((bif (decide (b104 < 0)) then some (true) else (laws_eqTurns b59 b22).bind fun b117 => (bif (!b117) then some (true) else (laws_eqIntS b60 b23).bind fun b118 => (bif (!b118) then some (true) else some ((!(b61 == b24))))))).bind fun x112 => (bif x112 then some false else (laws_markTurns b59 1).bind fun (b123, b124, b125, b126, b127) => (laws_markIntS b60 b123).bind fun (b131, b132) => (laws_heldTurns (⟨b124, b125, b126, b127, b59.At⟩ : Turns) 1).bind fun b135 => (bif (decide (b135 < 0)) then some false else (laws_heldIntS b132 b135).bind fun b140 => (bif (decide (b140 < 0)) then some false else (bif (b140 != b131) then some false else (laws_toTurns a0).bind fun b148 => (impl_NextTurn b148).bind fun (b159, b160, b161) => ((laws_eqTurns b159 b22).bind fun b188 => (bif (!b188) then some (true) else (laws_eqIntS b160 b23).bind fun b189 => (bif (!b189) then some (true) else some ((!(b161 == b24)))))).bind fun x183 => (bif x183 then some false else (laws_heldTurns (⟨b124, b125, b126, b127, b59.At⟩ : Turns) 1).bind fun b193 => (bif (decide (b193 < 0)) then some false else (laws_heldIntS b132 b193).bind fun b198 => (bif (decide (b198 < 0)) then some false else (bif (b198 != b131) then some false else some true)))))))))))
noncomputable def spec_RunTurns_l0 (x : (Int × (List Int) × (List (List Int)) × (List Int) × (List Int) × Int)) : Option (LR (Int × (List Int) × (List (List Int)) × (List Int) × (List Int) × Int) (LR ((List Int) × (List (List Int)) × (List Int) × (List Int) × Int) (Turns × Bool))) :=
  match x with
  | (x35, x36, x39, x43, x46, x49) => (bif (decide (0 < x35)) then (spec_NextTurn (⟨x36, x39, x43, x46, x49⟩ : Turns)).bind fun (b74, _b75, b76) => (bif (!b76) then some (LR.done (LR.done ((⟨([] : List Int), ([] : List (List Int)), ([] : List Int), ([] : List Int), 0⟩ : Turns), false))) else some (LR.next ((IntKind.i64.wrap (x35 - 1)), b74.Quanta, b74.Queues, b74.Credit, b74.Sent, b74.At))) else some (LR.done (LR.next (x36, x39, x43, x46, x49))))
noncomputable def spec_RunTurns (a0 : Turns) (a1 : Int) : Option (Turns × Bool) :=
  ((spec_GoodTurns a0).bind fun b13 => (bif (!b13) then some (true) else (spec_l1In a1 0 60).bind fun b14 => some ((!b14)))).bind fun x8 => (bif x8 then some ((⟨([] : List Int), ([] : List (List Int)), ([] : List Int), ([] : List Int), 0⟩ : Turns), false) else (spec_l8Own a0).bind fun b22 => (whl (spec_RunTurns_l0) (a1, b22.Quanta, b22.Queues, b22.Credit, b22.Sent, b22.At)).bind fun y => match y with | LR.next (x50, x52, x55, x57, x59) => some ((⟨x50, x52, x55, x57, x59⟩ : Turns), true) | LR.done z => some z)
noncomputable def impl_RunTurns_l0 (a1 : Int) (x : (Int × (List Int) × (List (List Int)) × (List Int) × (List Int) × Int)) : Option (LR (Int × (List Int) × (List (List Int)) × (List Int) × (List Int) × Int) (LR ((List Int) × (List (List Int)) × (List Int) × (List Int) × Int) (Turns × Bool))) :=
  match x with
  | (x36, x37, x39, x42, x44, x46) => (bif (decide (x36 < a1)) then (impl_Turns_turn (⟨x37, x39, x42, x44, x46⟩ : Turns)).bind fun (_b71, b72, b73) => (bif (!b72) then some (LR.done (LR.done ((⟨([] : List Int), ([] : List (List Int)), ([] : List Int), ([] : List Int), 0⟩ : Turns), false))) else some (LR.next ((IntKind.i64.wrap (x36 + 1)), b73.Quanta, b73.Queues, b73.Credit, b73.Sent, b73.At))) else some (LR.done (LR.next (x37, x39, x42, x44, x46))))
noncomputable def impl_RunTurns (a0 : Turns) (a1 : Int) : Option (Turns × Bool) :=
  ((impl_GoodTurns a0).bind fun b13 => (bif (!b13) then some (true) else (impl_in a1 0 60).bind fun b14 => some ((!b14)))).bind fun x8 => (bif x8 then some ((⟨([] : List Int), ([] : List (List Int)), ([] : List Int), ([] : List Int), 0⟩ : Turns), false) else (impl_Turns_copied a0).bind fun b22 => (whl (impl_RunTurns_l0 a1) (0, b22.Quanta, b22.Queues, b22.Credit, b22.Sent, b22.At)).bind fun y => match y with | LR.next (x47, x49, x52, x54, x56) => some ((⟨x47, x49, x52, x54, x56⟩ : Turns), true) | LR.done z => some z)
noncomputable def laws_FnExactRunTurns (a0 : Turns) (a1 : Int) : Option (Bool) :=
  (laws_szTurns a0 1048576).bind fun b6 => (bif (decide (b6 < 0)) then some true else (laws_toTurns a0).bind fun b11 => (spec_RunTurns b11 a1).bind fun (b22, b23) => (laws_toTurns a0).bind fun b41 => (impl_RunTurns b41 a1).bind fun (b55, b56) => ((laws_eqTurns b55 b22).bind fun b80 => (bif (!b80) then some (true) else some ((!(b56 == b23))))).bind fun x75 => (bif x75 then some false else (laws_toTurns a0).bind fun b84 => (laws_eqTurns b41 b84).bind fun b90 => (bif (!b90) then some false else (laws_markTurns b41 1).bind fun (b95, _b96, _b97, _b98, _b99) => ((bif (decide (b95 < 0)) then some (true) else (laws_eqTurns b55 b22).bind fun b108 => (bif (!b108) then some (true) else some ((!(b56 == b23)))))).bind fun x103 => (bif x103 then some false else (laws_markTurns b55 1).bind fun (b113, b114, b115, b116, b117) => (laws_heldTurns (⟨b114, b115, b116, b117, b55.At⟩ : Turns) 1).bind fun b121 => (bif (decide (b121 < 0)) then some false else (bif (b121 != b113) then some false else (laws_toTurns a0).bind fun b129 => (impl_RunTurns b129 a1).bind fun (b140, b141) => ((laws_eqTurns b140 b22).bind fun b165 => (bif (!b165) then some (true) else some ((!(b141 == b23))))).bind fun x160 => (bif x160 then some false else (laws_heldTurns (⟨b114, b115, b116, b117, b55.At⟩ : Turns) 1).bind fun b169 => (bif (decide (b169 < 0)) then some false else (bif (b169 != b113) then some false else some true)))))))))
noncomputable def spec_l1Cur_next (a0 : L1Cur) : Option (Int × L1Cur) :=
  ((bif (decide (a0.At < (a0.Code.length : Int))) then (idx a0.Code a0.At).bind fun b10 => some ((IntKind.i64.wrap b10)) else some (0))).bind fun x5 => (bif (decide ((IntKind.i64.wrap (a0.At + 1)) ≤ (a0.Code.length : Int))) then some (x5, (⟨a0.Code, (IntKind.i64.wrap (a0.At + 1)), (IntKind.u64.wrap ((IntKind.u64.wrap ((IntKind.u64.wrap (a0.Seed * 6364136223846793005)) + (IntKind.u64.wrap x5))) + 1442695040888963407))⟩ : L1Cur)) else some ((IntKind.i64.wrap (andL .u64 (shrL .u64 (IntKind.u64.wrap ((IntKind.u64.wrap ((IntKind.u64.wrap (a0.Seed * 6364136223846793005)) + (IntKind.u64.wrap x5))) + 1442695040888963407)) 40) 255)), (⟨a0.Code, (IntKind.i64.wrap (a0.At + 1)), (IntKind.u64.wrap ((IntKind.u64.wrap ((IntKind.u64.wrap (a0.Seed * 6364136223846793005)) + (IntKind.u64.wrap x5))) + 1442695040888963407))⟩ : L1Cur)))
noncomputable def spec_l1Cur_pick (a0 : L1Cur) (a1 : Int) : Option (Int × L1Cur) :=
  (bif (decide (a1 ≤ 1)) then some (0, a0) else (spec_l1Cur_next a0).bind fun (b7, b8) => ((bif (decide (200 < a1)) then (spec_l1Cur_next b8).bind fun (b20, b21) => some ((IntKind.i64.wrap ((IntKind.i64.wrap (b7 * 256)) + b20)), b21.Code, b21.At, b21.Seed) else some (b7, b8.Code, b8.At, b8.Seed))).bind fun (x11, x12, x13, x14) => (md x11 a1).bind fun x23 => some (x23, (⟨x12, x13, x14⟩ : L1Cur)))
noncomputable def spec_l1Cur_one (a0 : L1Cur) (a1 : Int) : Option (Bool × L1Cur) :=
  (spec_l1Cur_pick a0 a1).bind fun (b4, b5) => some ((b4 == 0), b5)
noncomputable def spec_l1Least (a0 : Int) (a1 : Int) : Option (Int) :=
  (bif (decide (a0 < a1)) then some a0 else some a1)
noncomputable def spec_l1Cur_among (a0 : L1Cur) (a1 : List Int) : Option (Int × L1Cur) :=
  (spec_l1Cur_pick a0 (a1.length : Int)).bind fun (b4, b5) => (idx a1 b4).bind fun b6 => some (b6, b5)
noncomputable def spec_l1Cur_again_l0 (x : ((List Again) × Int × (List Int) × Int × Int)) : Option (LR ((List Again) × Int × (List Int) × Int × Int) ((List Again) × (List Int) × Int × Int)) :=
  match x with
  | (x24, x27, x28, x29, x30) => (bif (decide (0 < x27)) then (spec_l1Cur_pick (⟨x28, x29, x30⟩ : L1Cur) 4).bind fun (b50, b51) => (spec_l1Cur_pick b51 14).bind fun (b56, b57) => (spec_l1Least 40 (IntKind.i64.wrap ((IntKind.i64.wrap (1 + b50)) + b56))).bind fun b58 => (app 16 x24 ([(⟨(IntKind.i64.wrap (1 + b50)), b58⟩ : Again)] : List Again)).bind fun x61 => some (LR.next (x61, (IntKind.i64.wrap (x27 - 1)), b57.Code, b57.At, b57.Seed)) else some (LR.done (x24, x28, x29, x30)))
noncomputable def spec_l1Cur_again (a0 : L1Cur) : Option (List Again × L1Cur) :=
  (spec_l1Cur_pick a0 5).bind fun (b5, b6) => (spec_l1Cur_one b6 20).bind fun (b10, b11) => ((bif b10 then (spec_l1Cur_pick b11 2).bind fun (b21, b22) => some ((IntKind.i64.wrap (5 + b21)), b22.Code, b22.At, b22.Seed) else some (b5, b11.Code, b11.At, b11.Seed))).bind fun (x12, x13, x14, x15) => (whl (spec_l1Cur_again_l0) ([], x12, x13, x14, x15)).bind fun (x31, x33, x34, x35) => ((bif (decide (0 < (x31.length : Int))) then (spec_l1Cur_one (⟨x33, x34, x35⟩ : L1Cur) 30).bind fun (b77, b78) => some (b77, b78.Code, b78.At, b78.Seed) else some (false, x33, x34, x35))).bind fun (x68, x69, x70, x71) => ((bif x68 then (spec_l1Cur_among (⟨x69, x70, x71⟩ : L1Cur) ([0, 10, 11] : List Int)).bind fun (b90, b91) => (spec_l1Cur_among b91 ([5, 40, 41] : List Int)).bind fun (b95, b96) => (idx x31 0).bind fun _b97 => some ((x31.set (0 : Int).toNat (⟨b90, b95⟩ : Again)), b96.Code, b96.At, b96.Seed) else some (x31, x69, x70, x71))).bind fun (x79, x80, x81, x82) => some (x79, (⟨x80, x81, x82⟩ : L1Cur))
noncomputable def spec_DrawGoodAgain (a0 : List Int) : Option (List Again) :=
  (spec_l1Cur_again (⟨a0, 0, 0⟩ : L1Cur)).bind fun (b7, _b8) => some b7
noncomputable def spec_DrawAllInTime (a0 : List Int) : Option (List Again) :=
  (spec_DrawGoodAgain a0).bind fun b3 => some b3
noncomputable def slices_IndexFunc_impl_Again_l0 (a0 : List Again) (g1 : Again → Option Bool) (x : (Int)) : Option (LR (Int) (LR Unit (Int))) :=
  match x with
  | (x4) => (bif (decide (x4 < (a0.length : Int))) then (idx a0 x4).bind fun b19 => (g1 b19).bind fun b20 => (bif b20 then some (LR.done (LR.done x4)) else some (LR.next ((IntKind.i64.wrap (x4 + 1))))) else some (LR.done (LR.next ())))
noncomputable def slices_IndexFunc_impl_Again (a0 : List Again) (g1 : Again → Option Bool) : Option (Int) :=
  (whl (slices_IndexFunc_impl_Again_l0 a0 g1) (0)).bind fun y => match y with | LR.next () => some (-1) | LR.done z => some z
noncomputable def slices_ContainsFunc_impl_Again (a0 : List Again) (g1 : Again → Option Bool) : Option (Bool) :=
  (slices_IndexFunc_impl_Again a0 g1).bind fun b3 => some (decide (0 ≤ b3))
noncomputable def impl_GoodAgain_1 (a0 : Again) : Option (Bool) :=
  (impl_in a0.Need 1 10).bind fun b5 => (bif (!b5) then some true else (impl_in a0.Every a0.Need 40).bind fun b6 => some (!b6))
noncomputable def impl_GoodAgain (a0 : List Again) : Option (Bool) :=
  (bif (decide ((a0.length : Int) ≤ 5)) then (slices_ContainsFunc_impl_Again a0 impl_GoodAgain_1).bind fun b3 => some (!b3) else some false)
noncomputable def impl_longest_l0 (x5 : Int) (x21 : List Again) (x : (Int × Int)) : Option (LR (Int × Int) (Int)) :=
  match x with
  | (x22, x23) => (bif (decide (x23 < (x21.length : Int))) then (idx x21 x23).bind fun b38 => (dv .i64 (IntKind.i64.wrap ((IntKind.i64.wrap (x5 + b38.Every)) - 1)) b38.Every).bind fun x41 => some (LR.next ((IntKind.i64.wrap (x22 + (IntKind.i64.wrap (b38.Need * x41)))), (IntKind.i64.wrap (x23 + 1)))) else some (LR.done (x22)))
noncomputable def impl_longest_l1 (a0 : List Again) (a1 : Int) (x : (Int)) : Option (LR (Int) (LR Unit (Int × Bool))) :=
  match x with
  | (x5) => (bif (decide (x5 ≤ 200)) then (idx a0 a1).bind fun b18 => (slc a0 0 a1).bind fun x21 => (whl (impl_longest_l0 x5 x21) (b18.Need, 0)).bind fun x24 => (bif (x24 == x5) then some (LR.done (LR.done (x5, true))) else some (LR.next (x24))) else some (LR.done (LR.next ())))
noncomputable def impl_longest (a0 : List Again) (a1 : Int) : Option (Int × Bool) :=
  (idx a0 a1).bind fun b4 => (whl (impl_longest_l1 a0 a1) (b4.Need)).bind fun y => match y with | LR.next () => some (0, false) | LR.done z => some z
noncomputable def impl_AllInTime_l0 (a0 : List Again) (x : (Int)) : Option (LR (Int) (LR Unit (Bool × Bool))) :=
  match x with
  | (x8) => (bif (decide (x8 < (a0.length : Int))) then (idx a0 x8).bind fun b22 => (impl_longest a0 x8).bind fun (b27, b28) => ((bif (!b28) then some (true) else some ((decide (b22.Every < b27))))).bind fun x30 => (bif x30 then some (LR.done (LR.done (false, true))) else some (LR.next ((IntKind.i64.wrap (x8 + 1))))) else some (LR.done (LR.next ())))
noncomputable def impl_AllInTime (a0 : List Again) : Option (Bool × Bool) :=
  (impl_GoodAgain a0).bind fun b4 => (bif (!b4) then some (false, false) else (whl (impl_AllInTime_l0 a0) (0)).bind fun y => match y with | LR.next () => some (true, true) | LR.done z => some z)
noncomputable def spec_GoodAgain_l0 (a0 : List Again) (x : (Int)) : Option (LR (Int) (LR Unit (Bool))) :=
  match x with
  | (x4) => (bif (decide (x4 < (a0.length : Int))) then (idx a0 x4).bind fun b18 => ((spec_l1In b18.Need 1 10).bind fun b27 => (bif (!b27) then some (true) else (spec_l1In b18.Every b18.Need 40).bind fun b28 => some ((!b28)))).bind fun x22 => (bif x22 then some (LR.done (LR.done false)) else some (LR.next ((IntKind.i64.wrap (x4 + 1))))) else some (LR.done (LR.next ())))
noncomputable def spec_GoodAgain (a0 : List Again) : Option (Bool) :=
  (whl (spec_GoodAgain_l0 a0) (0)).bind fun y => match y with | LR.next () => some (decide ((a0.length : Int) ≤ 5)) | LR.done z => some z
noncomputable def spec_l6Longest_l0 (x5 : Int) (x21 : List Again) (x : (Int × Int)) : Option (LR (Int × Int) (Int)) :=
  match x with
  | (x22, x23) => (bif (decide (x23 < (x21.length : Int))) then (idx x21 x23).bind fun b38 => (dv .i64 (IntKind.i64.wrap ((IntKind.i64.wrap (x5 + b38.Every)) - 1)) b38.Every).bind fun x41 => some (LR.next ((IntKind.i64.wrap (x22 + (IntKind.i64.wrap (b38.Need * x41)))), (IntKind.i64.wrap (x23 + 1)))) else some (LR.done (x22)))
noncomputable def spec_l6Longest_l1 (a0 : List Again) (a1 : Int) (x : (Int)) : Option (LR (Int) (LR Unit (Int))) :=
  match x with
  | (x5) => (bif (decide (x5 ≤ 200)) then (idx a0 a1).bind fun b18 => (slc a0 0 a1).bind fun x21 => (whl (spec_l6Longest_l0 x5 x21) (b18.Need, 0)).bind fun x24 => (bif (x24 == x5) then some (LR.done (LR.done x5)) else some (LR.next (x24))) else some (LR.done (LR.next ())))
noncomputable def spec_l6Longest (a0 : List Again) (a1 : Int) : Option (Int) :=
  (idx a0 a1).bind fun b3 => (whl (spec_l6Longest_l1 a0 a1) (b3.Need)).bind fun y => match y with | LR.next () => some (-1) | LR.done z => some z
noncomputable def spec_l6All_l0 (a0 : List Again) (x : (Int)) : Option (LR (Int) (LR Unit (Bool))) :=
  match x with
  | (x4) => (bif (decide (x4 < (a0.length : Int))) then (idx a0 x4).bind fun b18 => (spec_l6Longest a0 x4).bind fun b22 => ((bif (decide (b22 < 0)) then some (true) else some ((decide (b18.Every < b22))))).bind fun x24 => (bif x24 then some (LR.done (LR.done false)) else some (LR.next ((IntKind.i64.wrap (x4 + 1))))) else some (LR.done (LR.next ())))
noncomputable def spec_l6All (a0 : List Again) : Option (Bool) :=
  (whl (spec_l6All_l0 a0) (0)).bind fun y => match y with | LR.next () => some true | LR.done z => some z
noncomputable def spec_AllInTime (a0 : List Again) : Option (Bool × Bool) :=
  (spec_GoodAgain a0).bind fun b4 => (bif (!b4) then some (false, false) else (spec_l6All a0).bind fun b7 => some (b7, true))
noncomputable def impl_ByRate_1 (a0 : Int) (a1 : Int) (a2 : List Again) : Option (Int) :=
  (idx a2 a0).bind fun b3 => (idx a2 a1).bind fun b4 => some (IntKind.i64.wrap (b3.Every - b4.Every))
noncomputable def slices_insertionSortCmpFunc_int_l0 (a1 : Int) (g3 : Int → Int → Option Int) (x : ((List Int) × Int)) : Option (LR ((List Int) × Int) ((List Int))) :=
  match x with
  | (x18, x19) => ((bif (decide (a1 < x19)) then (idx x18 x19).bind fun b36 => (idx x18 (IntKind.i64.wrap (x19 - 1))).bind fun b38 => (g3 b36 b38).bind fun b40 => some ((decide (b40 < 0))) else some (false))).bind fun x31 => (bif x31 then (idx x18 (IntKind.i64.wrap (x19 - 1))).bind fun b43 => (idx x18 x19).bind fun b45 => (idx x18 x19).bind fun _b47 => (idx (x18.set x19.toNat b43) (IntKind.i64.wrap (x19 - 1))).bind fun _b49 => some (LR.next (((x18.set x19.toNat b43).set (IntKind.i64.wrap (x19 - 1)).toNat b45), (IntKind.i64.wrap (x19 - 1)))) else some (LR.done (x18)))
noncomputable def slices_insertionSortCmpFunc_int_l1 (a1 : Int) (a2 : Int) (g3 : Int → Int → Option Int) (x : ((List Int) × Int)) : Option (LR ((List Int) × Int) ((List Int))) :=
  match x with
  | (x2, x3) => (bif (decide (x3 < a2)) then (whl (slices_insertionSortCmpFunc_int_l0 a1 g3) (x2, x3)).bind fun x20 => some (LR.next (x20, (IntKind.i64.wrap (x3 + 1)))) else some (LR.done (x2)))
noncomputable def slices_insertionSortCmpFunc_int (a0 : List Int) (a1 : Int) (a2 : Int) (g3 : Int → Int → Option Int) : Option (List Int) :=
  (whl (slices_insertionSortCmpFunc_int_l1 a1 a2 g3) (a0, (IntKind.i64.wrap (a1 + 1)))).bind fun x4 => some x4
noncomputable def slices_stableCmpFunc_int_l0 (a1 : Int) (g2 : Int → Int → Option Int) (x : ((List Int) × Int × Int)) : Option (LR ((List Int) × Int × Int) ((List Int) × Int)) :=
  match x with
  | (x4, x5, x6) => (bif (decide (x6 ≤ a1)) then (slices_insertionSortCmpFunc_int x4 x5 x6 g2).bind fun b21 => some (LR.next (b21, x6, (IntKind.i64.wrap (x6 + 20)))) else some (LR.done (x4, x5)))
noncomputable def slices_stableCmpFunc_int_l1 (a1 : Int) (x27 : Int) (x : Unit) : Option (LR Unit Unit) :=
  match x with
  | () => (bif (decide ((IntKind.i64.wrap (2 * x27)) ≤ a1)) then none else some (LR.done ()))
noncomputable def slices_stableCmpFunc_int_l2 (a1 : Int) (x : (Int)) : Option (LR (Int) Unit) :=
  match x with
  | (x27) => (bif (decide (x27 < a1)) then (whl (slices_stableCmpFunc_int_l1 a1 x27) ()).bind fun _ => ((bif (decide ((IntKind.i64.wrap (0 + x27)) < a1)) then none else some ())).bind fun _ => some (LR.next ((IntKind.i64.wrap (x27 * 2)))) else some (LR.done ()))
noncomputable def slices_stableCmpFunc_int (a0 : List Int) (a1 : Int) (g2 : Int → Int → Option Int) : Option (List Int) :=
  (whl (slices_stableCmpFunc_int_l0 a1 g2) (a0, 0, 20)).bind fun (x7, x8) => (slices_insertionSortCmpFunc_int x7 x8 a1 g2).bind fun b26 => (whl (slices_stableCmpFunc_int_l2 a1) (20)).bind fun _ => some b26
noncomputable def slices_SortStableFunc_int (a0 : List Int) (g1 : Int → Int → Option Int) : Option (List Int) :=
  (slices_stableCmpFunc_int a0 (a0.length : Int) g1).bind fun b1 => some b1
noncomputable def impl_ByRate_l0 (a0 : List Again) (x : ((List Int) × Int)) : Option (LR ((List Int) × Int) ((List Int))) :=
  match x with
  | (x11, x14) => (bif (decide (x14 < (a0.length : Int))) then (app 8 x11 ([x14] : List Int)).bind fun x32 => some (LR.next (x32, (IntKind.i64.wrap (x14 + 1)))) else some (LR.done (x11)))
noncomputable def impl_ByRate (a0 : List Again) : Option (List Int × Bool) :=
  (impl_GoodAgain a0).bind fun b6 => (bif (!b6) then some ([], false) else (whl (impl_ByRate_l0 a0) ([], 0)).bind fun x15 => (slices_SortStableFunc_int x15 (fun y0 y1 => impl_ByRate_1 y0 y1 a0)).bind fun b38 => some (b38, true))
noncomputable def spec_ByRate_l0 (a0 : List Again) (x9 : List Int) (b28 : Again) (x : (Int)) : Option (LR (Int) (Int)) :=
  match x with
  | (x33) => ((bif (decide (x33 < (x9.length : Int))) then (idx x9 x33).bind fun b50 => (idx a0 b50).bind fun b52 => some ((decide (b52.Every ≤ b28.Every))) else some (false))).bind fun x45 => (bif x45 then some (LR.next ((IntKind.i64.wrap (x33 + 1)))) else some (LR.done (x33)))
noncomputable def spec_ByRate_l1 (a0 : List Again) (x : ((List Int) × Int)) : Option (LR ((List Int) × Int) ((List Int))) :=
  match x with
  | (x9, x12) => (bif (decide (x12 < (a0.length : Int))) then (idx a0 x12).bind fun b28 => (whl (spec_ByRate_l0 a0 x9 b28) (0)).bind fun x34 => (slc x9 0 x34).bind fun x57 => (app 8 ([] : List Int) x57).bind fun x60 => (app 8 x60 ([x12] : List Int)).bind fun x66 => (slc x9 x34 (x9.length : Int)).bind fun x69 => (app 8 x66 x69).bind fun x72 => some (LR.next (x72, (IntKind.i64.wrap (x12 + 1)))) else some (LR.done (x9)))
noncomputable def spec_ByRate (a0 : List Again) : Option (List Int × Bool) :=
  (spec_GoodAgain a0).bind fun b4 => (bif (!b4) then some ([], false) else (whl (spec_ByRate_l1 a0) ([], 0)).bind fun x13 => some (x13, true))
noncomputable def impl_divisor_l0 (x : (Int × Int)) : Option (LR (Int × Int) (Int)) :=
  match x with
  | (x3, x4) => (bif (x4 != 0) then (md x3 x4).bind fun x17 => some (LR.next (x4, x17)) else some (LR.done (x3)))
noncomputable def impl_divisor (a0 : Int) (a1 : Int) : Option (Int) :=
  (whl (impl_divisor_l0) (a0, a1)).bind fun x5 => some x5
noncomputable def impl_LoadOf_l0 (a0 : List Again) (x : (Int × Int × Int)) : Option (LR (Int × Int × Int) (Int × Int)) :=
  match x with
  | (x9, x10, x11) => (bif (decide (x11 < (a0.length : Int))) then (idx a0 x11).bind fun b27 => (impl_divisor (IntKind.i64.wrap ((IntKind.i64.wrap (x9 * b27.Every)) + (IntKind.i64.wrap (b27.Need * x10)))) (IntKind.i64.wrap (x10 * b27.Every))).bind fun b32 => (dv .i64 (IntKind.i64.wrap ((IntKind.i64.wrap (x9 * b27.Every)) + (IntKind.i64.wrap (b27.Need * x10)))) b32).bind fun x33 => (dv .i64 (IntKind.i64.wrap (x10 * b27.Every)) b32).bind fun x34 => some (LR.next (x33, x34, (IntKind.i64.wrap (x11 + 1)))) else some (LR.done (x9, x10)))
noncomputable def impl_LoadOf (a0 : List Again) : Option (Int × Int × Bool) :=
  (impl_GoodAgain a0).bind fun b4 => (bif (!b4) then some (0, 0, false) else (whl (impl_LoadOf_l0 a0) (0, 1, 0)).bind fun (x12, x13) => some (x12, x13, true))
noncomputable def spec_l6Gcd_l0 (x : (Int × Int)) : Option (LR (Int × Int) (Int)) :=
  match x with
  | (x3, x4) => (bif (decide (0 < x4)) then (md x3 x4).bind fun x18 => some (LR.next (x4, x18)) else some (LR.done (x3)))
noncomputable def spec_l6Gcd (a0 : Int) (a1 : Int) : Option (Int) :=
  (whl (spec_l6Gcd_l0) (a0, a1)).bind fun x5 => some x5
noncomputable def spec_LoadOf_l0 (a0 : List Again) (x : (Int × Int × Int)) : Option (LR (Int × Int × Int) (Int × Int)) :=
  match x with
  | (x10, x11, x12) => (bif (decide (x12 < (a0.length : Int))) then (idx a0 x12).bind fun b28 => (spec_l6Gcd (IntKind.i64.wrap ((IntKind.i64.wrap (x10 * b28.Every)) + (IntKind.i64.wrap (b28.Need * x11)))) (IntKind.i64.wrap (x11 * b28.Every))).bind fun b34 => (dv .i64 (IntKind.i64.wrap ((IntKind.i64.wrap (x10 * b28.Every)) + (IntKind.i64.wrap (b28.Need * x11)))) b34).bind fun x36 => (dv .i64 (IntKind.i64.wrap (x11 * b28.Every)) b34).bind fun x37 => some (LR.next (x36, x37, (IntKind.i64.wrap (x12 + 1)))) else some (LR.done (x10, x11)))
noncomputable def spec_LoadOf (a0 : List Again) : Option (Int × Int × Bool) :=
  (spec_GoodAgain a0).bind fun b4 => (bif (!b4) then some (0, 0, false) else (whl (spec_LoadOf_l0 a0) (0, 1, 0)).bind fun (x13, x14) => some (x13, x14, true))
noncomputable def laws_sameInts_l0 (a0 : List Int) (a1 : List Int) (x : (Int)) : Option (LR (Int) (LR Unit (Bool))) :=
  match x with
  | (x7) => (bif (decide (x7 < (a0.length : Int))) then (idx a0 x7).bind fun b22 => (idx a1 x7).bind fun b23 => (bif (b22 != b23) then some (LR.done (LR.done false)) else some (LR.next ((IntKind.i64.wrap (x7 + 1))))) else some (LR.done (LR.next ())))
noncomputable def laws_sameInts (a0 : List Int) (a1 : List Int) : Option (Bool) :=
  (bif ((a0.length : Int) != (a1.length : Int)) then some false else (whl (laws_sameInts_l0 a0 a1) (0)).bind fun y => match y with | LR.next () => some true | LR.done z => some z)
noncomputable def spec_DrawByRate (a0 : List Int) : Option (List Again) :=
  (spec_DrawGoodAgain a0).bind fun b3 => some b3
noncomputable def laws_FnRates_l0 (b6 : List Again) (b19 : List Int) (x : ((List Again) × Int)) : Option (LR ((List Again) × Int) ((List Again))) :=
  match x with
  | (x64, x67) => (bif (decide (x67 < (b19.length : Int))) then (idx b19 x67).bind fun b83 => (idx b6 b83).bind fun b85 => (app 16 x64 ([b85] : List Again)).bind fun x89 => some (LR.next (x89, (IntKind.i64.wrap (x67 + 1)))) else some (LR.done (x64)))
noncomputable def laws_FnRates (a0 : List Int) (a1 : List Int) : Option (Bool) :=
  (bif (decide (1048576 < (IntKind.i64.wrap ((a0.length : Int) + (a1.length : Int))))) then some true else (spec_DrawAllInTime a0).bind fun b6 => (impl_AllInTime b6).bind fun (b11, b12) => (spec_AllInTime b6).bind fun (b15, b16) => (impl_ByRate b6).bind fun (b19, b20) => (spec_ByRate b6).bind fun (b26, b27) => (impl_LoadOf b6).bind fun (b33, b34, b35) => (spec_LoadOf b6).bind fun (b38, b39, b40) => ((bif (!(b12 == b16)) then some (true) else (bif (!(b11 == b15)) then some (true) else (bif (!(b20 == b27)) then some (true) else (laws_sameInts b19 b26).bind fun b48 => (bif (!b48) then some (true) else (bif (!(b35 == b40)) then some (true) else (bif (b33 != b38) then some (true) else some ((b34 != b39))))))))).bind fun x43 => (bif x43 then some false else ((bif b12 then some (b20) else some (false))).bind fun x52 => ((bif x52 then (whl (laws_FnRates_l0 b6 b19) ([], 0)).bind fun x68 => (impl_AllInTime x68).bind fun (b96, b97) => (impl_LoadOf x68).bind fun (b100, b101, b102) => ((bif (!b97) then some (true) else (bif b11 then (bif (!b96) then some (true) else (bif (decide (b34 < b33)) then some (true) else (bif (!b102) then some (true) else (bif (b100 != b33) then some (true) else some ((b101 != b34)))))) else (bif (!b102) then some (true) else (bif (b100 != b33) then some (true) else some ((b101 != b34))))))).bind fun x104 => (bif x104 then some (LR.done false) else some (LR.next ())) else some (LR.next ()))).bind fun y => match y with | LR.next () => (spec_DrawByRate a1).bind fun b113 => (impl_ByRate b113).bind fun (b118, b119) => (spec_ByRate b113).bind fun (b125, b126) => (bif (b119 == b126) then (laws_sameInts b118 b125).bind fun b131 => some b131 else some false) | LR.done z => some z))
noncomputable def spec_l1Cur_tasks_l0 (x : ((List Task) × Int × (List Int) × Int × Int)) : Option (LR ((List Task) × Int × (List Int) × Int × Int) ((List Task) × (List Int) × Int × Int)) :=
  match x with
  | (x24, x27, x28, x29, x30) => (bif (decide (0 < x27)) then (spec_l1Cur_pick (⟨x28, x29, x30⟩ : L1Cur) 8).bind fun (b49, b50) => (spec_l1Cur_pick b50 25).bind fun (b52, b53) => (app 16 x24 ([(⟨(IntKind.i64.wrap (1 + b49)), b52⟩ : Task)] : List Task)).bind fun x56 => some (LR.next (x56, (IntKind.i64.wrap (x27 - 1)), b53.Code, b53.At, b53.Seed)) else some (LR.done (x24, x28, x29, x30)))
noncomputable def spec_l1Cur_tasks (a0 : L1Cur) : Option (List Task × L1Cur) :=
  (spec_l1Cur_pick a0 7).bind fun (b5, b6) => (spec_l1Cur_one b6 20).bind fun (b10, b11) => ((bif b10 then (spec_l1Cur_pick b11 2).bind fun (b21, b22) => some ((IntKind.i64.wrap (10 + b21)), b22.Code, b22.At, b22.Seed) else some (b5, b11.Code, b11.At, b11.Seed))).bind fun (x12, x13, x14, x15) => (whl (spec_l1Cur_tasks_l0) ([], x12, x13, x14, x15)).bind fun (x31, x33, x34, x35) => ((bif (decide (0 < (x31.length : Int))) then (spec_l1Cur_one (⟨x33, x34, x35⟩ : L1Cur) 30).bind fun (b72, b73) => some (b72, b73.Code, b73.At, b73.Seed) else some (false, x33, x34, x35))).bind fun (x63, x64, x65, x66) => ((bif x63 then (spec_l1Cur_among (⟨x64, x65, x66⟩ : L1Cur) ([0, 20, 21] : List Int)).bind fun (b85, b86) => (spec_l1Cur_among b86 ([-1, 200, 201] : List Int)).bind fun (b90, b91) => (idx x31 0).bind fun _b92 => some ((x31.set (0 : Int).toNat (⟨b85, b90⟩ : Task)), b91.Code, b91.At, b91.Seed) else some (x31, x64, x65, x66))).bind fun (x74, x75, x76, x77) => some (x74, (⟨x75, x76, x77⟩ : L1Cur))
noncomputable def spec_l1Cur_taskOrder_l0 (a1 : Int) (x : ((List Int) × Int)) : Option (LR ((List Int) × Int) ((List Int))) :=
  match x with
  | (x5, x8) => (bif (decide (x8 < a1)) then (app 8 x5 ([x8] : List Int)).bind fun x25 => some (LR.next (x25, (IntKind.i64.wrap (x8 + 1)))) else some (LR.done (x5)))
noncomputable def spec_l1Cur_taskOrder_l1 (a1 : Int) (x : ((List Int) × Int × (List Int) × Int × Int)) : Option (LR ((List Int) × Int × (List Int) × Int × Int) ((List Int) × (List Int) × Int × Int)) :=
  match x with
  | (x35, x36, x37, x38, x39) => ((bif (decide (0 < x36)) then some ((decide (1 < a1))) else some (false))).bind fun x54 => (bif x54 then (spec_l1Cur_pick (⟨x37, x38, x39⟩ : L1Cur) a1).bind fun (b63, b64) => (spec_l1Cur_pick b64 a1).bind fun (b67, b68) => (idx x35 b63).bind fun b70 => (idx x35 b67).bind fun b73 => (idx x35 b63).bind fun _b75 => (idx (x35.set b63.toNat b73) b67).bind fun _b77 => some (LR.next (((x35.set b63.toNat b73).set b67.toNat b70), (IntKind.i64.wrap (x36 - 1)), b68.Code, b68.At, b68.Seed)) else some (LR.done (x35, x37, x38, x39)))
noncomputable def spec_l1Cur_taskOrder (a0 : L1Cur) (a1 : Int) : Option (List Int × L1Cur) :=
  (whl (spec_l1Cur_taskOrder_l0 a1) ([], 0)).bind fun x9 => (spec_l1Cur_pick a0 6).bind fun (b33, b34) => (whl (spec_l1Cur_taskOrder_l1 a1) (x9, b33, b34.Code, b34.At, b34.Seed)).bind fun (x40, x41, x42, x43) => ((bif (decide (0 < a1)) then (spec_l1Cur_one (⟨x41, x42, x43⟩ : L1Cur) 20).bind fun (b92, b93) => some (b92, b93.Code, b93.At, b93.Seed) else some (false, x41, x42, x43))).bind fun (x83, x84, x85, x86) => ((bif x83 then (spec_l1Cur_pick (⟨x84, x85, x86⟩ : L1Cur) (IntKind.i64.wrap (a1 + 2))).bind fun (b103, b104) => (idx x40 0).bind fun _b105 => some ((x40.set (0 : Int).toNat (IntKind.i64.wrap (b103 - 1))), b104.Code, b104.At, b104.Seed) else some (x40, x84, x85, x86))).bind fun (x94, x95, x96, x97) => some (x94, (⟨x95, x96, x97⟩ : L1Cur))
noncomputable def spec_DrawLatenessOf (a0 : List Int) : Option (List Task × List Int) :=
  (spec_l1Cur_tasks (⟨a0, 0, 0⟩ : L1Cur)).bind fun (b7, b8) => (spec_l1Cur_taskOrder b8 (b7.length : Int)).bind fun (b13, _b14) => some (b7, b13)
noncomputable def slices_IndexFunc_impl_Task_l0 (a0 : List Task) (g1 : Task → Option Bool) (x : (Int)) : Option (LR (Int) (LR Unit (Int))) :=
  match x with
  | (x4) => (bif (decide (x4 < (a0.length : Int))) then (idx a0 x4).bind fun b19 => (g1 b19).bind fun b20 => (bif b20 then some (LR.done (LR.done x4)) else some (LR.next ((IntKind.i64.wrap (x4 + 1))))) else some (LR.done (LR.next ())))
noncomputable def slices_IndexFunc_impl_Task (a0 : List Task) (g1 : Task → Option Bool) : Option (Int) :=
  (whl (slices_IndexFunc_impl_Task_l0 a0 g1) (0)).bind fun y => match y with | LR.next () => some (-1) | LR.done z => some z
noncomputable def slices_ContainsFunc_impl_Task (a0 : List Task) (g1 : Task → Option Bool) : Option (Bool) :=
  (slices_IndexFunc_impl_Task a0 g1).bind fun b3 => some (decide (0 ≤ b3))
noncomputable def impl_GoodTasks_1 (a0 : Task) : Option (Bool) :=
  (impl_in a0.Need 1 20).bind fun b5 => (bif (!b5) then some true else (impl_in a0.End 0 200).bind fun b6 => some (!b6))
noncomputable def impl_GoodTasks (a0 : List Task) : Option (Bool) :=
  (bif (decide ((a0.length : Int) ≤ 10)) then (slices_ContainsFunc_impl_Task a0 impl_GoodTasks_1).bind fun b3 => some (!b3) else some false)
noncomputable def slices_Index_int_l0 (a0 : List Int) (a1 : Int) (x : (Int)) : Option (LR (Int) (LR Unit (Int))) :=
  match x with
  | (x4) => (bif (decide (x4 < (a0.length : Int))) then (idx a0 x4).bind fun b19 => (bif (a1 == b19) then some (LR.done (LR.done x4)) else some (LR.next ((IntKind.i64.wrap (x4 + 1))))) else some (LR.done (LR.next ())))
noncomputable def slices_Index_int (a0 : List Int) (a1 : Int) : Option (Int) :=
  (whl (slices_Index_int_l0 a0 a1) (0)).bind fun y => match y with | LR.next () => some (-1) | LR.done z => some z
noncomputable def slices_Contains_int (a0 : List Int) (a1 : Int) : Option (Bool) :=
  (slices_Index_int a0 a1).bind fun b3 => some (decide (0 ≤ b3))
noncomputable def impl_isOrder_l0 (a0 : List Int) (a1 : Int) (x : (Int)) : Option (LR (Int) (LR Unit (Bool))) :=
  match x with
  | (x4) => (bif (decide (x4 < a1)) then (slices_Contains_int a0 x4).bind fun b19 => (bif (!b19) then some (LR.done (LR.done false)) else some (LR.next ((IntKind.i64.wrap (x4 + 1))))) else some (LR.done (LR.next ())))
noncomputable def impl_isOrder (a0 : List Int) (a1 : Int) : Option (Bool) :=
  (whl (impl_isOrder_l0 a0 a1) (0)).bind fun y => match y with | LR.next () => some ((a0.length : Int) == a1) | LR.done z => some z
noncomputable def impl_completions_l0 (a0 : List Task) (a1 : List Int) (x : ((List Int) × Int × Int)) : Option (LR ((List Int) × Int × Int) ((List Int))) :=
  match x with
  | (x8, x9, x10) => (bif (decide (x10 < (a1.length : Int))) then (idx a1 x10).bind fun b25 => (idx a0 b25).bind fun b27 => (idx x8 b25).bind fun _b28 => some (LR.next ((x8.set b25.toNat (IntKind.i64.wrap (x9 + b27.Need))), (IntKind.i64.wrap (x9 + b27.Need)), (IntKind.i64.wrap (x10 + 1)))) else some (LR.done (x8)))
noncomputable def impl_completions (a0 : List Task) (a1 : List Int) : Option (List Int) :=
  (mkL 8 (a0.length : Int) (0 : Int)).bind fun x5 => (whl (impl_completions_l0 a0 a1) (x5, 0, 0)).bind fun x11 => some x11
noncomputable def impl_CompletionsOf (a0 : List Task) (a1 : List Int) : Option (List Int × Bool) :=
  ((impl_GoodTasks a0).bind fun b9 => (bif (!b9) then some (true) else (impl_isOrder a1 (a0.length : Int)).bind fun b10 => some ((!b10)))).bind fun x4 => (bif x4 then some ([], false) else (impl_completions a0 a1).bind fun b13 => some (b13, true))
noncomputable def impl_LatenessOf_l0 (a0 : List Task) (b4 : List Int) (x : (Int × Int)) : Option (LR (Int × Int) (Int)) :=
  match x with
  | (x22, x23) => (bif (decide (x23 < (a0.length : Int))) then (idx a0 x23).bind fun b38 => (idx b4 x23).bind fun b41 => some (LR.next ((if (IntKind.i64.wrap (b41 - b38.End)) > x22 then (IntKind.i64.wrap (b41 - b38.End)) else x22), (IntKind.i64.wrap (x23 + 1)))) else some (LR.done (x22)))
noncomputable def impl_LatenessOf (a0 : List Task) (a1 : List Int) : Option (Int × Bool) :=
  (impl_CompletionsOf a0 a1).bind fun (b4, b5) => ((bif (!b5) then some (true) else some (((a0.length : Int) == 0)))).bind fun x10 => (bif x10 then some (0, b5) else (idx b4 0).bind fun b17 => (idx a0 0).bind fun b19 => (whl (impl_LatenessOf_l0 a0 b4) ((IntKind.i64.wrap (b17 - b19.End)), 0)).bind fun x24 => some (x24, true))
noncomputable def spec_GoodTasks_l0 (a0 : List Task) (x : (Int)) : Option (LR (Int) (LR Unit (Bool))) :=
  match x with
  | (x4) => (bif (decide (x4 < (a0.length : Int))) then (idx a0 x4).bind fun b18 => ((spec_l1In b18.Need 1 20).bind fun b27 => (bif (!b27) then some (true) else (spec_l1In b18.End 0 200).bind fun b28 => some ((!b28)))).bind fun x22 => (bif x22 then some (LR.done (LR.done false)) else some (LR.next ((IntKind.i64.wrap (x4 + 1))))) else some (LR.done (LR.next ())))
noncomputable def spec_GoodTasks (a0 : List Task) : Option (Bool) :=
  (whl (spec_GoodTasks_l0 a0) (0)).bind fun y => match y with | LR.next () => some (decide ((a0.length : Int) ≤ 10)) | LR.done z => some z
noncomputable def spec_l1Has_l0 (a0 : List Int) (a1 : Int) (x : (Int)) : Option (LR (Int) (LR Unit (Bool))) :=
  match x with
  | (x4) => (bif (decide (x4 < (a0.length : Int))) then (idx a0 x4).bind fun b18 => (bif (b18 == a1) then some (LR.done (LR.done true)) else some (LR.next ((IntKind.i64.wrap (x4 + 1))))) else some (LR.done (LR.next ())))
noncomputable def spec_l1Has (a0 : List Int) (a1 : Int) : Option (Bool) :=
  (whl (spec_l1Has_l0 a0 a1) (0)).bind fun y => match y with | LR.next () => some false | LR.done z => some z
noncomputable def spec_l5Order_l0 (a0 : List Int) (a1 : Int) (x : (Int)) : Option (LR (Int) (LR Unit (Bool))) :=
  match x with
  | (x7) => (bif (decide (x7 < (a0.length : Int))) then (idx a0 x7).bind fun b21 => ((spec_l1In b21 0 (IntKind.i64.wrap (a1 - 1))).bind fun b28 => (bif (!b28) then some (true) else (slc a0 0 x7).bind fun x29 => (spec_l1Has x29 b21).bind fun b30 => some (b30))).bind fun x23 => (bif x23 then some (LR.done (LR.done false)) else some (LR.next ((IntKind.i64.wrap (x7 + 1))))) else some (LR.done (LR.next ())))
noncomputable def spec_l5Order (a0 : List Int) (a1 : Int) : Option (Bool) :=
  (bif ((a0.length : Int) != a1) then some false else (whl (spec_l5Order_l0 a0 a1) (0)).bind fun y => match y with | LR.next () => some true | LR.done z => some z)
noncomputable def spec_l5Both (a0 : List Task) (a1 : List Int) : Option (Bool) :=
  (spec_GoodTasks a0).bind fun b3 => (bif b3 then (spec_l5Order a1 (a0.length : Int)).bind fun b4 => some b4 else some false)
noncomputable def spec_l5Done_l0 (a0 : List Task) (a1 : List Int) (x : ((List Int) × Int × Int)) : Option (LR ((List Int) × Int × Int) ((List Int))) :=
  match x with
  | (x9, x10, x11) => (bif (decide (x11 < (a1.length : Int))) then (idx a1 x11).bind fun b26 => (idx a0 b26).bind fun b28 => (idx x9 b26).bind fun _b29 => some (LR.next ((x9.set b26.toNat (IntKind.i64.wrap (x10 + b28.Need))), (IntKind.i64.wrap (x10 + b28.Need)), (IntKind.i64.wrap (x11 + 1)))) else some (LR.done (x9)))
noncomputable def spec_l5Done (a0 : List Task) (a1 : List Int) : Option (List Int) :=
  (mkL 8 (a0.length : Int) (0 : Int)).bind fun x5 => (whl (spec_l5Done_l0 a0 a1) (x5, 0, 0)).bind fun x12 => some x12
noncomputable def spec_l1Most (a0 : Int) (a1 : Int) : Option (Int) :=
  (bif (decide (a1 < a0)) then some a0 else some a1)
noncomputable def spec_LatenessOf_l0 (a0 : List Task) (b10 : List Int) (x : (Int × Int)) : Option (LR (Int × Int) (Int)) :=
  match x with
  | (x19, x20) => (bif (decide (x20 < (a0.length : Int))) then (idx a0 x20).bind fun b35 => (idx b10 x20).bind fun b38 => (spec_l1Most x19 (IntKind.i64.wrap (b38 - b35.End))).bind fun b40 => some (LR.next (b40, (IntKind.i64.wrap (x20 + 1)))) else some (LR.done (x19)))
noncomputable def spec_LatenessOf (a0 : List Task) (a1 : List Int) : Option (Int × Bool) :=
  (spec_l5Both a0 a1).bind fun b4 => (bif (!b4) then some (0, false) else (bif ((a0.length : Int) == 0) then some (0, true) else (spec_l5Done a0 a1).bind fun b10 => (idx b10 0).bind fun b14 => (idx a0 0).bind fun b16 => (whl (spec_LatenessOf_l0 a0 b10) ((IntKind.i64.wrap (b14 - b16.End)), 0)).bind fun x21 => some (x21, true)))
noncomputable def impl_byEnd_1 (a0 : Int) (a1 : Int) (a2 : List Task) : Option (Int) :=
  (idx a2 a0).bind fun b3 => (idx a2 a1).bind fun b4 => some (IntKind.i64.wrap (b3.End - b4.End))
noncomputable def impl_byEnd_l0 (a0 : List Task) (x : ((List Int) × Int)) : Option (LR ((List Int) × Int) ((List Int))) :=
  match x with
  | (x7, x10) => (bif (decide (x10 < (a0.length : Int))) then (app 8 x7 ([x10] : List Int)).bind fun x28 => some (LR.next (x28, (IntKind.i64.wrap (x10 + 1)))) else some (LR.done (x7)))
noncomputable def impl_byEnd (a0 : List Task) : Option (List Int) :=
  (whl (impl_byEnd_l0 a0) ([], 0)).bind fun x11 => (slices_SortStableFunc_int x11 (fun y0 y1 => impl_byEnd_1 y0 y1 a0)).bind fun b34 => some b34
noncomputable def impl_ByEnd (a0 : List Task) : Option (List Int × Bool) :=
  (impl_GoodTasks a0).bind fun b4 => (bif (!b4) then some ([], false) else (impl_byEnd a0).bind fun b7 => some (b7, true))
noncomputable def spec_l5ByEnd_l0 (a0 : List Task) (x5 : List Int) (b24 : Task) (x : (Int)) : Option (LR (Int) (Int)) :=
  match x with
  | (x29) => ((bif (decide (x29 < (x5.length : Int))) then (idx x5 x29).bind fun b46 => (idx a0 b46).bind fun b48 => some ((decide (b48.End ≤ b24.End))) else some (false))).bind fun x41 => (bif x41 then some (LR.next ((IntKind.i64.wrap (x29 + 1)))) else some (LR.done (x29)))
noncomputable def spec_l5ByEnd_l1 (a0 : List Task) (x : ((List Int) × Int)) : Option (LR ((List Int) × Int) ((List Int))) :=
  match x with
  | (x5, x8) => (bif (decide (x8 < (a0.length : Int))) then (idx a0 x8).bind fun b24 => (whl (spec_l5ByEnd_l0 a0 x5 b24) (0)).bind fun x30 => (slc x5 0 x30).bind fun x53 => (app 8 ([] : List Int) x53).bind fun x56 => (app 8 x56 ([x8] : List Int)).bind fun x62 => (slc x5 x30 (x5.length : Int)).bind fun x65 => (app 8 x62 x65).bind fun x68 => some (LR.next (x68, (IntKind.i64.wrap (x8 + 1)))) else some (LR.done (x5)))
noncomputable def spec_l5ByEnd (a0 : List Task) : Option (List Int) :=
  (whl (spec_l5ByEnd_l1 a0) ([], 0)).bind fun x9 => some x9
noncomputable def spec_ByEnd (a0 : List Task) : Option (List Int × Bool) :=
  (spec_GoodTasks a0).bind fun b4 => (bif (!b4) then some ([], false) else (spec_l5ByEnd a0).bind fun b7 => some (b7, true))
noncomputable def spec_DrawCompletionsOf (a0 : List Int) : Option (List Task × List Int) :=
  (spec_DrawLatenessOf a0).bind fun (b4, b5) => some (b4, b5)
noncomputable def spec_CompletionsOf (a0 : List Task) (a1 : List Int) : Option (List Int × Bool) :=
  (spec_l5Both a0 a1).bind fun b4 => (bif (!b4) then some ([], false) else (spec_l5Done a0 a1).bind fun b7 => some (b7, true))
noncomputable def laws_FnLateness_l0 (b7 : List Task) (b23 : List Int) (x : (Int)) : Option (LR (Int) (LR Unit (LR Unit (Bool)))) :=
  match x with
  | (x65) => (bif (decide (x65 < (b23.length : Int))) then (idx b23 (IntKind.i64.wrap (x65 - 1))).bind fun b79 => (idx b7 b79).bind fun b81 => (idx b23 x65).bind fun b83 => (idx b7 b83).bind fun b85 => (bif (decide (b85.End < b81.End)) then some (LR.done (LR.done (LR.done false))) else some (LR.next ((IntKind.i64.wrap (x65 + 1))))) else some (LR.done (LR.next ())))
noncomputable def laws_FnLateness_l1 (b98 : List Task) (x : (Int × Int)) : Option (LR (Int × Int) (Int)) :=
  match x with
  | (x137, x138) => (bif (decide (x138 < (b98.length : Int))) then (idx b98 x138).bind fun b153 => some (LR.next ((IntKind.i64.wrap (x137 + b153.Need)), (IntKind.i64.wrap (x138 + 1)))) else some (LR.done (x137)))
noncomputable def laws_FnLateness (a0 : List Int) (a1 : List Int) : Option (Bool) :=
  (bif (decide (1048576 < (IntKind.i64.wrap ((a0.length : Int) + (a1.length : Int))))) then some true else (spec_DrawLatenessOf a0).bind fun (b7, b8) => (impl_LatenessOf b7 b8).bind fun (b15, b16) => (spec_LatenessOf b7 b8).bind fun (b19, b20) => (impl_ByEnd b7).bind fun (b23, b24) => (spec_ByEnd b7).bind fun (b30, b31) => ((bif (!(b16 == b20)) then some (true) else (bif (b15 != b19) then some (true) else (bif (!(b24 == b31)) then some (true) else (laws_sameInts b23 b30).bind fun b42 => some ((!b42)))))).bind fun x37 => (bif x37 then some false else ((bif b24 then (impl_LatenessOf b7 b23).bind fun (b52, b53) => ((bif (!b53) then some (true) else (bif b16 then some ((decide (b15 < b52))) else some (false)))).bind fun x56 => (bif x56 then some (LR.done false) else (whl (laws_FnLateness_l0 b7 b23) (1)).bind fun y => match y with | LR.next () => some (LR.next ()) | LR.done z => some z) else some (LR.next ()))).bind fun y => match y with | LR.next () => (spec_DrawCompletionsOf a1).bind fun (b98, b99) => (impl_CompletionsOf b98 b99).bind fun (b106, b107) => (spec_CompletionsOf b98 b99).bind fun (b113, b114) => ((bif (!(b107 == b114)) then some (true) else (laws_sameInts b106 b113).bind fun b125 => some ((!b125)))).bind fun x120 => (bif x120 then some false else ((bif b107 then some ((decide (0 < (b99.length : Int)))) else some (false))).bind fun x129 => (bif x129 then (whl (laws_FnLateness_l1 b98) (0, 0)).bind fun x139 => (idx b99 (IntKind.i64.wrap ((b99.length : Int) - 1))).bind fun b160 => (idx b106 b160).bind fun b162 => some (b162 == x139) else some true)) | LR.done z => some z))
noncomputable def spec_l1Cur_ends_l0 (x : ((List Int) × Int × (List Int) × Int × Int)) : Option (LR ((List Int) × Int × (List Int) × Int × Int) ((List Int) × (List Int) × Int × Int)) :=
  match x with
  | (x8, x11, x12, x13, x14) => (bif (decide (0 < x11)) then (spec_l1Cur_pick (⟨x12, x13, x14⟩ : L1Cur) 8).bind fun (b33, b34) => (app 8 x8 ([b33] : List Int)).bind fun x37 => some (LR.next (x37, (IntKind.i64.wrap (x11 - 1)), b34.Code, b34.At, b34.Seed)) else some (LR.done (x8, x12, x13, x14)))
noncomputable def spec_l1Cur_ends (a0 : L1Cur) : Option (List Int × L1Cur) :=
  (spec_l1Cur_pick a0 6).bind fun (b6, b7) => (whl (spec_l1Cur_ends_l0) ([], b6, b7.Code, b7.At, b7.Seed)).bind fun (x15, x17, x18, x19) => ((bif (decide (0 < (x15.length : Int))) then (spec_l1Cur_one (⟨x17, x18, x19⟩ : L1Cur) 30).bind fun (b53, b54) => some (b53, b54.Code, b54.At, b54.Seed) else some (false, x17, x18, x19))).bind fun (x44, x45, x46, x47) => ((bif x44 then (spec_l1Cur_among (⟨x45, x46, x47⟩ : L1Cur) ([-1, 100, 101] : List Int)).bind fun (b66, b67) => (idx x15 0).bind fun _b68 => some ((x15.set (0 : Int).toNat b66), b67.Code, b67.At, b67.Seed) else some (x15, x45, x46, x47))).bind fun (x55, x56, x57, x58) => some (x55, (⟨x56, x57, x58⟩ : L1Cur))
noncomputable def spec_l1Cur_courtSteps_l0 (x : ((List CourtStep) × Int × (List Int) × Int × Int)) : Option (LR ((List CourtStep) × Int × (List Int) × Int × Int) ((List CourtStep) × (List Int) × Int × Int)) :=
  match x with
  | (x24, x27, x28, x29, x30) => (bif (decide (0 < x27)) then (spec_l1Cur_among (⟨x28, x29, x30⟩ : L1Cur) ([1, 1, 1, 2, 3, 3, 3, 3, 4, 5, 6] : List Int)).bind fun (b52, b53) => ((bif (b52 != 6) then (spec_l1Cur_pick b53 4).bind fun (b67, b68) => some (b68.Code, b68.At, b68.Seed, b67) else some (b53.Code, b53.At, b53.Seed, 0))).bind fun (x58, x59, x60, x61) => (app 16 x24 ([(⟨b52, x61⟩ : CourtStep)] : List CourtStep)).bind fun x71 => some (LR.next (x71, (IntKind.i64.wrap (x27 - 1)), x58, x59, x60)) else some (LR.done (x24, x28, x29, x30)))
noncomputable def spec_l1Cur_courtSteps (a0 : L1Cur) : Option (List CourtStep × L1Cur) :=
  (spec_l1Cur_pick a0 40).bind fun (b5, b6) => (spec_l1Cur_one b6 12).bind fun (b10, b11) => ((bif b10 then (spec_l1Cur_pick b11 3).bind fun (b21, b22) => some ((IntKind.i64.wrap (119 + b21)), b22.Code, b22.At, b22.Seed) else some (b5, b11.Code, b11.At, b11.Seed))).bind fun (x12, x13, x14, x15) => (whl (spec_l1Cur_courtSteps_l0) ([], x12, x13, x14, x15)).bind fun (x31, x33, x34, x35) => ((bif (decide (0 < (x31.length : Int))) then (spec_l1Cur_one (⟨x33, x34, x35⟩ : L1Cur) 20).bind fun (b87, b88) => some (b87, b88.Code, b88.At, b88.Seed) else some (false, x33, x34, x35))).bind fun (x78, x79, x80, x81) => ((bif x78 then (spec_l1Cur_pick (⟨x79, x80, x81⟩ : L1Cur) 8).bind fun (b98, b99) => (spec_l1Cur_pick b99 4).bind fun (b101, b102) => (idx x31 0).bind fun _b103 => some ((x31.set (0 : Int).toNat (⟨b98, (IntKind.i64.wrap (b101 - 1))⟩ : CourtStep)), b102.Code, b102.At, b102.Seed) else some (x31, x79, x80, x81))).bind fun (x89, x90, x91, x92) => some (x89, (⟨x90, x91, x92⟩ : L1Cur))
noncomputable def spec_DrawPlayCourt (a0 : List Int) : Option (List Int × List CourtStep) :=
  (spec_l1Cur_ends (⟨a0, 0, 0⟩ : L1Cur)).bind fun (b7, b8) => (spec_l1Cur_courtSteps b8).bind fun (b12, _b13) => some (b7, b12)
noncomputable def impl_isVerdict (a0 : Int) : Option (Bool) :=
  (bif (a0 == 1) then some true else some (a0 == 2))
noncomputable def impl_Court_isSlip (a0 : Court) (a1 : Slip) : Option (Bool) :=
  (impl_in a1.Case 0 (IntKind.i64.wrap ((a0.Cases.length : Int) - 1))).bind fun b6 => (bif (!b6) then some false else (bif (a1.Kind == 3) then (impl_isVerdict a1.What).bind fun b11 => (bif b11 then (idx a0.Cases a1.Case).bind fun b12 => some (a1.What == b12.Said) else some false) else (bif (a1.Kind == 1) then some (a1.What == 0) else (bif (a1.Kind == 2) then some (a1.What == 0) else some false))))
noncomputable def impl_GoodCourt_1 (a0 : Slip) (a1 : Court) : Option (Bool) :=
  (impl_Court_isSlip a1 a0).bind fun b5 => some (!b5)
noncomputable def slices_IndexFunc_impl_Slip_l0 (a0 : List Slip) (g1 : Slip → Option Bool) (x : (Int)) : Option (LR (Int) (LR Unit (Int))) :=
  match x with
  | (x4) => (bif (decide (x4 < (a0.length : Int))) then (idx a0 x4).bind fun b19 => (g1 b19).bind fun b20 => (bif b20 then some (LR.done (LR.done x4)) else some (LR.next ((IntKind.i64.wrap (x4 + 1))))) else some (LR.done (LR.next ())))
noncomputable def slices_IndexFunc_impl_Slip (a0 : List Slip) (g1 : Slip → Option Bool) : Option (Int) :=
  (whl (slices_IndexFunc_impl_Slip_l0 a0 g1) (0)).bind fun y => match y with | LR.next () => some (-1) | LR.done z => some z
noncomputable def slices_ContainsFunc_impl_Slip (a0 : List Slip) (g1 : Slip → Option Bool) : Option (Bool) :=
  (slices_IndexFunc_impl_Slip a0 g1).bind fun b3 => some (decide (0 ≤ b3))
noncomputable def impl_GoodCourt_l0 (a0 : Court) (x : (Int)) : Option (LR (Int) (LR Unit (Bool))) :=
  match x with
  | (x15) => (bif (decide (x15 < (a0.Cases.length : Int))) then (idx a0.Cases x15).bind fun b29 => ((impl_in b29.End 0 100).bind fun b38 => (bif (!b38) then some (true) else (impl_in b29.Said 0 2).bind fun b39 => (bif (!b39) then some (true) else (bif (b29.Final != 0) then (bif (b29.Final != b29.Said) then some (true) else (bif (b29.Said == 0) then some ((decide (b29.End < a0.Now))) else some (false))) else (bif (b29.Said == 0) then some ((decide (b29.End < a0.Now))) else some (false)))))).bind fun x33 => (bif x33 then some (LR.done (LR.done false)) else some (LR.next ((IntKind.i64.wrap (x15 + 1))))) else some (LR.done (LR.next ())))
noncomputable def impl_GoodCourt (a0 : Court) : Option (Bool) :=
  ((impl_in a0.Now 0 200).bind fun b11 => (bif (!b11) then some (true) else (bif (decide (6 < (a0.Cases.length : Int))) then some (true) else some ((decide (30 < (a0.Line.length : Int))))))).bind fun x6 => (bif x6 then some false else (whl (impl_GoodCourt_l0 a0) (0)).bind fun y => match y with | LR.next () => (slices_ContainsFunc_impl_Slip a0.Line (fun y0 => impl_GoodCourt_1 y0 a0)).bind fun b48 => some (!b48) | LR.done z => some z)
noncomputable def impl_NewCourt_l0 (a0 : List Int) (x : (Int × (List Case))) : Option (LR (Int × (List Case)) ((List Case))) :=
  match x with
  | (x9, x10) => (bif (decide (x9 < (a0.length : Int))) then (idx a0 x9).bind fun b28 => (app 32 x10 ([(⟨b28, false, 0, 0⟩ : Case)] : List Case)).bind fun x31 => some (LR.next ((IntKind.i64.wrap (x9 + 1)), x31)) else some (LR.done (x10)))
noncomputable def impl_NewCourt (a0 : List Int) : Option (Court × Bool) :=
  (whl (impl_NewCourt_l0 a0) (0, [])).bind fun x13 => (impl_GoodCourt (⟨0, x13, []⟩ : Court)).bind fun b38 => (bif (!b38) then some ((⟨0, [], []⟩ : Court), false) else some ((⟨0, x13, []⟩ : Court), true))
noncomputable def impl_Court_goes (a0 : Court) (a1 : Slip) : Option (Court) :=
  (bif (decide ((a0.Line.length : Int) < 30)) then (app 24 a0.Line ([a1] : List Slip)).bind fun x7 => some (⟨a0.Now, a0.Cases, x7⟩ : Court) else some a0)
noncomputable def slices_Delete_impl_Slip (a0 : List Slip) (a1 : Int) (a2 : Int) : Option (List Slip) :=
  (slc a0 a1 a2).bind fun _x3 => (bif (a1 == a2) then some a0 else (slc a0 0 a1).bind fun x10 => (slc a0 a2 (a0.length : Int)).bind fun x12 => (app 24 x10 x12).bind fun x14 => some x14)
noncomputable def impl_Court_take (a0 : Court) (a1 : Slip) : Option (Court) :=
  (idx a0.Cases a1.Case).bind fun b5 => (bif (a1.Kind == 3) then some (⟨a0.Now, (a0.Cases.set a1.Case.toNat (⟨b5.End, b5.Asks, a1.What, b5.Said⟩ : Case)), a0.Line⟩ : Court) else ((bif (b5.Said == 0) then ((bif (a1.Kind == 2) then (idx (a0.Cases.set a1.Case.toNat (⟨b5.End, b5.Asks, b5.Final, 1⟩ : Case)) a1.Case).bind fun b25 => some (((a0.Cases.set a1.Case.toNat (⟨b5.End, b5.Asks, b5.Final, 1⟩ : Case)).set a1.Case.toNat (⟨b25.End, b25.Asks, b25.Final, 2⟩ : Case))) else some ((a0.Cases.set a1.Case.toNat (⟨b5.End, b5.Asks, b5.Final, 1⟩ : Case))))).bind fun x19 => some (x19) else some (a0.Cases))).bind fun x12 => (idx x12 a1.Case).bind fun b27 => (impl_Court_goes (⟨a0.Now, x12, a0.Line⟩ : Court) (⟨3, a1.Case, b27.Said⟩ : Slip)).bind fun b28 => some b28)
noncomputable def impl_Court_tick_l0 (a0 : Court) (x : ((List Case) × Int)) : Option (LR ((List Case) × Int) ((List Case))) :=
  match x with
  | (x3, x4) => (bif (decide (x4 < (a0.Cases.length : Int))) then ((idx x3 x4).bind fun b23 => ((bif (b23.Said == 0) then some ((decide (b23.End < (IntKind.i64.wrap (a0.Now + 1))))) else some (false))).bind fun x28 => ((bif x28 then (idx x3 x4).bind fun b38 => some ((x3.set x4.toNat (⟨b38.End, b38.Asks, b38.Final, 2⟩ : Case))) else some (x3))).bind fun x33 => some (x33)).bind fun x18 => some (LR.next (x18, (IntKind.i64.wrap (x4 + 1)))) else some (LR.done (x3)))
noncomputable def impl_Court_tick (a0 : Court) : Option (Court) :=
  (whl (impl_Court_tick_l0 a0) (a0.Cases, 0)).bind fun x5 => some (⟨(IntKind.i64.wrap (a0.Now + 1)), x5, a0.Line⟩ : Court)
noncomputable def impl_Court_step (a0 : Court) (a1 : CourtStep) : Option (Bool × Court) :=
  (((bif (a1.Kind == 1) then some ((a1.Kind == 1)) else some ((a1.Kind == 2)))).bind fun x12 => ((bif x12 then ((impl_in a1.K 0 (IntKind.i64.wrap ((a0.Cases.length : Int) - 1))).bind fun b27 => (bif (!b27) then some (true) else (idx a0.Cases a1.K).bind fun b28 => some ((b28.Final != 0)))).bind fun x22 => (bif x22 then some (LR.done (LR.done (false, a0))) else some (LR.next ())) else ((bif (a1.Kind == 3) then some ((a1.Kind == 3)) else ((bif (a1.Kind == 4) then some ((a1.Kind == 4)) else some ((a1.Kind == 5)))).bind fun x43 => some (x43))).bind fun x37 => ((bif x37 then (impl_in a1.K 0 (IntKind.i64.wrap ((a0.Line.length : Int) - 1))).bind fun b53 => (bif (!b53) then some (LR.done (LR.done (LR.done (false, a0)))) else some (LR.next ())) else some (LR.next ()))).bind fun y => match y with | LR.next () => some (LR.next ()) | LR.done z => some z)).bind fun y => match y with | LR.next () => some (LR.next ()) | LR.done z => some z).bind fun y => match y with | LR.next () => ((((bif (a1.Kind == 1) then (idx a0.Cases a1.K).bind fun b86 => ((bif b86.Asks then some (2) else some (1))).bind fun x88 => (impl_Court_goes a0 (⟨x88, a1.K, 0⟩ : Slip)).bind fun b93 => some (LR.next (b93.Now, b93.Cases, b93.Line)) else ((bif (a1.Kind == 2) then (idx a0.Cases a1.K).bind fun b109 => (bif b109.Asks then some (LR.done (LR.done (LR.done (false, a0)))) else (idx a0.Cases a1.K).bind fun b118 => some (LR.next (a0.Now, (a0.Cases.set a1.K.toNat (⟨b118.End, true, b118.Final, b118.Said⟩ : Case)), a0.Line))) else ((bif (a1.Kind == 3) then some ((a1.Kind == 3)) else some ((a1.Kind == 4)))).bind fun x122 => ((bif x122 then (idx a0.Line a1.K).bind fun b138 => (slices_Delete_impl_Slip a0.Line a1.K (IntKind.i64.wrap (a1.K + 1))).bind fun b143 => ((bif (a1.Kind == 3) then (impl_Court_take (⟨a0.Now, a0.Cases, b143⟩ : Court) b138).bind fun b156 => some (b156.Now, b156.Cases, b156.Line) else some (a0.Now, a0.Cases, b143))).bind fun (x147, x148, x150) => some (LR.next (x147, x148, x150)) else ((bif (a1.Kind == 5) then (bif ((a0.Line.length : Int) == 30) then some (LR.done (LR.done (LR.done (LR.done (LR.done (false, a0)))))) else (idx a0.Line a1.K).bind fun b183 => (app 24 a0.Line ([b183] : List Slip)).bind fun x187 => some (LR.next (a0.Now, a0.Cases, x187))) else (bif (a1.Kind == 6) then ((bif (a1.K != 0) then some (true) else some ((a0.Now == 200)))).bind fun x193 => (bif x193 then some (LR.done (LR.done (LR.done (LR.done (LR.done (false, a0)))))) else (impl_Court_tick a0).bind fun b209 => some (LR.next (b209.Now, b209.Cases, b209.Line))) else some (LR.done (LR.done (LR.done (LR.done (LR.done (false, a0))))))))).bind fun y => match y with | LR.next (x160, x161, x163) => some (LR.next (x160, x161, x163)) | LR.done z => some z)).bind fun y => match y with | LR.next (x127, x128, x130) => some (LR.next (x127, x128, x130)) | LR.done z => some z)).bind fun y => match y with | LR.next (x97, x98, x100) => some (LR.next (x97, x98, x100)) | LR.done z => some z)).bind fun y => match y with | LR.next (x73, x74, x76) => some (LR.next (x73, x74, x76)) | LR.done z => some z).bind fun y => match y with | LR.next (x64, x65, x67) => some (true, (⟨x64, x65, x67⟩ : Court)) | LR.done z => some z) | LR.done z => some z
noncomputable def impl_PlayCourt_l0 (a1 : List CourtStep) (x : ((List Bool) × Int × Int × (List Case) × (List Slip))) : Option (LR ((List Bool) × Int × Int × (List Case) × (List Slip)) ((List Bool) × Int × (List Case) × (List Slip))) :=
  match x with
  | (x25, x28, x29, x30, x32) => (bif (decide (x28 < (a1.length : Int))) then (idx a1 x28).bind fun b54 => (impl_Court_step (⟨x29, x30, x32⟩ : Court) b54).bind fun (b58, b59) => (app 1 x25 ([b58] : List Bool)).bind fun x64 => some (LR.next (x64, (IntKind.i64.wrap (x28 + 1)), b59.Now, b59.Cases, b59.Line)) else some (LR.done (x25, x29, x30, x32)))
noncomputable def impl_PlayCourt (a0 : List Int) (a1 : List CourtStep) : Option (Court × List Bool × Bool) :=
  (impl_NewCourt a0).bind fun (b6, b7) => ((bif (!b7) then some (true) else some ((decide (120 < (a1.length : Int)))))).bind fun x16 => (bif x16 then some ((⟨0, [], []⟩ : Court), [], false) else (whl (impl_PlayCourt_l0 a1) ([], 0, b6.Now, b6.Cases, b6.Line)).bind fun (x34, x36, x37, x39) => some ((⟨x36, x37, x39⟩ : Court), x34, true))
noncomputable def spec_NewCourt_l0 (a0 : List Int) (x : (Int × (List Case))) : Option (LR (Int × (List Case)) ((List Case))) :=
  match x with
  | (x18, x19) => (bif (decide (x18 < (a0.length : Int))) then (idx a0 x18).bind fun b37 => (app 32 x19 ([(⟨b37, false, 0, 0⟩ : Case)] : List Case)).bind fun x40 => some (LR.next ((IntKind.i64.wrap (x18 + 1)), x40)) else some (LR.done (x19)))
noncomputable def spec_NewCourt (a0 : List Int) : Option (Court × Bool) :=
  ((bif (decide (6 < (a0.length : Int))) then some (true) else (spec_l1All a0 0 100).bind fun b11 => some ((!b11)))).bind fun x6 => (bif x6 then some ((⟨0, [], []⟩ : Court), false) else (whl (spec_NewCourt_l0 a0) (0, [])).bind fun x22 => some ((⟨0, x22, []⟩ : Court), true))
noncomputable def spec_l16Own (a0 : Court) : Option (Court) :=
  (app 32 ([] : List Case) a0.Cases).bind fun x8 => (app 24 ([] : List Slip) a0.Line).bind fun x13 => some (⟨a0.Now, x8, x13⟩ : Court)
noncomputable def spec_l16Write (a0 : Court) (a1 : Slip) : Option (Court) :=
  ((bif (decide ((a0.Line.length : Int) < 30)) then (app 24 a0.Line ([a1] : List Slip)).bind fun x19 => some (x19) else some (a0.Line))).bind fun x10 => some (⟨a0.Now, a0.Cases, x10⟩ : Court)
noncomputable def spec_l16Take (a0 : Court) (a1 : Slip) : Option (Court) :=
  (bif (a1.Kind == 3) then (idx a0.Cases a1.Case).bind fun b11 => some (⟨a0.Now, (a0.Cases.set a1.Case.toNat (⟨b11.End, b11.Asks, a1.What, b11.Said⟩ : Case)), a0.Line⟩ : Court) else (idx a0.Cases a1.Case).bind fun b16 => ((bif (b16.Said == 0) then ((bif (a1.Kind == 2) then some (2) else some (1))).bind fun x26 => (idx a0.Cases a1.Case).bind fun b31 => some ((a0.Cases.set a1.Case.toNat (⟨b31.End, b31.Asks, b31.Final, x26⟩ : Case))) else some (a0.Cases))).bind fun x18 => (idx x18 a1.Case).bind fun b34 => (spec_l16Write (⟨a0.Now, x18, a0.Line⟩ : Court) (⟨3, a1.Case, b34.Said⟩ : Slip)).bind fun b36 => some b36)
noncomputable def spec_l16Step_l0 (a0 : Court) (x : ((List Case) × Int)) : Option (LR ((List Case) × Int) ((List Case))) :=
  match x with
  | (x23, x24) => (bif (decide (x24 < (a0.Cases.length : Int))) then ((idx x23 x24).bind fun b43 => ((bif (b43.Said == 0) then some ((decide (b43.End < (IntKind.i64.wrap (a0.Now + 1))))) else some (false))).bind fun x48 => ((bif x48 then (idx x23 x24).bind fun b58 => some ((x23.set x24.toNat (⟨b58.End, b58.Asks, b58.Final, 2⟩ : Case))) else some (x23))).bind fun x53 => some (x53)).bind fun x38 => some (LR.next (x38, (IntKind.i64.wrap (x24 + 1)))) else some (LR.done (x23)))
noncomputable def spec_l16Step (a0 : Court) (a1 : CourtStep) : Option (Court × Bool) :=
  (bif (a1.Kind == 6) then ((bif (a1.K != 0) then some (true) else some ((a0.Now == 200)))).bind fun x14 => (bif x14 then some (a0, false) else (whl (spec_l16Step_l0 a0) (a0.Cases, 0)).bind fun x25 => some ((⟨(IntKind.i64.wrap (a0.Now + 1)), x25, a0.Line⟩ : Court), true)) else ((bif (a1.Kind == 1) then some ((a1.Kind == 1)) else some ((a1.Kind == 2)))).bind fun x65 => (bif x65 then ((bif (decide (a1.K < 0)) then some (true) else (bif (decide ((a0.Cases.length : Int) ≤ a1.K)) then some (true) else (idx a0.Cases a1.K).bind fun b78 => (bif (b78.Final != 0) then some (true) else (bif (a1.Kind == 2) then (idx a0.Cases a1.K).bind fun b80 => some (b80.Asks) else some (false)))))).bind fun x73 => (bif x73 then some (a0, false) else (bif (a1.Kind == 2) then (idx a0.Cases a1.K).bind fun b86 => some ((⟨a0.Now, (a0.Cases.set a1.K.toNat (⟨b86.End, true, b86.Final, b86.Said⟩ : Case)), a0.Line⟩ : Court), true) else (idx a0.Cases a1.K).bind fun b92 => ((bif b92.Asks then some (2) else some (1))).bind fun x94 => (spec_l16Write a0 (⟨x94, a1.K, 0⟩ : Slip)).bind fun b100 => some (b100, true))) else ((bif (decide (a1.K < 0)) then some (true) else (bif (decide ((a0.Line.length : Int) ≤ a1.K)) then some (true) else (spec_l1In a1.Kind 3 5).bind fun b112 => some ((!b112))))).bind fun x107 => (bif x107 then some (a0, false) else (idx a0.Line a1.K).bind fun b115 => (bif (a1.Kind == 5) then (bif ((a0.Line.length : Int) == 30) then some (a0, false) else (spec_l16Write a0 b115).bind fun b125 => some (b125, true)) else (slc a0.Line 0 a1.K).bind fun x131 => (app 24 ([] : List Slip) x131).bind fun x134 => (slc a0.Line (IntKind.i64.wrap (a1.K + 1)) (a0.Line.length : Int)).bind fun x138 => (app 24 x134 x138).bind fun x141 => (bif (a1.Kind == 3) then (spec_l16Take (⟨a0.Now, a0.Cases, x141⟩ : Court) b115).bind fun b147 => some (b147, true) else some ((⟨a0.Now, a0.Cases, x141⟩ : Court), true))))))
noncomputable def spec_PlayCourt_l0 (a1 : List CourtStep) (x : ((List Bool) × Int × Int × (List Case) × (List Slip))) : Option (LR ((List Bool) × Int × Int × (List Case) × (List Slip)) ((List Bool) × Int × (List Case) × (List Slip))) :=
  match x with
  | (x25, x28, x29, x30, x33) => (bif (decide (x28 < (a1.length : Int))) then (idx a1 x28).bind fun b56 => (spec_l16Own (⟨x29, x30, x33⟩ : Court)).bind fun b60 => (spec_l16Step b60 b56).bind fun (b68, b69) => ((bif b69 then some (b68.Now, b68.Cases, b68.Line) else some (x29, x30, x33))).bind fun (x78, x79, x82) => (app 1 x25 ([b69] : List Bool)).bind fun x91 => some (LR.next (x91, (IntKind.i64.wrap (x28 + 1)), x78, x79, x82)) else some (LR.done (x25, x29, x30, x33)))
noncomputable def spec_PlayCourt (a0 : List Int) (a1 : List CourtStep) : Option (Court × List Bool × Bool) :=
  (spec_NewCourt a0).bind fun (b6, b7) => ((bif (!b7) then some (true) else some ((decide (120 < (a1.length : Int)))))).bind fun x16 => (bif x16 then some ((⟨0, [], []⟩ : Court), [], false) else (whl (spec_PlayCourt_l0 a1) ([], 0, b6.Now, b6.Cases, b6.Line)).bind fun (x36, x38, x39, x41) => (spec_l16Own (⟨x38, x39, x41⟩ : Court)).bind fun b97 => some (b97, x36, true))
noncomputable def laws_sameBools_l0 (a0 : List Bool) (a1 : List Bool) (x : (Int)) : Option (LR (Int) (LR Unit (Bool))) :=
  match x with
  | (x7) => (bif (decide (x7 < (a0.length : Int))) then (idx a0 x7).bind fun b22 => (idx a1 x7).bind fun b23 => (bif (!(b22 == b23)) then some (LR.done (LR.done false)) else some (LR.next ((IntKind.i64.wrap (x7 + 1))))) else some (LR.done (LR.next ())))
noncomputable def laws_sameBools (a0 : List Bool) (a1 : List Bool) : Option (Bool) :=
  (bif ((a0.length : Int) != (a1.length : Int)) then some false else (whl (laws_sameBools_l0 a0 a1) (0)).bind fun y => match y with | LR.next () => some true | LR.done z => some z)
noncomputable def laws_sameCourts_l0 (a0 : Court) (a1 : Court) (x : (Int)) : Option (LR (Int) (LR Unit (Bool))) :=
  match x with
  | (x16) => (bif (decide (x16 < (a0.Cases.length : Int))) then (idx a0.Cases x16).bind fun b31 => (idx a1.Cases x16).bind fun b32 => (bif (!((b31.End == b32.End) && ((b31.Asks == b32.Asks) && ((b31.Final == b32.Final) && ((b31.Said == b32.Said) && true))))) then some (LR.done (LR.done false)) else some (LR.next ((IntKind.i64.wrap (x16 + 1))))) else some (LR.done (LR.next ())))
noncomputable def laws_sameCourts_l1 (a0 : Court) (a1 : Court) (x : (Int)) : Option (LR (Int) (LR Unit (Bool))) :=
  match x with
  | (x42) => (bif (decide (x42 < (a0.Line.length : Int))) then (idx a0.Line x42).bind fun b57 => (idx a1.Line x42).bind fun b58 => (bif (!((b57.Kind == b58.Kind) && ((b57.Case == b58.Case) && ((b57.What == b58.What) && true)))) then some (LR.done (LR.done false)) else some (LR.next ((IntKind.i64.wrap (x42 + 1))))) else some (LR.done (LR.next ())))
noncomputable def laws_sameCourts (a0 : Court) (a1 : Court) : Option (Bool) :=
  ((bif (a0.Now != a1.Now) then some (true) else (bif ((a0.Cases.length : Int) != (a1.Cases.length : Int)) then some (true) else some (((a0.Line.length : Int) != (a1.Line.length : Int)))))).bind fun x8 => (bif x8 then some false else (whl (laws_sameCourts_l0 a0 a1) (0)).bind fun y => match y with | LR.next () => ((whl (laws_sameCourts_l1 a0 a1) (0)).bind fun y => match y with | LR.next () => some true | LR.done z => some z) | LR.done z => some z)
noncomputable def impl_AgreesIn (a0 : Court) : Option (Bool × Bool) :=
  (impl_GoodCourt a0).bind fun b6 => (bif (!b6) then some (false, false) else some (true, true))
noncomputable def laws_numberOf_l0 (a0 : List Int) (x : (Int × Int)) : Option (LR (Int × Int) (Int)) :=
  match x with
  | (x5, x6) => (bif (decide (x6 < (a0.length : Int))) then (idx a0 x6).bind fun b21 => some (LR.next ((Int.tmod (IntKind.i64.wrap ((IntKind.i64.wrap (31 * x5)) + (IntKind.i64.wrap b21))) 1000003), (IntKind.i64.wrap (x6 + 1)))) else some (LR.done (x5)))
noncomputable def laws_numberOf (a0 : List Int) : Option (Int) :=
  (whl (laws_numberOf_l0 a0) (0, 0)).bind fun x7 => some x7
noncomputable def slices_Clone_impl_Case (a0 : List Case) : Option (List Case) :=
  app 32 [] a0
noncomputable def slices_Clone_impl_Slip (a0 : List Slip) : Option (List Slip) :=
  app 24 [] a0
noncomputable def impl_Court_copied (a0 : Court) : Option (Court) :=
  (slices_Clone_impl_Case a0.Cases).bind fun b7 => (slices_Clone_impl_Slip a0.Line).bind fun b11 => some (⟨a0.Now, b7, b11⟩ : Court)
noncomputable def slices_IndexFunc_impl_Case_l0 (a0 : List Case) (g1 : Case → Option Bool) (x : (Int)) : Option (LR (Int) (LR Unit (Int))) :=
  match x with
  | (x4) => (bif (decide (x4 < (a0.length : Int))) then (idx a0 x4).bind fun b19 => (g1 b19).bind fun b20 => (bif b20 then some (LR.done (LR.done x4)) else some (LR.next ((IntKind.i64.wrap (x4 + 1))))) else some (LR.done (LR.next ())))
noncomputable def slices_IndexFunc_impl_Case (a0 : List Case) (g1 : Case → Option Bool) : Option (Int) :=
  (whl (slices_IndexFunc_impl_Case_l0 a0 g1) (0)).bind fun y => match y with | LR.next () => some (-1) | LR.done z => some z
noncomputable def impl_Court_unsettled_1 (a0 : Case) : Option (Bool) :=
  some (a0.Final == 0)
noncomputable def impl_Court_unsettled (a0 : Court) : Option (Int) :=
  (slices_IndexFunc_impl_Case a0.Cases impl_Court_unsettled_1).bind fun b3 => some b3
noncomputable def impl_SettleCourt_l0 (x : (Int × Int × Int × (List Case) × (List Slip))) : Option (LR (Int × Int × Int × (List Case) × (List Slip)) (Int × Int × (List Case) × (List Slip))) :=
  match x with
  | (x21, x22, x23, x24, x26) => (bif (decide (0 ≤ x22)) then (impl_Court_step (⟨x23, x24, ([] : List Slip)⟩ : Court) (⟨1, x22⟩ : CourtStep)).bind fun (_b51, b52) => (impl_Court_step b52 (⟨3, 0⟩ : CourtStep)).bind fun (_b57, b58) => (impl_Court_step b58 (⟨3, 0⟩ : CourtStep)).bind fun (_b63, b64) => (impl_Court_unsettled b64).bind fun b67 => some (LR.next ((IntKind.i64.wrap (x21 + 1)), b67, b64.Now, b64.Cases, b64.Line)) else some (LR.done (x21, x23, x24, x26)))
noncomputable def impl_SettleCourt (a0 : Court) : Option (Court × Int × Bool) :=
  (impl_GoodCourt a0).bind fun b8 => (bif (!b8) then some ((⟨0, [], []⟩ : Court), 0, false) else (impl_Court_copied a0).bind fun b11 => (impl_Court_unsettled b11).bind fun b20 => (whl (impl_SettleCourt_l0) (0, b20, b11.Now, b11.Cases, b11.Line)).bind fun (x29, x30, x31, x33) => some ((⟨x30, x31, x33⟩ : Court), x29, true))
noncomputable def impl_IsSettled (a0 : Court) : Option (Bool × Bool) :=
  (impl_GoodCourt a0).bind fun b6 => (bif (!b6) then some (false, false) else (impl_Court_unsettled a0).bind fun b9 => some ((decide (b9 < 0)), true))
noncomputable def laws_FnVerdicts_l0 (b15 : Court) (b72 : Court) (x : (Int)) : Option (LR (Int) (LR Unit (LR Unit (Bool)))) :=
  match x with
  | (x99) => (bif (decide (x99 < (b72.Cases.length : Int))) then (idx b72.Cases x99).bind fun b113 => (idx b15.Cases x99).bind fun b118 => ((bif (b113.Said != 0) then (bif (b118.Said != b113.Said) then some (true) else (bif (b113.Final != 0) then some ((b118.Final != b113.Final)) else some (false))) else (bif (b113.Final != 0) then some ((b118.Final != b113.Final)) else some (false)))).bind fun x123 => (bif x123 then some (LR.done (LR.done (LR.done false))) else some (LR.next ((IntKind.i64.wrap (x99 + 1))))) else some (LR.done (LR.next ())))
noncomputable def laws_FnVerdicts_l1 (b15 : Court) (x : (Int × Int)) : Option (LR (Int × Int) (Int)) :=
  match x with
  | (x161, x162) => (bif (decide (x162 < (b15.Cases.length : Int))) then ((idx b15.Cases x162).bind fun b181 => ((bif (b181.Final == 0) then some ((IntKind.i64.wrap (x161 + 1))) else some (x161))).bind fun x186 => some (x186)).bind fun x176 => some (LR.next (x176, (IntKind.i64.wrap (x162 + 1)))) else some (LR.done (x161)))
noncomputable def laws_FnVerdicts_l2 (b15 : Court) (b139 : Court) (x : (Int)) : Option (LR (Int) (LR Unit (LR Unit (Bool)))) :=
  match x with
  | (x204) => (bif (decide (x204 < (b15.Cases.length : Int))) then (idx b15.Cases x204).bind fun b218 => (idx b139.Cases x204).bind fun b223 => ((bif (b218.Said != 0) then (bif (b223.Said != b218.Said) then some (true) else (bif (b218.Said == 0) then (bif (b223.Said != 1) then some ((!b218.Asks)) else some (false)) else some (false))) else (bif (b218.Said == 0) then (bif (b223.Said != 1) then some ((!b218.Asks)) else some (false)) else some (false)))).bind fun x228 => (bif x228 then some (LR.done (LR.done (LR.done false))) else some (LR.next ((IntKind.i64.wrap (x204 + 1))))) else some (LR.done (LR.next ())))
noncomputable def laws_FnVerdicts (a0 : List Int) (a1 : List Int) : Option (Bool) :=
  (bif (decide (1048576 < (IntKind.i64.wrap ((a0.length : Int) + (a1.length : Int))))) then some true else (spec_DrawPlayCourt a0).bind fun (b7, b8) => (impl_PlayCourt b7 b8).bind fun (b15, b16, b17) => (spec_PlayCourt b7 b8).bind fun (b31, b32, b33) => ((bif (!(b17 == b33)) then some (true) else (laws_sameBools b16 b32).bind fun b52 => (bif (!b52) then some (true) else (laws_sameCourts b15 b31).bind fun b53 => some ((!b53))))).bind fun x47 => (bif x47 then some false else ((bif b17 then (impl_AgreesIn b15).bind fun (b63, b64) => (laws_numberOf a1).bind fun b66 => (md b66 (IntKind.i64.wrap ((b8.length : Int) + 1))).bind fun x67 => (slc b8 0 x67).bind fun x68 => (impl_PlayCourt b7 x68).bind fun (b72, _b73, b74) => ((impl_GoodCourt b15).bind fun b93 => (bif (!b93) then some (true) else (bif (!b64) then some (true) else (bif (!b63) then some (true) else some ((!b74)))))).bind fun x88 => (bif x88 then some (LR.done false) else (whl (laws_FnVerdicts_l0 b15 b72) (0)).bind fun y => match y with | LR.next () => ((impl_SettleCourt b15).bind fun (b139, b140, b141) => (impl_IsSettled b139).bind fun (b152, b153) => (impl_AgreesIn b139).bind fun (b156, b157) => (whl (laws_FnVerdicts_l1 b15) (0, 0)).bind fun x163 => ((bif (!b141) then some (true) else (bif (b140 != x163) then some (true) else (bif (!b153) then some (true) else (bif (!b152) then some (true) else (bif (!b157) then some (true) else some ((!b156)))))))).bind fun x195 => (bif x195 then some (LR.done false) else (whl (laws_FnVerdicts_l2 b15 b139) (0)).bind fun y => match y with | LR.next () => some (LR.next ()) | LR.done z => some z)) | LR.done z => some z) else some (LR.next ()))).bind fun y => match y with | LR.next () => some true | LR.done z => some z))
noncomputable def spec_l1Cur_greetSteps_l0 (x : ((List GreetStep) × Int × (List Int) × Int × Int)) : Option (LR ((List GreetStep) × Int × (List Int) × Int × Int) ((List GreetStep) × (List Int) × Int × Int)) :=
  match x with
  | (x24, x27, x28, x29, x30) => (bif (decide (0 < x27)) then (spec_l1Cur_among (⟨x28, x29, x30⟩ : L1Cur) ([1, 2, 2, 2, 2, 2, 2, 3, 4, 4, 5, 6] : List Int)).bind fun (b52, b53) => (spec_l1In b52 2 4).bind fun b58 => ((bif b58 then (spec_l1Cur_pick b53 4).bind fun (b68, b69) => some (b69.Code, b69.At, b69.Seed, b68) else some (b53.Code, b53.At, b53.Seed, 0))).bind fun (x59, x60, x61, x62) => ((bif (b52 == 6) then (spec_l1Cur_pick (⟨x59, x60, x61⟩ : L1Cur) 2).bind fun (b81, b82) => some (b82.Code, b82.At, b82.Seed, b81) else some (x59, x60, x61, x62))).bind fun (x72, x73, x74, x75) => (app 16 x24 ([(⟨b52, x75⟩ : GreetStep)] : List GreetStep)).bind fun x85 => some (LR.next (x85, (IntKind.i64.wrap (x27 - 1)), x72, x73, x74)) else some (LR.done (x24, x28, x29, x30)))
noncomputable def spec_l1Cur_greetSteps (a0 : L1Cur) : Option (List GreetStep × L1Cur) :=
  (spec_l1Cur_pick a0 30).bind fun (b5, b6) => (spec_l1Cur_one b6 12).bind fun (b10, b11) => ((bif b10 then (spec_l1Cur_pick b11 3).bind fun (b21, b22) => some ((IntKind.i64.wrap (119 + b21)), b22.Code, b22.At, b22.Seed) else some (b5, b11.Code, b11.At, b11.Seed))).bind fun (x12, x13, x14, x15) => (whl (spec_l1Cur_greetSteps_l0) ([], x12, x13, x14, x15)).bind fun (x31, x33, x34, x35) => ((bif (decide (0 < (x31.length : Int))) then (spec_l1Cur_one (⟨x33, x34, x35⟩ : L1Cur) 20).bind fun (b101, b102) => some (b101, b102.Code, b102.At, b102.Seed) else some (false, x33, x34, x35))).bind fun (x92, x93, x94, x95) => ((bif x92 then (spec_l1Cur_pick (⟨x93, x94, x95⟩ : L1Cur) 8).bind fun (b112, b113) => (spec_l1Cur_pick b113 4).bind fun (b115, b116) => (idx x31 0).bind fun _b117 => some ((x31.set (0 : Int).toNat (⟨b112, (IntKind.i64.wrap (b115 - 1))⟩ : GreetStep)), b116.Code, b116.At, b116.Seed) else some (x31, x93, x94, x95))).bind fun (x103, x104, x105, x106) => some (x103, (⟨x104, x105, x106⟩ : L1Cur))
noncomputable def spec_DrawPlayGreet (a0 : List Int) : Option (List GreetStep) :=
  (spec_l1Cur_greetSteps (⟨a0, 0, 0⟩ : L1Cur)).bind fun (b7, _b8) => some b7
noncomputable def impl_NewGreet : Option (Greet) :=
  some (⟨0, 0, 0, 0, 0, 0, 100, 0, [], [], []⟩ : Greet)
noncomputable def slices_Clone_impl_Hello (a0 : List Hello) : Option (List Hello) :=
  app 24 [] a0
noncomputable def impl_Greet_copied (a0 : Greet) : Option (Greet) :=
  (slices_Clone_impl_Hello a0.Line).bind fun b7 => (slices_Clone_impl_Hello a0.OpenedA).bind fun b11 => (slices_Clone_impl_Hello a0.OpenedB).bind fun b15 => some (⟨a0.StateA, a0.StateB, a0.X, a0.Y, a0.OfX, a0.OfY, a0.LastX, a0.LastY, b7, b11, b15⟩ : Greet)
noncomputable def impl_Greet_goes (a0 : Greet) (a1 : Hello) : Option (Greet) :=
  (bif (decide ((a0.Line.length : Int) < 30)) then (app 24 a0.Line ([a1] : List Hello)).bind fun x7 => some (⟨a0.StateA, a0.StateB, a0.X, a0.Y, a0.OfX, a0.OfY, a0.LastX, a0.LastY, x7, a0.OpenedA, a0.OpenedB⟩ : Greet) else some a0)
noncomputable def slices_Delete_impl_Hello (a0 : List Hello) (a1 : Int) (a2 : Int) : Option (List Hello) :=
  (slc a0 a1 a2).bind fun _x3 => (bif (a1 == a2) then some a0 else (slc a0 0 a1).bind fun x10 => (slc a0 a2 (a0.length : Int)).bind fun x12 => (app 24 x10 x12).bind fun x14 => some x14)
noncomputable def impl_Greet_take (a0 : Greet) (a1 : Hello) : Option (Greet) :=
  (bif (a1.Kind == 1) then ((bif (a0.StateB != 2) then some ((decide (a0.LastY < 1000))) else some (false))).bind fun x11 => (bif x11 then (impl_Greet_goes (⟨a0.StateA, 1, a0.X, (IntKind.i64.wrap (a0.LastY + 1)), a1.X, a0.OfY, a0.LastX, (IntKind.i64.wrap (a0.LastY + 1)), a0.Line, a0.OpenedA, a0.OpenedB⟩ : Greet) (⟨2, a1.X, (IntKind.i64.wrap (a0.LastY + 1))⟩ : Hello)).bind fun b18 => some b18 else some a0) else (bif (a1.Kind == 2) then ((bif (a0.StateA == 1) then some ((a0.X == a1.X)) else some (false))).bind fun x25 => (bif x25 then (app 24 a0.OpenedA ([(⟨3, a1.X, a1.Y⟩ : Hello)] : List Hello)).bind fun x34 => (impl_Greet_goes (⟨2, a0.StateB, a0.X, a0.Y, a0.OfX, a1.Y, a0.LastX, a0.LastY, a0.Line, x34, a0.OpenedB⟩ : Greet) (⟨3, a1.X, a1.Y⟩ : Hello)).bind fun b37 => some b37 else ((bif (a0.StateA == 2) then (bif (a0.X == a1.X) then some ((a0.OfY == a1.Y)) else some (false)) else some (false))).bind fun x42 => (bif x42 then (impl_Greet_goes a0 (⟨3, a1.X, a1.Y⟩ : Hello)).bind fun b47 => some b47 else some a0)) else (bif (a1.Kind == 3) then ((bif (a0.StateB == 1) then (bif (a0.OfX == a1.X) then some ((a0.Y == a1.Y)) else some (false)) else some (false))).bind fun x53 => (bif x53 then (app 24 a0.OpenedB ([(⟨3, a1.X, a1.Y⟩ : Hello)] : List Hello)).bind fun x61 => some (⟨a0.StateA, 2, a0.X, a0.Y, a0.OfX, a0.OfY, a0.LastX, a0.LastY, a0.Line, a0.OpenedA, x61⟩ : Greet) else some a0) else some a0)))
noncomputable def impl_Greet_step (a0 : Greet) (a1 : GreetStep) : Option (Bool × Greet) :=
  (((bif (a1.Kind == 1) then some ((a1.Kind == 1)) else some ((a1.Kind == 5)))).bind fun x12 => ((bif x12 then (bif (a1.K != 0) then some (LR.done (LR.done (false, a0))) else some (LR.next ())) else ((bif (a1.Kind == 2) then some ((a1.Kind == 2)) else ((bif (a1.Kind == 3) then some ((a1.Kind == 3)) else some ((a1.Kind == 4)))).bind fun x35 => some (x35))).bind fun x29 => ((bif x29 then (impl_in a1.K 0 (IntKind.i64.wrap ((a0.Line.length : Int) - 1))).bind fun b45 => (bif (!b45) then some (LR.done (LR.done (LR.done (false, a0)))) else some (LR.next ())) else some (LR.next ()))).bind fun y => match y with | LR.next () => some (LR.next ()) | LR.done z => some z)).bind fun y => match y with | LR.next () => some (LR.next ()) | LR.done z => some z).bind fun y => match y with | LR.next () => ((((bif (a1.Kind == 1) then (bif (a0.LastX == 1000) then some (LR.done (LR.done (false, a0))) else (impl_Greet_goes (⟨1, a0.StateB, (IntKind.i64.wrap (a0.LastX + 1)), a0.Y, a0.OfX, 0, (IntKind.i64.wrap (a0.LastX + 1)), a0.LastY, a0.Line, a0.OpenedA, a0.OpenedB⟩ : Greet) (⟨1, (IntKind.i64.wrap (a0.LastX + 1)), 0⟩ : Hello)).bind fun b102 => some (LR.next (b102.StateA, b102.StateB, b102.X, b102.Y, b102.OfX, b102.OfY, b102.LastX, b102.LastY, b102.Line, b102.OpenedA, b102.OpenedB))) else ((bif (a1.Kind == 2) then some ((a1.Kind == 2)) else some ((a1.Kind == 3)))).bind fun x108 => ((bif x108 then (idx a0.Line a1.K).bind fun b133 => (slices_Delete_impl_Hello a0.Line a1.K (IntKind.i64.wrap (a1.K + 1))).bind fun b138 => ((bif (a1.Kind == 2) then (impl_Greet_take (⟨a0.StateA, a0.StateB, a0.X, a0.Y, a0.OfX, a0.OfY, a0.LastX, a0.LastY, b138, a0.OpenedA, a0.OpenedB⟩ : Greet) b133).bind fun b160 => some (b160.StateA, b160.StateB, b160.X, b160.Y, b160.OfX, b160.OfY, b160.LastX, b160.LastY, b160.Line, b160.OpenedA, b160.OpenedB) else some (a0.StateA, a0.StateB, a0.X, a0.Y, a0.OfX, a0.OfY, a0.LastX, a0.LastY, b138, a0.OpenedA, a0.OpenedB))).bind fun (x142, x143, x144, x145, x146, x147, x148, x149, x150, x152, x154) => some (LR.next (x142, x143, x144, x145, x146, x147, x148, x149, x150, x152, x154)) else ((bif (a1.Kind == 4) then (bif ((a0.Line.length : Int) == 30) then some (LR.done (LR.done (LR.done (LR.done (false, a0))))) else (idx a0.Line a1.K).bind fun b189 => (app 24 a0.Line ([b189] : List Hello)).bind fun x193 => some (LR.next (a0.StateA, a0.StateB, a0.X, a0.Y, a0.OfX, a0.OfY, x193))) else ((bif (a1.Kind == 5) then (bif (a0.StateB != 1) then some (LR.done (LR.done (LR.done (LR.done (LR.done (false, a0)))))) else some (LR.next (a0.StateA, 0, a0.X, 0, 0, a0.OfY))) else ((bif (a1.Kind == 6) then (((bif (a1.K == 0) then some (LR.next (0, a0.StateB, 0, a0.Y, a0.OfX, 0)) else (bif (a1.K == 1) then some (LR.next (a0.StateA, 0, a0.X, 0, 0, a0.OfY)) else some (LR.done (LR.done (LR.done (LR.done (LR.done (LR.done (LR.done (LR.done (false, a0)))))))))))).bind fun y => match y with | LR.next (x243, x244, x245, x246, x247, x248) => some (LR.next (x243, x244, x245, x246, x247, x248)) | LR.done z => some z).bind fun y => match y with | LR.next (x233, x234, x235, x236, x237, x238) => some (LR.next (x233, x234, x235, x236, x237, x238)) | LR.done z => some z else some (LR.done (LR.done (LR.done (LR.done (LR.done (LR.done (false, a0))))))))).bind fun y => match y with | LR.next (x221, x222, x223, x224, x225, x226) => some (LR.next (x221, x222, x223, x224, x225, x226)) | LR.done z => some z)).bind fun y => match y with | LR.next (x197, x198, x199, x200, x201, x202) => some (LR.next (x197, x198, x199, x200, x201, x202, a0.Line)) | LR.done z => some z)).bind fun y => match y with | LR.next (x165, x166, x167, x168, x169, x170, x171) => some (LR.next (x165, x166, x167, x168, x169, x170, a0.LastX, a0.LastY, x171, a0.OpenedA, a0.OpenedB)) | LR.done z => some z)).bind fun y => match y with | LR.next (x113, x114, x115, x116, x117, x118, x119, x120, x121, x124, x126) => some (LR.next (x113, x114, x115, x116, x117, x118, x119, x120, x121, x124, x126)) | LR.done z => some z)).bind fun y => match y with | LR.next (x74, x75, x76, x77, x78, x79, x80, x81, x82, x85, x87) => some (LR.next (x74, x75, x76, x77, x78, x79, x80, x81, x82, x85, x87)) | LR.done z => some z).bind fun y => match y with | LR.next (x56, x57, x58, x59, x60, x61, x62, x63, x64, x66, x68) => (bif (decide ((x66.length : Int) ≤ 300)) then some ((decide ((x68.length : Int) ≤ 300)), (⟨x56, x57, x58, x59, x60, x61, x62, x63, x64, x66, x68⟩ : Greet)) else some (false, (⟨x56, x57, x58, x59, x60, x61, x62, x63, x64, x66, x68⟩ : Greet))) | LR.done z => some z) | LR.done z => some z
noncomputable def impl_PlayGreet_l0 (a0 : List GreetStep) (x : ((List Bool) × Int × Int × Int × Int × Int × Int × Int × Int × Int × (List Hello) × (List Hello) × (List Hello))) : Option (LR ((List Bool) × Int × Int × Int × Int × Int × Int × Int × Int × Int × (List Hello) × (List Hello) × (List Hello)) ((List Bool) × Int × Int × Int × Int × Int × Int × Int × Int × (List Hello) × (List Hello) × (List Hello))) :=
  match x with
  | (x19, x22, x23, x24, x25, x26, x27, x28, x29, x30, x31, x34, x37) => (bif (decide (x22 < (a0.length : Int))) then (idx a0 x22).bind fun b69 => (impl_Greet_copied (⟨x23, x24, x25, x26, x27, x28, x29, x30, x31, x34, x37⟩ : Greet)).bind fun b73 => (impl_Greet_step b73 b69).bind fun (b87, b88) => ((bif b87 then some (b88.StateA, b88.StateB, b88.X, b88.Y, b88.OfX, b88.OfY, b88.LastX, b88.LastY, b88.Line, b88.OpenedA, b88.OpenedB) else some (x23, x24, x25, x26, x27, x28, x29, x30, x31, x34, x37))).bind fun (x94, x95, x96, x97, x98, x99, x100, x101, x102, x105, x108) => (app 1 x19 ([b87] : List Bool)).bind fun x117 => some (LR.next (x117, (IntKind.i64.wrap (x22 + 1)), x94, x95, x96, x97, x98, x99, x100, x101, x102, x105, x108)) else some (LR.done (x19, x23, x24, x25, x26, x27, x28, x29, x30, x31, x34, x37)))
noncomputable def impl_PlayGreet (a0 : List GreetStep) : Option (Greet × List Bool × Bool) :=
  (bif (decide (120 < (a0.length : Int))) then some ((⟨0, 0, 0, 0, 0, 0, 0, 0, [], [], []⟩ : Greet), [], false) else (impl_NewGreet).bind fun b8 => (whl (impl_PlayGreet_l0 a0) ([], 0, b8.StateA, b8.StateB, b8.X, b8.Y, b8.OfX, b8.OfY, b8.LastX, b8.LastY, b8.Line, b8.OpenedA, b8.OpenedB)).bind fun (x40, x42, x43, x44, x45, x46, x47, x48, x49, x50, x52, x54) => some ((⟨x42, x43, x44, x45, x46, x47, x48, x49, x50, x52, x54⟩ : Greet), x40, true))
noncomputable def spec_NewGreet : Option (Greet) :=
  some (⟨0, 0, 0, 0, 0, 0, 100, 0, [], [], []⟩ : Greet)
noncomputable def spec_l15Own (a0 : Greet) : Option (Greet) :=
  (app 24 ([] : List Hello) a0.Line).bind fun x8 => (app 24 ([] : List Hello) a0.OpenedA).bind fun x13 => (app 24 ([] : List Hello) a0.OpenedB).bind fun x18 => some (⟨a0.StateA, a0.StateB, a0.X, a0.Y, a0.OfX, a0.OfY, a0.LastX, a0.LastY, x8, x13, x18⟩ : Greet)
noncomputable def spec_l15Write (a0 : Greet) (a1 : Hello) : Option (Greet) :=
  ((bif (decide ((a0.Line.length : Int) < 30)) then (app 24 a0.Line ([a1] : List Hello)).bind fun x19 => some (x19) else some (a0.Line))).bind fun x10 => some (⟨a0.StateA, a0.StateB, a0.X, a0.Y, a0.OfX, a0.OfY, a0.LastX, a0.LastY, x10, a0.OpenedA, a0.OpenedB⟩ : Greet)
noncomputable def spec_l15CloseB (a0 : Greet) : Option (Greet) :=
  some (⟨a0.StateA, 0, a0.X, 0, 0, a0.OfY, a0.LastX, a0.LastY, a0.Line, a0.OpenedA, a0.OpenedB⟩ : Greet)
noncomputable def spec_l15Opened (a0 : List Hello) (a1 : Int) (a2 : Int) : Option (List Hello) :=
  (bif ((a0.length : Int) == 300) then some a0 else (app 24 a0 ([(⟨3, a1, a2⟩ : Hello)] : List Hello)).bind fun x8 => some x8)
noncomputable def spec_l15Take (a0 : Greet) (a1 : Hello) : Option (Greet) :=
  (bif (a1.Kind == 1) then ((bif (a0.StateB == 2) then some (true) else some ((a0.LastY == 1000)))).bind fun x14 => (bif x14 then some a0 else (spec_l15Write (⟨a0.StateA, 1, a0.X, (IntKind.i64.wrap (a0.LastY + 1)), a1.X, a0.OfY, a0.LastX, (IntKind.i64.wrap (a0.LastY + 1)), a0.Line, a0.OpenedA, a0.OpenedB⟩ : Greet) (⟨2, a1.X, (IntKind.i64.wrap (a0.LastY + 1))⟩ : Hello)).bind fun b25 => some b25) else (bif (a1.Kind == 2) then ((bif (a0.StateA == 1) then some ((a0.X == a1.X)) else some (false))).bind fun x35 => ((bif x35 then (spec_l15Opened a0.OpenedA a1.X a1.Y).bind fun b51 => some (2, a1.Y, b51) else some (a0.StateA, a0.OfY, a0.OpenedA))).bind fun (x40, x41, x42) => ((bif (x40 == 2) then (bif (a0.X == a1.X) then some ((x41 == a1.Y)) else some (false)) else some (false))).bind fun x56 => (bif x56 then (spec_l15Write (⟨x40, a0.StateB, a0.X, a0.Y, a0.OfX, x41, a0.LastX, a0.LastY, a0.Line, x42, a0.OpenedB⟩ : Greet) (⟨3, a1.X, a1.Y⟩ : Hello)).bind fun b62 => some b62 else some (⟨x40, a0.StateB, a0.X, a0.Y, a0.OfX, x41, a0.LastX, a0.LastY, a0.Line, x42, a0.OpenedB⟩ : Greet)) else ((bif (a0.StateB == 1) then (bif (a0.OfX == a1.X) then some ((a0.Y == a1.Y)) else some (false)) else some (false))).bind fun x72 => ((bif x72 then (spec_l15Opened a0.OpenedB a1.X a1.Y).bind fun b86 => some (2, b86) else some (a0.StateB, a0.OpenedB))).bind fun (x77, x78) => some (⟨a0.StateA, x77, a0.X, a0.Y, a0.OfX, a0.OfY, a0.LastX, a0.LastY, a0.Line, a0.OpenedA, x78⟩ : Greet)))
noncomputable def spec_l15Step (a0 : Greet) (a1 : GreetStep) : Option (Greet × Bool) :=
  (bif (a1.Kind == 1) then ((bif (a1.K != 0) then some (true) else some ((a0.LastX == 1000)))).bind fun x14 => (bif x14 then some (a0, false) else (spec_l15Write (⟨1, a0.StateB, (IntKind.i64.wrap (a0.LastX + 1)), a0.Y, a0.OfX, 0, (IntKind.i64.wrap (a0.LastX + 1)), a0.LastY, a0.Line, a0.OpenedA, a0.OpenedB⟩ : Greet) (⟨1, (IntKind.i64.wrap (a0.LastX + 1)), 0⟩ : Hello)).bind fun b25 => some (b25, true)) else (bif (a1.Kind == 5) then ((bif (a1.K != 0) then some (true) else some ((a0.StateB != 1)))).bind fun x35 => (bif x35 then some (a0, false) else (spec_l15CloseB a0).bind fun b42 => some (b42, true)) else (bif (a1.Kind == 6) then (bif (a1.K == 0) then some ((⟨0, a0.StateB, 0, a0.Y, a0.OfX, 0, a0.LastX, a0.LastY, a0.Line, a0.OpenedA, a0.OpenedB⟩ : Greet), true) else (bif (a1.K == 1) then (spec_l15CloseB a0).bind fun b60 => some (b60, true) else some (a0, false))) else ((bif (decide (a1.K < 0)) then some (true) else (bif (decide ((a0.Line.length : Int) ≤ a1.K)) then some (true) else (spec_l1In a1.Kind 2 4).bind fun b75 => some ((!b75))))).bind fun x70 => (bif x70 then some (a0, false) else (idx a0.Line a1.K).bind fun b78 => (bif (a1.Kind == 4) then (bif ((a0.Line.length : Int) == 30) then some (a0, false) else (spec_l15Write a0 b78).bind fun b88 => some (b88, true)) else (slc a0.Line 0 a1.K).bind fun x96 => (app 24 ([] : List Hello) x96).bind fun x99 => (slc a0.Line (IntKind.i64.wrap (a1.K + 1)) (a0.Line.length : Int)).bind fun x103 => (app 24 x99 x103).bind fun x106 => (bif (a1.Kind == 2) then (spec_l15Take (⟨a0.StateA, a0.StateB, a0.X, a0.Y, a0.OfX, a0.OfY, a0.LastX, a0.LastY, x106, a0.OpenedA, a0.OpenedB⟩ : Greet) b78).bind fun b112 => some (b112, true) else some ((⟨a0.StateA, a0.StateB, a0.X, a0.Y, a0.OfX, a0.OfY, a0.LastX, a0.LastY, x106, a0.OpenedA, a0.OpenedB⟩ : Greet), true)))))))
noncomputable def spec_PlayGreet_l0 (a0 : List GreetStep) (x : ((List Bool) × Int × Int × Int × Int × Int × Int × Int × Int × Int × (List Hello) × (List Hello) × (List Hello))) : Option (LR ((List Bool) × Int × Int × Int × Int × Int × Int × Int × Int × Int × (List Hello) × (List Hello) × (List Hello)) ((List Bool) × Int × Int × Int × Int × Int × Int × Int × Int × (List Hello) × (List Hello) × (List Hello))) :=
  match x with
  | (x20, x23, x24, x25, x26, x27, x28, x29, x30, x31, x32, x35, x38) => (bif (decide (x23 < (a0.length : Int))) then (idx a0 x23).bind fun b70 => (spec_l15Own (⟨x24, x25, x26, x27, x28, x29, x30, x31, x32, x35, x38⟩ : Greet)).bind fun b74 => (spec_l15Step b74 b70).bind fun (b85, b86) => ((bif b86 then some (b85.StateA, b85.StateB, b85.X, b85.Y, b85.OfX, b85.OfY, b85.LastX, b85.LastY, b85.Line, b85.OpenedA, b85.OpenedB) else some (x24, x25, x26, x27, x28, x29, x30, x31, x32, x35, x38))).bind fun (x97, x98, x99, x100, x101, x102, x103, x104, x105, x108, x111) => (app 1 x20 ([b86] : List Bool)).bind fun x120 => some (LR.next (x120, (IntKind.i64.wrap (x23 + 1)), x97, x98, x99, x100, x101, x102, x103, x104, x105, x108, x111)) else some (LR.done (x20, x24, x25, x26, x27, x28, x29, x30, x31, x32, x35, x38)))
noncomputable def spec_PlayGreet (a0 : List GreetStep) : Option (Greet × List Bool × Bool) :=
  (bif (decide (120 < (a0.length : Int))) then some ((⟨0, 0, 0, 0, 0, 0, 0, 0, [], [], []⟩ : Greet), [], false) else (spec_NewGreet).bind fun b8 => (whl (spec_PlayGreet_l0 a0) ([], 0, b8.StateA, b8.StateB, b8.X, b8.Y, b8.OfX, b8.OfY, b8.LastX, b8.LastY, b8.Line, b8.OpenedA, b8.OpenedB)).bind fun (x41, x43, x44, x45, x46, x47, x48, x49, x50, x51, x53, x55) => (spec_l15Own (⟨x43, x44, x45, x46, x47, x48, x49, x50, x51, x53, x55⟩ : Greet)).bind fun b126 => some (b126, x41, true))
noncomputable def laws_sameHellos_l0 (a0 : List Hello) (a1 : List Hello) (x : (Int)) : Option (LR (Int) (LR Unit (Bool))) :=
  match x with
  | (x7) => (bif (decide (x7 < (a0.length : Int))) then (idx a0 x7).bind fun b22 => (idx a1 x7).bind fun b23 => (bif (!((b22.Kind == b23.Kind) && ((b22.X == b23.X) && ((b22.Y == b23.Y) && true)))) then some (LR.done (LR.done false)) else some (LR.next ((IntKind.i64.wrap (x7 + 1))))) else some (LR.done (LR.next ())))
noncomputable def laws_sameHellos (a0 : List Hello) (a1 : List Hello) : Option (Bool) :=
  (bif ((a0.length : Int) != (a1.length : Int)) then some false else (whl (laws_sameHellos_l0 a0 a1) (0)).bind fun y => match y with | LR.next () => some true | LR.done z => some z)
noncomputable def laws_sameGreets (a0 : Greet) (a1 : Greet) : Option (Bool) :=
  (bif (a0.StateA == a1.StateA) then (bif (a0.StateB == a1.StateB) then (bif (a0.X == a1.X) then (bif (a0.Y == a1.Y) then (bif (a0.OfX == a1.OfX) then (bif (a0.OfY == a1.OfY) then (bif (a0.LastX == a1.LastX) then (bif (a0.LastY == a1.LastY) then (laws_sameHellos a0.Line a1.Line).bind fun b7 => (bif b7 then (laws_sameHellos a0.OpenedA a1.OpenedA).bind fun b8 => (bif b8 then (laws_sameHellos a0.OpenedB a1.OpenedB).bind fun b9 => some b9 else some false) else some false) else some false) else some false) else some false) else some false) else some false) else some false) else some false) else some false)
noncomputable def impl_Greet_isGiven (a0 : Greet) (a1 : Int) (a2 : Int) : Option (Bool) :=
  (impl_in a1 1 a0.LastX).bind fun b3 => (bif b3 then (impl_in a2 1 a0.LastY).bind fun b4 => some b4 else some false)
noncomputable def slices_Grow_impl_Hello_nil (a1 : Int) : Option (List Hello) :=
  ((bif (decide (a1 < 0)) then none else some ())).bind fun _ => ((bif (decide (0 < (IntKind.i64.wrap (a1 - (IntKind.i64.wrap (0 - 0)))))) then (mkL 24 (IntKind.i64.wrap (a1 - (IntKind.i64.wrap (0 - 0)))) ((⟨0, 0, 0⟩ : Hello) : Hello)).bind fun x20 => (slc x20 0 0).bind fun x21 => some (x21) else some ([]))).bind fun x11 => some x11
noncomputable def slices_Concat_impl_Hello_l0 (a0 : List (List Hello)) (x : (Int × Int)) : Option (LR (Int × Int) (Int)) :=
  match x with
  | (x5, x6) => (bif (decide (x6 < (a0.length : Int))) then ((idx a0 x6).bind fun b25 => ((bif (decide ((IntKind.i64.wrap (x5 + (b25.length : Int))) < 0)) then none else some ())).bind fun _ => some ((IntKind.i64.wrap (x5 + (b25.length : Int))))).bind fun x20 => some (LR.next (x20, (IntKind.i64.wrap (x6 + 1)))) else some (LR.done (x5)))
noncomputable def slices_Concat_impl_Hello_l1 (a0 : List (List Hello)) (x : ((List Hello) × Int)) : Option (LR ((List Hello) × Int) ((List Hello))) :=
  match x with
  | (x40, x43) => (bif (decide (x43 < (a0.length : Int))) then (idx a0 x43).bind fun b59 => (app 24 x40 b59).bind fun x60 => some (LR.next (x60, (IntKind.i64.wrap (x43 + 1)))) else some (LR.done (x40)))
noncomputable def slices_Concat_impl_Hello (a0 : List (List Hello)) : Option (List Hello) :=
  (whl (slices_Concat_impl_Hello_l0 a0) (0, 0)).bind fun x7 => (slices_Grow_impl_Hello_nil x7).bind fun b35 => (whl (slices_Concat_impl_Hello_l1 a0) (b35, 0)).bind fun x44 => some x44
noncomputable def impl_Greet_isHello (a0 : Greet) (a1 : Hello) : Option (Bool) :=
  (bif (a1.Kind == 1) then (impl_in a1.X 1 a0.LastX).bind fun b7 => (bif b7 then some (a1.Y == 0) else some false) else (bif (a1.Kind == 2) then (impl_Greet_isGiven a0 a1.X a1.Y).bind fun b9 => some b9 else (bif (a1.Kind == 3) then (impl_Greet_isGiven a0 a1.X a1.Y).bind fun b10 => some b10 else some false)))
noncomputable def impl_GoodGreet_1 (a0 : Hello) (a1 : Greet) : Option (Bool) :=
  (impl_Greet_isHello a1 a0).bind fun b5 => some (!b5)
noncomputable def slices_IndexFunc_impl_Hello_l0 (a0 : List Hello) (g1 : Hello → Option Bool) (x : (Int)) : Option (LR (Int) (LR Unit (Int))) :=
  match x with
  | (x4) => (bif (decide (x4 < (a0.length : Int))) then (idx a0 x4).bind fun b19 => (g1 b19).bind fun b20 => (bif b20 then some (LR.done (LR.done x4)) else some (LR.next ((IntKind.i64.wrap (x4 + 1))))) else some (LR.done (LR.next ())))
noncomputable def slices_IndexFunc_impl_Hello (a0 : List Hello) (g1 : Hello → Option Bool) : Option (Int) :=
  (whl (slices_IndexFunc_impl_Hello_l0 a0 g1) (0)).bind fun y => match y with | LR.next () => some (-1) | LR.done z => some z
noncomputable def slices_ContainsFunc_impl_Hello (a0 : List Hello) (g1 : Hello → Option Bool) : Option (Bool) :=
  (slices_IndexFunc_impl_Hello a0 g1).bind fun b3 => some (decide (0 ≤ b3))
noncomputable def impl_GoodGreet_2 (a0 : Hello) (a1 : Greet) : Option (Bool) :=
  (bif (a0.Kind != 3) then some true else (impl_Greet_isHello a1 a0).bind fun b5 => some (!b5))
noncomputable def impl_GoodGreet (a0 : Greet) : Option (Bool) :=
  ((impl_in a0.LastX 0 1000).bind fun b11 => (bif (!b11) then some (true) else (impl_in a0.LastY 0 1000).bind fun b12 => (bif (!b12) then some (true) else (bif (decide (30 < (a0.Line.length : Int))) then some (true) else (bif (decide (300 < (a0.OpenedA.length : Int))) then some (true) else some ((decide (300 < (a0.OpenedB.length : Int))))))))).bind fun x6 => (bif x6 then some false else (((bif (a0.StateA == 0) then ((bif (a0.X == 0) then some ((a0.OfY == 0)) else some (false))).bind fun x28 => some (x28) else ((bif (a0.StateA == 1) then ((impl_in a0.X 1 a0.LastX).bind fun b44 => (bif b44 then some ((a0.OfY == 0)) else some (false))).bind fun x39 => some (x39) else ((bif (a0.StateA == 2) then (impl_Greet_isGiven a0 a0.X a0.OfY).bind fun b51 => some (b51) else some (false))).bind fun x46 => some (x46))).bind fun x34 => some (x34))).bind fun x23 => some (x23)).bind fun x18 => (((bif (a0.StateB == 0) then ((bif (a0.OfX == 0) then some ((a0.Y == 0)) else some (false))).bind fun x65 => some (x65) else ((bif (a0.StateB == 1) then some ((a0.StateB == 1)) else some ((a0.StateB == 2)))).bind fun x72 => ((bif x72 then (impl_Greet_isGiven a0 a0.OfX a0.Y).bind fun b82 => some (b82) else some (false))).bind fun x77 => some (x77))).bind fun x60 => some (x60)).bind fun x55 => (slices_Concat_impl_Hello ([a0.OpenedA, a0.OpenedB] : List (List Hello))).bind fun b86 => (bif x18 then (bif x55 then (slices_ContainsFunc_impl_Hello a0.Line (fun y0 => impl_GoodGreet_1 y0 a0)).bind fun b91 => (bif (!b91) then (slices_ContainsFunc_impl_Hello b86 (fun y0 => impl_GoodGreet_2 y0 a0)).bind fun b92 => some (!b92) else some false) else some false) else some false))
noncomputable def slices_Index_impl_Hello_l0 (a0 : List Hello) (a1 : Hello) (x : (Int)) : Option (LR (Int) (LR Unit (Int))) :=
  match x with
  | (x6) => (bif (decide (x6 < (a0.length : Int))) then (idx a0 x6).bind fun b21 => (bif ((a1.Kind == b21.Kind) && ((a1.X == b21.X) && ((a1.Y == b21.Y) && true))) then some (LR.done (LR.done x6)) else some (LR.next ((IntKind.i64.wrap (x6 + 1))))) else some (LR.done (LR.next ())))
noncomputable def slices_Index_impl_Hello (a0 : List Hello) (a1 : Hello) : Option (Int) :=
  (whl (slices_Index_impl_Hello_l0 a0 a1) (0)).bind fun y => match y with | LR.next () => some (-1) | LR.done z => some z
noncomputable def slices_Contains_impl_Hello (a0 : List Hello) (a1 : Hello) : Option (Bool) :=
  (slices_Index_impl_Hello a0 a1).bind fun b5 => some (decide (0 ≤ b5))
noncomputable def impl_HasHello (a0 : List Hello) (a1 : Hello) : Option (Bool × Bool) :=
  (bif (decide (300 < (a0.length : Int))) then some (false, false) else (slices_Contains_impl_Hello a0 a1).bind fun b8 => some (b8, true))
noncomputable def impl_SettleGreet_l0 (x : (Int × Int × Int × Int × Int × Int × Int × Int × Int × (List Hello) × (List Hello) × (List Hello))) : Option (LR (Int × Int × Int × Int × Int × Int × Int × Int × Int × (List Hello) × (List Hello) × (List Hello)) (LR (Int × Int × Int × Int × Int × Int × Int × Int × (List Hello) × (List Hello) × (List Hello)) (Greet × Bool))) :=
  match x with
  | (x56, x57, x58, x59, x60, x61, x62, x63, x64, x65, x68, x70) => (bif (decide (x56 < (([(⟨1, 0⟩ : GreetStep), (⟨2, 0⟩ : GreetStep), (⟨2, 0⟩ : GreetStep), (⟨2, 0⟩ : GreetStep)] : List GreetStep).length : Int))) then (idx ([(⟨1, 0⟩ : GreetStep), (⟨2, 0⟩ : GreetStep), (⟨2, 0⟩ : GreetStep), (⟨2, 0⟩ : GreetStep)] : List GreetStep) x56).bind fun b99 => (impl_Greet_step (⟨x57, x58, x59, x60, x61, x62, x63, x64, x65, x68, x70⟩ : Greet) b99).bind fun (b105, b106) => (bif (!b105) then some (LR.done (LR.done ((⟨0, 0, 0, 0, 0, 0, 0, 0, [], [], []⟩ : Greet), false))) else some (LR.next ((IntKind.i64.wrap (x56 + 1)), b106.StateA, b106.StateB, b106.X, b106.Y, b106.OfX, b106.OfY, b106.LastX, b106.LastY, b106.Line, b106.OpenedA, b106.OpenedB))) else some (LR.done (LR.next (x57, x58, x59, x60, x61, x62, x63, x64, x65, x68, x70))))
noncomputable def impl_SettleGreet (a0 : Greet) : Option (Greet × Bool) :=
  (impl_Greet_copied a0).bind fun b7 => ((impl_GoodGreet a0).bind fun b37 => (bif (!b37) then some (true, b7.StateA, b7.StateB, b7.X, b7.Y, b7.OfX, b7.OfY, b7.LastX, b7.LastY, b7.Line, b7.OpenedA, b7.OpenedB) else (impl_Greet_step b7 (⟨6, 0⟩ : GreetStep)).bind fun (b39, b40) => (bif (!b39) then some (true, b40.StateA, b40.StateB, b40.X, b40.Y, b40.OfX, b40.OfY, b40.LastX, b40.LastY, b40.Line, b40.OpenedA, b40.OpenedB) else (impl_Greet_step b40 (⟨6, 1⟩ : GreetStep)).bind fun (b45, b46) => some ((!b45), b46.StateA, b46.StateB, b46.X, b46.Y, b46.OfX, b46.OfY, b46.LastX, b46.LastY, b46.Line, b46.OpenedA, b46.OpenedB)))).bind fun (x18, x19, x20, x21, x22, x23, x24, x25, x26, _x27, x29, x31) => (bif x18 then some ((⟨0, 0, 0, 0, 0, 0, 0, 0, [], [], []⟩ : Greet), false) else (whl (impl_SettleGreet_l0) (0, x19, x20, x21, x22, x23, x24, x25, x26, [], x29, x31)).bind fun y => match y with | LR.next (x72, x73, x74, x75, x76, x77, x78, x79, x80, x82, x84) => some ((⟨x72, x73, x74, x75, x76, x77, x78, x79, x80, x82, x84⟩ : Greet), true) | LR.done z => some z)
noncomputable def impl_BothOpen (a0 : Greet) : Option (Bool × Bool) :=
  (impl_GoodGreet a0).bind fun b6 => (bif (!b6) then some (false, false) else (bif (a0.StateA == 2) then (bif (a0.StateB == 2) then (bif (a0.X == a0.OfX) then some ((a0.Y == a0.OfY), true) else some (false, true)) else some (false, true)) else some (false, true)))
noncomputable def laws_FnOpened_l0 (b11 : Greet) (x : (Int)) : Option (LR (Int) (LR Unit (LR Unit (Bool)))) :=
  match x with
  | (x71) => (bif (decide (x71 < (b11.OpenedB.length : Int))) then (idx b11.OpenedB x71).bind fun b85 => (impl_HasHello b11.OpenedA b85).bind fun (b91, b92) => (slc b11.OpenedB 0 x71).bind fun x94 => (impl_HasHello x94 b85).bind fun (b97, b98) => ((bif (!b92) then some (true) else (bif (!b91) then some (true) else (bif (!b98) then some (true) else some (b97))))).bind fun x100 => (bif x100 then some (LR.done (LR.done (LR.done false))) else some (LR.next ((IntKind.i64.wrap (x71 + 1))))) else some (LR.done (LR.next ())))
noncomputable def laws_FnOpened_l1 (b130 : Hello) (x135 : List Hello) (x : (Int)) : Option (LR (Int) (LR Unit (LR (Int) (LR Unit (LR Unit (Bool)))))) :=
  match x with
  | (x137) => (bif (decide (x137 < (x135.length : Int))) then (idx x135 x137).bind fun b151 => ((bif (b130.X == b151.X) then some (true) else some ((b130.Y == b151.Y)))).bind fun x156 => (bif x156 then some (LR.done (LR.done (LR.done (LR.done (LR.done false))))) else some (LR.next ((IntKind.i64.wrap (x137 + 1))))) else some (LR.done (LR.next ())))
noncomputable def laws_FnOpened_l2 (b11 : Greet) (x : (Int)) : Option (LR (Int) (LR Unit (LR Unit (Bool)))) :=
  match x with
  | (x116) => (bif (decide (x116 < (b11.OpenedA.length : Int))) then (idx b11.OpenedA x116).bind fun b130 => (slc b11.OpenedA 0 x116).bind fun x135 => (whl (laws_FnOpened_l1 b130 x135) (0)).bind fun y => match y with | LR.next () => some (LR.next ((IntKind.i64.wrap (x116 + 1)))) | LR.done z => some z else some (LR.done (LR.next ())))
noncomputable def laws_FnOpened (a0 : List Int) : Option (Bool) :=
  (bif (decide (1048576 < (a0.length : Int))) then some true else (spec_DrawPlayGreet a0).bind fun b6 => (impl_PlayGreet b6).bind fun (b11, b12, b13) => (spec_PlayGreet b6).bind fun (b30, b31, b32) => ((bif (!(b13 == b32)) then some (true) else (laws_sameBools b12 b31).bind fun b54 => (bif (!b54) then some (true) else (laws_sameGreets b11 b30).bind fun b55 => some ((!b55))))).bind fun x49 => (bif x49 then some false else ((bif b13 then (impl_GoodGreet b11).bind fun b65 => (bif (!b65) then some (LR.done false) else (whl (laws_FnOpened_l0 b11) (0)).bind fun y => match y with | LR.next () => ((whl (laws_FnOpened_l2 b11) (0)).bind fun y => match y with | LR.next () => (impl_SettleGreet b11).bind fun (b178, b179) => (impl_BothOpen b178).bind fun (b193, b194) => ((bif (!b179) then some (true) else (bif (!b194) then some (true) else (bif (!b193) then some (true) else (bif (b178.LastX != (IntKind.i64.wrap (b11.LastX + 1))) then some (true) else some ((b178.LastY != (IntKind.i64.wrap (b11.LastY + 1))))))))).bind fun x196 => (bif x196 then some (LR.done false) else some (LR.next ())) | LR.done z => some z) | LR.done z => some z) else some (LR.next ()))).bind fun y => match y with | LR.next () => some true | LR.done z => some z))
noncomputable def spec_l1Cur_chores_l0 (x : ((List Int) × Int × (List Int) × Int × Int)) : Option (LR ((List Int) × Int × (List Int) × Int × Int) ((List Int) × (List Int) × Int × Int)) :=
  match x with
  | (x24, x27, x28, x29, x30) => (bif (decide (0 < x27)) then (spec_l1Cur_pick (⟨x28, x29, x30⟩ : L1Cur) 12).bind fun (b49, b50) => (app 8 x24 ([(IntKind.i64.wrap (1 + b49))] : List Int)).bind fun x53 => some (LR.next (x53, (IntKind.i64.wrap (x27 - 1)), b50.Code, b50.At, b50.Seed)) else some (LR.done (x24, x28, x29, x30)))
noncomputable def spec_l1Cur_chores (a0 : L1Cur) : Option (List Int × Int × L1Cur) :=
  (spec_l1Cur_pick a0 7).bind fun (b5, b6) => (spec_l1Cur_one b6 20).bind fun (b10, b11) => ((bif b10 then (spec_l1Cur_pick b11 2).bind fun (b21, b22) => some ((IntKind.i64.wrap (8 + b21)), b22.Code, b22.At, b22.Seed) else some (b5, b11.Code, b11.At, b11.Seed))).bind fun (x12, x13, x14, x15) => (whl (spec_l1Cur_chores_l0) ([], x12, x13, x14, x15)).bind fun (x31, x33, x34, x35) => ((bif (decide (0 < (x31.length : Int))) then (spec_l1Cur_one (⟨x33, x34, x35⟩ : L1Cur) 30).bind fun (b69, b70) => some (b69, b70.Code, b70.At, b70.Seed) else some (false, x33, x34, x35))).bind fun (x60, x61, x62, x63) => ((bif x60 then (spec_l1Cur_among (⟨x61, x62, x63⟩ : L1Cur) ([0, 50, 51] : List Int)).bind fun (b82, b83) => (idx x31 0).bind fun _b84 => some ((x31.set (0 : Int).toNat b82), b83.Code, b83.At, b83.Seed) else some (x31, x61, x62, x63))).bind fun (x71, x72, x73, x74) => (spec_l1Cur_among (⟨x72, x73, x74⟩ : L1Cur) ([0, 1, 2, 2, 3, 3, 4, 5] : List Int)).bind fun (b90, b91) => some (x71, b90, b91)
noncomputable def spec_DrawSpanOf_l0 (b7 : List Int) (b8 : Int) (x : ((List Int) × Int × (List Int) × Int × Int)) : Option (LR ((List Int) × Int × (List Int) × Int × Int) ((List Int) × (List Int) × Int × Int)) :=
  match x with
  | (x15, x18, x19, x20, x21) => (bif (decide (x18 < (b7.length : Int))) then (spec_l1Most 1 b8).bind fun b39 => (spec_l1Cur_pick (⟨x19, x20, x21⟩ : L1Cur) b39).bind fun (b41, b42) => (app 8 x15 ([b41] : List Int)).bind fun x45 => some (LR.next (x45, (IntKind.i64.wrap (x18 + 1)), b42.Code, b42.At, b42.Seed)) else some (LR.done (x15, x19, x20, x21)))
noncomputable def spec_DrawSpanOf (a0 : List Int) : Option (List Int × Int × List Int) :=
  (spec_l1Cur_chores (⟨a0, 0, 0⟩ : L1Cur)).bind fun (b7, b8, b9) => (whl (spec_DrawSpanOf_l0 b7 b8) ([], 0, b9.Code, b9.At, b9.Seed)).bind fun (x22, x24, x25, x26) => ((bif (decide (0 < (x22.length : Int))) then (spec_l1Cur_one (⟨x24, x25, x26⟩ : L1Cur) 20).bind fun (b61, b62) => some (b61, b62.Code, b62.At, b62.Seed) else some (false, x24, x25, x26))).bind fun (x52, x53, x54, x55) => ((bif x52 then (spec_l1Cur_pick (⟨x53, x54, x55⟩ : L1Cur) 7).bind fun (b69, _b70) => (idx x22 0).bind fun _b71 => some ((x22.set (0 : Int).toNat (IntKind.i64.wrap (b69 - 1)))) else some (x22))).bind fun x63 => some (b7, b8, x63)
noncomputable def impl_GoodChores_1 (a0 : Int) : Option (Bool) :=
  (impl_in a0 1 50).bind fun b3 => some (!b3)
noncomputable def impl_GoodChores (a0 : List Int) (a1 : Int) : Option (Bool) :=
  (bif (decide ((a0.length : Int) ≤ 8)) then (slices_ContainsFunc_int a0 impl_GoodChores_1).bind fun b3 => (bif (!b3) then (impl_in a1 1 4).bind fun b4 => some b4 else some false) else some false)
noncomputable def impl_SpanOf_1 (a0 : Int) (a1 : Int) : Option (Bool) :=
  (impl_in a0 0 (IntKind.i64.wrap (a1 - 1))).bind fun b3 => some (!b3)
noncomputable def impl_loads_l0 (a0 : List Int) (a2 : List Int) (x : ((List Int) × Int)) : Option (LR ((List Int) × Int) ((List Int))) :=
  match x with
  | (x8, x9) => (bif (decide (x9 < (a0.length : Int))) then (idx a0 x9).bind fun b24 => (idx a2 x9).bind fun b25 => (idx x8 b25).bind fun b26 => (idx x8 b25).bind fun _b28 => some (LR.next ((x8.set b25.toNat (IntKind.i64.wrap (b26 + b24))), (IntKind.i64.wrap (x9 + 1)))) else some (LR.done (x8)))
noncomputable def impl_loads (a0 : List Int) (a1 : Int) (a2 : List Int) : Option (List Int) :=
  (mkL 8 a1 (0 : Int)).bind fun x5 => (whl (impl_loads_l0 a0 a2) (x5, 0)).bind fun x10 => some x10
noncomputable def slices_Max_int_l0 (a0 : List Int) (x : (Int × Int)) : Option (LR (Int × Int) (Int)) :=
  match x with
  | (x12, x13) => (bif (decide (x13 < (a0.length : Int))) then (idx a0 x13).bind fun b27 => some (LR.next ((if b27 > x12 then b27 else x12), (IntKind.i64.wrap (x13 + 1)))) else some (LR.done (x12)))
noncomputable def slices_Max_int (a0 : List Int) : Option (Int) :=
  ((bif (decide ((a0.length : Int) < 1)) then none else some ())).bind fun _ => (idx a0 0).bind fun b9 => (whl (slices_Max_int_l0 a0) (b9, 1)).bind fun x14 => some x14
noncomputable def impl_SpanOf (a0 : List Int) (a1 : Int) (a2 : List Int) : Option (Int × Bool) :=
  ((impl_GoodChores a0 a1).bind fun b11 => (bif (!b11) then some (true) else (bif ((a2.length : Int) != (a0.length : Int)) then some (true) else (slices_ContainsFunc_int a2 (fun y0 => impl_SpanOf_1 y0 a1)).bind fun b12 => some (b12)))).bind fun x6 => (bif x6 then some (0, false) else (impl_loads a0 a1 a2).bind fun b15 => (slices_Max_int b15).bind fun b18 => some (b18, true))
noncomputable def spec_GoodChores (a0 : List Int) (a1 : Int) : Option (Bool) :=
  (bif (decide ((a0.length : Int) ≤ 8)) then (spec_l1All a0 1 50).bind fun b3 => (bif b3 then (spec_l1In a1 1 4).bind fun b4 => some b4 else some false) else some false)
noncomputable def spec_l14Span_l0 (a0 : List Int) (a2 : List Int) (x : ((List Int) × Int × Int)) : Option (LR ((List Int) × Int × Int) (Int)) :=
  match x with
  | (x9, x10, x11) => (bif (decide (x11 < (a2.length : Int))) then (idx a2 x11).bind fun b26 => (idx x9 b26).bind fun b28 => (idx a0 x11).bind fun b30 => (idx x9 b26).bind fun _b31 => (idx (x9.set b26.toNat (IntKind.i64.wrap (b28 + b30))) b26).bind fun b33 => (spec_l1Most x10 b33).bind fun b35 => some (LR.next ((x9.set b26.toNat (IntKind.i64.wrap (b28 + b30))), b35, (IntKind.i64.wrap (x11 + 1)))) else some (LR.done (x10)))
noncomputable def spec_l14Span (a0 : List Int) (a1 : Int) (a2 : List Int) : Option (Int) :=
  (mkL 8 a1 (0 : Int)).bind fun x5 => (whl (spec_l14Span_l0 a0 a2) (x5, 0, 0)).bind fun x12 => some x12
noncomputable def spec_SpanOf (a0 : List Int) (a1 : Int) (a2 : List Int) : Option (Int × Bool) :=
  ((spec_GoodChores a0 a1).bind fun b9 => (bif (!b9) then some (true) else (bif ((a2.length : Int) != (a0.length : Int)) then some (true) else (spec_l1All a2 0 (IntKind.i64.wrap (a1 - 1))).bind fun b10 => some ((!b10))))).bind fun x4 => (bif x4 then some (0, false) else (spec_l14Span a0 a1 a2).bind fun b13 => some (b13, true))
noncomputable def impl_inOrder_l0 (a0 : List Int) (x : ((List Int) × Int)) : Option (LR ((List Int) × Int) ((List Int))) :=
  match x with
  | (x5, x8) => (bif (decide (x8 < (a0.length : Int))) then (app 8 x5 ([x8] : List Int)).bind fun x26 => some (LR.next (x26, (IntKind.i64.wrap (x8 + 1)))) else some (LR.done (x5)))
noncomputable def impl_inOrder (a0 : List Int) : Option (List Int) :=
  (whl (impl_inOrder_l0 a0) ([], 0)).bind fun x9 => some x9
noncomputable def slices_Min_int_l0 (a0 : List Int) (x : (Int × Int)) : Option (LR (Int × Int) (Int)) :=
  match x with
  | (x12, x13) => (bif (decide (x13 < (a0.length : Int))) then (idx a0 x13).bind fun b27 => some (LR.next ((if b27 < x12 then b27 else x12), (IntKind.i64.wrap (x13 + 1)))) else some (LR.done (x12)))
noncomputable def slices_Min_int (a0 : List Int) : Option (Int) :=
  ((bif (decide ((a0.length : Int) < 1)) then none else some ())).bind fun _ => (idx a0 0).bind fun b9 => (whl (slices_Min_int_l0 a0) (b9, 1)).bind fun x14 => some x14
noncomputable def impl_give_l0 (a0 : List Int) (a2 : List Int) (x : ((List Int) × (List Int) × Int)) : Option (LR ((List Int) × (List Int) × Int) ((List Int) × (List Int))) :=
  match x with
  | (x11, x12, x13) => (bif (decide (x13 < (a2.length : Int))) then (idx a2 x13).bind fun b29 => (slices_Min_int x12).bind fun b31 => (slices_Index_int x12 b31).bind fun b32 => (idx x11 b29).bind fun _b34 => (idx x12 b32).bind fun b36 => (idx a0 b29).bind fun b38 => (idx x12 b32).bind fun _b39 => some (LR.next ((x11.set b29.toNat b32), (x12.set b32.toNat (IntKind.i64.wrap (b36 + b38))), (IntKind.i64.wrap (x13 + 1)))) else some (LR.done (x11, x12)))
noncomputable def impl_give (a0 : List Int) (a1 : Int) (a2 : List Int) : Option (List Int × Int × Bool) :=
  (mkL 8 (a0.length : Int) (0 : Int)).bind fun x5 => (mkL 8 a1 (0 : Int)).bind fun x8 => (whl (impl_give_l0 a0 a2) (x5, x8, 0)).bind fun (x14, x15) => (slices_Max_int x15).bind fun b44 => some (x14, b44, true)
noncomputable def impl_GiveInOrder (a0 : List Int) (a1 : Int) : Option (List Int × Int × Bool) :=
  (impl_GoodChores a0 a1).bind fun b4 => (bif (!b4) then some ([], 0, false) else (impl_inOrder a0).bind fun b7 => (impl_give a0 a1 b7).bind fun (b11, b12, b13) => some (b11, b12, b13))
noncomputable def spec_l14Give_l0 (x12 : List Int) (x : (Int × Int)) : Option (LR (Int × Int) (Int)) :=
  match x with
  | (x33, x34) => (bif (decide (x34 < (x12.length : Int))) then ((idx x12 x34).bind fun b54 => (idx x12 x33).bind fun b56 => ((bif (decide (b54 < b56)) then some (x34) else some (x33))).bind fun x58 => some (x58)).bind fun x48 => some (LR.next (x48, (IntKind.i64.wrap (x34 + 1)))) else some (LR.done (x33)))
noncomputable def spec_l14Give_l1 (a0 : List Int) (a2 : List Int) (x : ((List Int) × (List Int) × Int)) : Option (LR ((List Int) × (List Int) × Int) ((List Int))) :=
  match x with
  | (x12, x13, x14) => (bif (decide (x14 < (a2.length : Int))) then (idx a2 x14).bind fun b29 => (whl (spec_l14Give_l0 x12) (0, 0)).bind fun x35 => (idx x12 x35).bind fun b66 => (idx a0 b29).bind fun b68 => (idx x12 x35).bind fun _b69 => (idx x13 b29).bind fun _b71 => some (LR.next ((x12.set x35.toNat (IntKind.i64.wrap (b66 + b68))), (x13.set b29.toNat x35), (IntKind.i64.wrap (x14 + 1)))) else some (LR.done (x13)))
noncomputable def spec_l14Give (a0 : List Int) (a1 : Int) (a2 : List Int) : Option (List Int) :=
  (mkL 8 a1 (0 : Int)).bind fun x5 => (mkL 8 (a0.length : Int) (0 : Int)).bind fun x9 => (whl (spec_l14Give_l1 a0 a2) (x5, x9, 0)).bind fun x15 => some x15
noncomputable def spec_GiveInOrder_l0 (a0 : List Int) (x : ((List Int) × Int)) : Option (LR ((List Int) × Int) ((List Int))) :=
  match x with
  | (x9, x12) => (bif (decide (x12 < (a0.length : Int))) then (app 8 x9 ([x12] : List Int)).bind fun x30 => some (LR.next (x30, (IntKind.i64.wrap (x12 + 1)))) else some (LR.done (x9)))
noncomputable def spec_GiveInOrder (a0 : List Int) (a1 : Int) : Option (List Int × Int × Bool) :=
  (spec_GoodChores a0 a1).bind fun b4 => (bif (!b4) then some ([], 0, false) else (whl (spec_GiveInOrder_l0 a0) ([], 0)).bind fun x13 => (spec_l14Give a0 a1 x13).bind fun b36 => (spec_l14Span a0 a1 b36).bind fun b41 => some (b36, b41, true))
noncomputable def impl_GiveLongest_1 (a0 : Int) (a1 : Int) (a2 : List Int) : Option (Int) :=
  (idx a2 a1).bind fun b3 => (idx a2 a0).bind fun b4 => some (IntKind.i64.wrap (b3 - b4))
noncomputable def impl_GiveLongest (a0 : List Int) (a1 : Int) : Option (List Int × Int × Bool) :=
  (impl_GoodChores a0 a1).bind fun b6 => (bif (!b6) then some ([], 0, false) else (impl_inOrder a0).bind fun b9 => (slices_SortStableFunc_int b9 (fun y0 y1 => impl_GiveLongest_1 y0 y1 a0)).bind fun b13 => (impl_give a0 a1 b13).bind fun (b16, b17, b18) => some (b16, b17, b18))
noncomputable def spec_GiveLongest_l0 (a0 : List Int) (x9 : List Int) (b28 : Int) (x : (Int)) : Option (LR (Int) (Int)) :=
  match x with
  | (x31) => ((bif (decide (x31 < (x9.length : Int))) then (idx x9 x31).bind fun b48 => (idx a0 b48).bind fun b50 => some ((decide (b28 ≤ b50))) else some (false))).bind fun x43 => (bif x43 then some (LR.next ((IntKind.i64.wrap (x31 + 1)))) else some (LR.done (x31)))
noncomputable def spec_GiveLongest_l1 (a0 : List Int) (x : ((List Int) × Int)) : Option (LR ((List Int) × Int) ((List Int))) :=
  match x with
  | (x9, x12) => (bif (decide (x12 < (a0.length : Int))) then (idx a0 x12).bind fun b28 => (whl (spec_GiveLongest_l0 a0 x9 b28) (0)).bind fun x32 => (slc x9 0 x32).bind fun x55 => (app 8 ([] : List Int) x55).bind fun x58 => (app 8 x58 ([x12] : List Int)).bind fun x64 => (slc x9 x32 (x9.length : Int)).bind fun x67 => (app 8 x64 x67).bind fun x70 => some (LR.next (x70, (IntKind.i64.wrap (x12 + 1)))) else some (LR.done (x9)))
noncomputable def spec_GiveLongest (a0 : List Int) (a1 : Int) : Option (List Int × Int × Bool) :=
  (spec_GoodChores a0 a1).bind fun b4 => (bif (!b4) then some ([], 0, false) else (whl (spec_GiveLongest_l1 a0) ([], 0)).bind fun x13 => (spec_l14Give a0 a1 x13).bind fun b76 => (spec_l14Span a0 a1 b76).bind fun b81 => some (b76, b81, true))
noncomputable def spec_DrawLateMany (a0 : List Int) : Option (List Task × List Int) :=
  (spec_DrawLatenessOf a0).bind fun (b4, b5) => some (b4, b5)
noncomputable def impl_lateMany_l0 (a0 : List Task) (a1 : List Int) (b3 : List Int) (x : (Int × Int)) : Option (LR (Int × Int) (Int)) :=
  match x with
  | (x8, x9) => (bif (decide (x9 < (a1.length : Int))) then ((idx a1 x9).bind fun b28 => (idx b3 b28).bind fun b30 => (idx a0 b28).bind fun b32 => ((bif (decide (b32.End < b30)) then some ((IntKind.i64.wrap (x8 + 1))) else some (x8))).bind fun x33 => some (x33)).bind fun x23 => some (LR.next (x23, (IntKind.i64.wrap (x9 + 1)))) else some (LR.done (x8)))
noncomputable def impl_lateMany (a0 : List Task) (a1 : List Int) : Option (Int) :=
  (impl_completions a0 a1).bind fun b3 => (whl (impl_lateMany_l0 a0 a1 b3) (0, 0)).bind fun x10 => some x10
noncomputable def impl_LateMany (a0 : List Task) (a1 : List Int) : Option (Int × Bool) :=
  ((impl_GoodTasks a0).bind fun b9 => (bif (!b9) then some (true) else (impl_isOrder a1 (a0.length : Int)).bind fun b10 => some ((!b10)))).bind fun x4 => (bif x4 then some (0, false) else (impl_lateMany a0 a1).bind fun b13 => some (b13, true))
noncomputable def spec_l1Bit (a0 : Bool) : Option (Int) :=
  (bif a0 then some 1 else some 0)
noncomputable def spec_l5Late_l0 (a0 : List Task) (b5 : List Int) (x : (Int × Int)) : Option (LR (Int × Int) (Int)) :=
  match x with
  | (x8, x9) => (bif (decide (x9 < (b5.length : Int))) then (idx b5 x9).bind fun b24 => (idx a0 x9).bind fun b26 => (spec_l1Bit (decide (b26.End < b24))).bind fun b27 => some (LR.next ((IntKind.i64.wrap (x8 + b27)), (IntKind.i64.wrap (x9 + 1)))) else some (LR.done (x8)))
noncomputable def spec_l5Late (a0 : List Task) (a1 : List Int) : Option (Int) :=
  (spec_l5Done a0 a1).bind fun b5 => (whl (spec_l5Late_l0 a0 b5) (0, 0)).bind fun x10 => some x10
noncomputable def spec_LateMany (a0 : List Task) (a1 : List Int) : Option (Int × Bool) :=
  (spec_l5Both a0 a1).bind fun b4 => (bif (!b4) then some (0, false) else (spec_l5Late a0 a1).bind fun b7 => some (b7, true))
noncomputable def slices_Delete_int (a0 : List Int) (a1 : Int) (a2 : Int) : Option (List Int) :=
  (slc a0 a1 a2).bind fun _x3 => (bif (a1 == a2) then some a0 else (slc a0 0 a1).bind fun x10 => (slc a0 a2 (a0.length : Int)).bind fun x12 => (app 8 x10 x12).bind fun x14 => some x14)
noncomputable def impl_moore_l0 (a0 : List Task) (x48 : List Int) (x : (Int × Int)) : Option (LR (Int × Int) (Int)) :=
  match x with
  | (x59, x60) => (bif (decide (x60 < (x48.length : Int))) then ((idx x48 x60).bind fun b79 => (idx a0 b79).bind fun b82 => (idx x48 x59).bind fun b83 => (idx a0 b83).bind fun b85 => ((bif (decide (b85.Need < b82.Need)) then some (x60) else some (x59))).bind fun x86 => some (x86)).bind fun x74 => some (LR.next (x74, (IntKind.i64.wrap (x60 + 1)))) else some (LR.done (x59)))
noncomputable def impl_moore_l1 (a0 : List Task) (b5 : List Int) (x : ((List Int) × (List Int) × Int × Int)) : Option (LR ((List Int) × (List Int) × Int × Int) ((List Int) × (List Int))) :=
  match x with
  | (x8, x11, x14, x15) => (bif (decide (x15 < (b5.length : Int))) then ((idx b5 x15).bind fun b43 => (app 8 x8 ([b43] : List Int)).bind fun x48 => (idx a0 b43).bind fun b53 => (idx a0 b43).bind fun b55 => (bif (decide ((IntKind.i64.wrap (x14 + b53.Need)) ≤ b55.End)) then some (x48, x11, (IntKind.i64.wrap (x14 + b53.Need))) else (whl (impl_moore_l0 a0 x48) (0, 0)).bind fun x61 => (idx x48 x61).bind fun b94 => (idx a0 b94).bind fun b96 => (idx x48 x61).bind fun b98 => (app 8 x11 ([b98] : List Int)).bind fun x102 => (slices_Delete_int x48 x61 (IntKind.i64.wrap (x61 + 1))).bind fun b105 => some (b105, x102, (IntKind.i64.wrap ((IntKind.i64.wrap (x14 + b53.Need)) - b96.Need))))).bind fun (x32, x35, x38) => some (LR.next (x32, x35, x38, (IntKind.i64.wrap (x15 + 1)))) else some (LR.done (x8, x11)))
noncomputable def impl_moore (a0 : List Task) : Option (List Int × Int) :=
  (impl_byEnd a0).bind fun b5 => (whl (impl_moore_l1 a0 b5) ([], [], 0, 0)).bind fun (x16, x18) => (app 8 x16 x18).bind fun x111 => some (x111, (x16.length : Int))
noncomputable def impl_MooreOrder (a0 : List Task) : Option (List Int × Int × Bool) :=
  (impl_GoodTasks a0).bind fun b4 => (bif (!b4) then some ([], 0, false) else (impl_moore a0).bind fun (b8, b9) => some (b8, b9, true))
noncomputable def spec_l5Moore_l0 (a0 : List Task) (x49 : List Int) (x : (Int × Int)) : Option (LR (Int × Int) (Int)) :=
  match x with
  | (x60, x61) => (bif (decide (x61 < (x49.length : Int))) then ((idx x49 x61).bind fun b80 => (idx a0 b80).bind fun b83 => (idx x49 x60).bind fun b84 => (idx a0 b84).bind fun b86 => ((bif (decide (b86.Need < b83.Need)) then some (x61) else some (x60))).bind fun x87 => some (x87)).bind fun x75 => some (LR.next (x75, (IntKind.i64.wrap (x61 + 1)))) else some (LR.done (x60)))
noncomputable def spec_l5Moore_l1 (a0 : List Task) (b6 : List Int) (x : ((List Int) × (List Int) × Int × Int)) : Option (LR ((List Int) × (List Int) × Int × Int) ((List Int) × (List Int))) :=
  match x with
  | (x9, x12, x15, x16) => (bif (decide (x16 < (b6.length : Int))) then ((idx b6 x16).bind fun b44 => (app 8 x9 ([b44] : List Int)).bind fun x49 => (idx a0 b44).bind fun b53 => (idx a0 b44).bind fun b56 => (bif (decide ((IntKind.i64.wrap (x15 + b53.Need)) ≤ b56.End)) then some (x49, x12, (IntKind.i64.wrap (x15 + b53.Need))) else (whl (spec_l5Moore_l0 a0 x49) (0, 0)).bind fun x62 => (idx x49 x62).bind fun b95 => (idx a0 b95).bind fun b98 => (slc x49 0 x62).bind fun x100 => (app 8 ([] : List Int) x100).bind fun x103 => (slc x49 (IntKind.i64.wrap (x62 + 1)) (x49.length : Int)).bind fun x107 => (app 8 x103 x107).bind fun x110 => (app 8 x12 ([b95] : List Int)).bind fun x115 => some (x110, x115, (IntKind.i64.wrap ((IntKind.i64.wrap (x15 + b53.Need)) - b98.Need))))).bind fun (x33, x36, x39) => some (LR.next (x33, x36, x39, (IntKind.i64.wrap (x16 + 1)))) else some (LR.done (x9, x12)))
noncomputable def spec_l5Moore (a0 : List Task) : Option (List Int × List Int) :=
  (spec_l5ByEnd a0).bind fun b6 => (whl (spec_l5Moore_l1 a0 b6) ([], [], 0, 0)).bind fun (x17, x19) => some (x17, x19)
noncomputable def spec_MooreOrder (a0 : List Task) : Option (List Int × Int × Bool) :=
  (spec_GoodTasks a0).bind fun b4 => (bif (!b4) then some ([], 0, false) else (spec_l5Moore a0).bind fun (b8, b9) => (app 8 ([] : List Int) b8).bind fun x16 => (app 8 x16 b9).bind fun x19 => some (x19, (b8.length : Int), true))
noncomputable def impl_BestMany (a0 : List Task) : Option (Int × Bool) :=
  (impl_GoodTasks a0).bind fun b4 => (bif (!b4) then some (0, false) else (impl_moore a0).bind fun (_b8, b9) => some (b9, true))
noncomputable def spec_BestMany_l0 (a0 : List Task) (b7 : List Int) (x14 : Int) (x : (Int × Int × Bool × Int)) : Option (LR (Int × Int × Bool × Int) (Int × Bool)) :=
  match x with
  | (x38, x39, x40, x41) => (bif (decide (x41 < (b7.length : Int))) then ((idx b7 x41).bind fun b63 => (sr .i64 x14 (IntKind.u64.wrap b63)).bind fun x66 => ((bif ((andL .i64 x66 1) == 1) then (idx a0 b63).bind fun b76 => ((bif x40 then (idx a0 b63).bind fun b82 => some ((decide ((IntKind.i64.wrap (x39 + b76.Need)) ≤ b82.End))) else some (false))).bind fun x77 => some ((IntKind.i64.wrap (x38 + 1)), (IntKind.i64.wrap (x39 + b76.Need)), x77) else some (x38, x39, x40))).bind fun (x67, x68, x69) => some (x67, x68, x69)).bind fun (x56, x57, x58) => some (LR.next (x56, x57, x58, (IntKind.i64.wrap (x41 + 1)))) else some (LR.done (x38, x40)))
noncomputable def spec_BestMany_l1 (a0 : List Task) (b7 : List Int) (x : (Int × Int)) : Option (LR (Int × Int) (Int)) :=
  match x with
  | (x13, x14) => (sl .i64 1 (IntKind.u64.wrap (a0.length : Int))).bind fun x26 => (bif (decide (x14 < x26)) then ((whl (spec_BestMany_l0 a0 b7 x14) (0, 0, true, 0)).bind fun (x42, x43) => ((bif x43 then some ((decide (x13 < x42))) else some (false))).bind fun x86 => ((bif x86 then some (x42) else some (x13))).bind fun x91 => some (x91)).bind fun x29 => some (LR.next (x29, (IntKind.i64.wrap (x14 + 1)))) else some (LR.done (x13)))
noncomputable def spec_BestMany (a0 : List Task) : Option (Int × Bool) :=
  (spec_GoodTasks a0).bind fun b4 => (bif (!b4) then some (0, false) else (spec_l5ByEnd a0).bind fun b7 => (whl (spec_BestMany_l1 a0 b7) (0, 0)).bind fun x15 => some (x15, true))
noncomputable def laws_FnMoore (a0 : List Int) (a1 : List Int) : Option (Bool) :=
  (bif (decide (1048576 < (IntKind.i64.wrap ((a0.length : Int) + (a1.length : Int))))) then some true else (spec_DrawLateMany a0).bind fun (b7, b8) => (impl_LateMany b7 b8).bind fun (b15, b16) => (spec_LateMany b7 b8).bind fun (b19, b20) => (impl_MooreOrder b7).bind fun (b23, b24, b25) => (spec_MooreOrder b7).bind fun (b31, b32, b33) => (impl_BestMany b7).bind fun (b39, b40) => (spec_BestMany b7).bind fun (b43, b44) => ((bif (!(b16 == b20)) then some (true) else (bif (b15 != b19) then some (true) else (bif (!(b25 == b33)) then some (true) else (bif (b24 != b32) then some (true) else (laws_sameInts b23 b31).bind fun b52 => (bif (!b52) then some (true) else (bif (!(b40 == b44)) then some (true) else (bif (b39 != b43) then some (true) else (impl_GoodTasks b7).bind fun b53 => some ((!(b53 == b33))))))))))).bind fun x47 => (bif x47 then some false else ((bif b25 then (impl_LateMany b7 b23).bind fun (b63, b64) => ((bif (!b40) then some (true) else (bif (b24 != b39) then some (true) else (bif (!b64) then some (true) else (bif (b63 != (IntKind.i64.wrap ((b7.length : Int) - b24))) then some (true) else (bif b16 then some ((decide (b15 < b63))) else some (false))))))).bind fun x66 => (bif x66 then some (LR.done false) else some (LR.next ())) else some (LR.next ()))).bind fun y => match y with | LR.next () => some (decide (0 ≤ (a1.length : Int))) | LR.done z => some z))
noncomputable def spec_l1Cur_court (a0 : L1Cur) : Option (Court × L1Cur) :=
  (spec_l1Cur_ends a0).bind fun (b6, b7) => (spec_l1Cur_courtSteps b7).bind fun (b11, b12) => (spec_PlayCourt b6 b11).bind fun (b16, _b17, b18) => ((bif (!b18) then (spec_NewCourt ([3] : List Int)).bind fun (b46, _b47) => some (b46.Now, b46.Cases, b46.Line) else some (b16.Now, b16.Cases, b16.Line))).bind fun (x32, x33, x36) => (spec_l1Cur_pick b12 30).bind fun (b57, b58) => (((bif (b57 == 0) then (spec_l1Cur_among b58 ([-1, 200, 201] : List Int)).bind fun (b86, b87) => some (b87.Code, b87.At, b87.Seed, b86, x33, x36) else ((bif (b57 == 1) then ((bif (decide (0 < (x33.length : Int))) then (spec_l1Cur_pick b58 4).bind fun (b110, b111) => (idx x33 0).bind fun b112 => some (b111.Code, b111.At, b111.Seed, (x33.set (0 : Int).toNat (⟨b112.End, b112.Asks, b110, b112.Said⟩ : Case))) else some (b58.Code, b58.At, b58.Seed, x33))).bind fun (x101, x102, x103, x104) => some (x101, x102, x103, x104, x36) else ((bif (b57 == 2) then (spec_l1Cur_pick b58 5).bind fun (b126, b127) => (spec_l1Cur_pick b127 3).bind fun (b129, b130) => (spec_l1Cur_pick b130 3).bind fun (b132, b133) => (app 24 x36 ([(⟨b126, b129, b132⟩ : Slip)] : List Slip)).bind fun x136 => some (b133.Code, b133.At, b133.Seed, x136) else some (b58.Code, b58.At, b58.Seed, x36))).bind fun (x115, x116, x117, x118) => some (x115, x116, x117, x33, x118))).bind fun (x89, x90, x91, x92, x93) => some (x89, x90, x91, x32, x92, x93))).bind fun (x71, x72, x73, x74, x75, x76) => some (x71, x72, x73, x74, x75, x76)).bind fun (x60, x61, x62, x63, x64, x65) => some ((⟨x63, x64, x65⟩ : Court), (⟨x60, x61, x62⟩ : L1Cur))
noncomputable def spec_DrawStepCourt (a0 : List Int) : Option (Court × CourtStep) :=
  (spec_l1Cur_court (⟨a0, 0, 0⟩ : L1Cur)).bind fun (b11, b12) => (spec_l1Cur_courtSteps b12).bind fun (b21, _b22) => (bif ((b21.length : Int) == 0) then some (b11, (⟨6, 0⟩ : CourtStep)) else (idx b21 0).bind fun b29 => some (b11, b29))
noncomputable def impl_StepCourt (a0 : Court) (a1 : CourtStep) : Option (Court × Bool) :=
  (impl_Court_copied a0).bind fun b9 => ((impl_GoodCourt a0).bind fun b28 => (bif (!b28) then some (true, b9.Now, b9.Cases, b9.Line) else (impl_Court_step b9 a1).bind fun (b30, b31) => some ((!b30), b31.Now, b31.Cases, b31.Line))).bind fun (x18, x19, x20, x22) => (bif x18 then some ((⟨0, [], []⟩ : Court), false) else some ((⟨x19, x20, x22⟩ : Court), true))
noncomputable def spec_l16Verdict (a0 : Int) : Option (Bool) :=
  (spec_l1In a0 0 2).bind fun b3 => some b3
noncomputable def spec_GoodCourt_l0 (a0 : Court) (x : (Int)) : Option (LR (Int) (LR Unit (Bool))) :=
  match x with
  | (x6) => (bif (decide (x6 < (a0.Cases.length : Int))) then (idx a0.Cases x6).bind fun b20 => ((spec_l1In b20.End 0 100).bind fun b29 => (bif (!b29) then some (true) else (spec_l16Verdict b20.Final).bind fun b30 => (bif (!b30) then some (true) else (spec_l16Verdict b20.Said).bind fun b31 => (bif (!b31) then some (true) else (bif (b20.Final != 0) then (bif (b20.Final != b20.Said) then some (true) else (bif (b20.Said == 0) then some ((decide (b20.End < a0.Now))) else some (false))) else (bif (b20.Said == 0) then some ((decide (b20.End < a0.Now))) else some (false))))))).bind fun x24 => (bif x24 then some (LR.done (LR.done false)) else some (LR.next ((IntKind.i64.wrap (x6 + 1))))) else some (LR.done (LR.next ())))
noncomputable def spec_GoodCourt_l1 (a0 : Court) (x : (Int)) : Option (LR (Int) (LR Unit (Bool))) :=
  match x with
  | (x41) => (bif (decide (x41 < (a0.Line.length : Int))) then (idx a0.Line x41).bind fun b55 => ((bif (decide (b55.Case < 0)) then some (true) else (bif (decide ((a0.Cases.length : Int) ≤ b55.Case)) then some (true) else (spec_l1In b55.Kind 1 3).bind fun b65 => some ((!b65))))).bind fun x60 => (bif x60 then some (LR.done (LR.done false)) else ((bif (b55.Kind == 3) then (bif (b55.What == 0) then some (true) else (idx a0.Cases b55.Case).bind fun b77 => (bif (b55.What != b77.Said) then some (true) else (bif (b55.Kind != 3) then some ((b55.What != 0)) else some (false)))) else (bif (b55.Kind != 3) then some ((b55.What != 0)) else some (false)))).bind fun x72 => (bif x72 then some (LR.done (LR.done false)) else some (LR.next ((IntKind.i64.wrap (x41 + 1)))))) else some (LR.done (LR.next ())))
noncomputable def spec_GoodCourt (a0 : Court) : Option (Bool) :=
  (whl (spec_GoodCourt_l0 a0) (0)).bind fun y => match y with | LR.next () => ((whl (spec_GoodCourt_l1 a0) (0)).bind fun y => match y with | LR.next () => (bif (decide ((a0.Cases.length : Int) ≤ 6)) then (spec_l1In a0.Now 0 200).bind fun b86 => (bif b86 then some (decide ((a0.Line.length : Int) ≤ 30)) else some false) else some false) | LR.done z => some z) | LR.done z => some z
noncomputable def spec_StepCourt (a0 : Court) (a1 : CourtStep) : Option (Court × Bool) :=
  (spec_GoodCourt a0).bind fun b10 => (bif (!b10) then some ((⟨0, [], []⟩ : Court), false) else (spec_l16Own a0).bind fun b13 => (spec_l16Step b13 a1).bind fun (b21, b22) => (bif (!b22) then some ((⟨0, [], []⟩ : Court), false) else (spec_l16Own b21).bind fun b33 => some (b33, true)))
noncomputable def spec_DrawGoodCourt (a0 : List Int) : Option (Court) :=
  (spec_l1Cur_court (⟨a0, 0, 0⟩ : L1Cur)).bind fun (b9, _b10) => some b9
noncomputable def spec_DrawSettleCourt (a0 : List Int) : Option (Court) :=
  (spec_DrawGoodCourt a0).bind fun b5 => some b5
noncomputable def spec_l16Open_l0 (a0 : Court) (x : (Int)) : Option (LR (Int) (LR Unit (Int))) :=
  match x with
  | (x6) => (bif (decide (x6 < (a0.Cases.length : Int))) then (idx a0.Cases x6).bind fun b20 => (bif (b20.Final == 0) then some (LR.done (LR.done x6)) else some (LR.next ((IntKind.i64.wrap (x6 + 1))))) else some (LR.done (LR.next ())))
noncomputable def spec_l16Open (a0 : Court) : Option (Int) :=
  (whl (spec_l16Open_l0 a0) (0)).bind fun y => match y with | LR.next () => some (-1) | LR.done z => some z
noncomputable def spec_SettleCourt_l0 (x : (Int × Int × Int × (List Case) × (List Slip))) : Option (LR (Int × Int × Int × (List Case) × (List Slip)) (Int × Int × (List Case) × (List Slip))) :=
  match x with
  | (x22, x23, x24, x25, x28) => (bif (decide (0 ≤ x23)) then (spec_l16Step (⟨x24, x25, ([] : List Slip)⟩ : Court) (⟨1, x23⟩ : CourtStep)).bind fun (b53, _b54) => (spec_l16Step b53 (⟨3, 0⟩ : CourtStep)).bind fun (b61, _b62) => (spec_l16Step b61 (⟨3, 0⟩ : CourtStep)).bind fun (b69, _b70) => (spec_l16Open b69).bind fun b75 => some (LR.next ((IntKind.i64.wrap (x22 + 1)), b75, b69.Now, b69.Cases, b69.Line)) else some (LR.done (x22, x24, x25, x28)))
noncomputable def spec_SettleCourt (a0 : Court) : Option (Court × Int × Bool) :=
  (spec_GoodCourt a0).bind fun b8 => (bif (!b8) then some ((⟨0, [], []⟩ : Court), 0, false) else (spec_l16Own a0).bind fun b11 => (spec_l16Open b11).bind fun b21 => (whl (spec_SettleCourt_l0) (0, b21, b11.Now, b11.Cases, b11.Line)).bind fun (x31, x32, x33, x35) => (spec_l16Own (⟨x32, x33, x35⟩ : Court)).bind fun b79 => some (b79, x31, true))
noncomputable def spec_IsSettled (a0 : Court) : Option (Bool × Bool) :=
  (spec_GoodCourt a0).bind fun b6 => (bif (!b6) then some (false, false) else (spec_l16Open a0).bind fun b9 => some ((decide (b9 < 0)), true))
noncomputable def spec_AgreesIn_l0 (a0 : Court) (x : (Int)) : Option (LR (Int) (LR Unit (Bool × Bool))) :=
  match x with
  | (x10) => (bif (decide (x10 < (a0.Cases.length : Int))) then (idx a0.Cases x10).bind fun b24 => ((bif (b24.Final != 0) then some ((b24.Final != b24.Said)) else some (false))).bind fun x28 => (bif x28 then some (LR.done (LR.done (false, true))) else some (LR.next ((IntKind.i64.wrap (x10 + 1))))) else some (LR.done (LR.next ())))
noncomputable def spec_AgreesIn (a0 : Court) : Option (Bool × Bool) :=
  (spec_GoodCourt a0).bind fun b6 => (bif (!b6) then some (false, false) else (whl (spec_AgreesIn_l0 a0) (0)).bind fun y => match y with | LR.next () => some (true, true) | LR.done z => some z)
noncomputable def spec_DrawNewCourt (a0 : List Int) : Option (List Int) :=
  (spec_l1Cur_one (⟨a0, 0, 0⟩ : L1Cur) 20).bind fun (b8, b9) => (bif b8 then (spec_l1Cur_pick b9 3).bind fun (b12, _b13) => (mkL 8 (IntKind.i64.wrap (5 + b12)) (0 : Int)).bind fun x16 => some x16 else (spec_l1Cur_ends b9).bind fun (b19, _b20) => some b19)
noncomputable def laws_FnCourts_l0 (b7 : Court) (b19 : Court) (x : (Int)) : Option (LR (Int) (LR Unit (LR Unit (Bool)))) :=
  match x with
  | (x70) => (bif (decide (x70 < (b7.Cases.length : Int))) then (idx b7.Cases x70).bind fun b84 => (idx b19.Cases x70).bind fun b89 => ((bif (b89.End != b84.End) then some (true) else (bif (b84.Said != 0) then (bif (b89.Said != b84.Said) then some (true) else (bif b84.Asks then some ((!b89.Asks)) else some (false))) else (bif b84.Asks then some ((!b89.Asks)) else some (false))))).bind fun x94 => (bif x94 then some (LR.done (LR.done (LR.done false))) else some (LR.next ((IntKind.i64.wrap (x70 + 1))))) else some (LR.done (LR.next ())))
noncomputable def laws_FnCourts (a0 : List Int) (a1 : List Int) : Option (Bool) :=
  (bif (decide (1048576 < (IntKind.i64.wrap ((a0.length : Int) + (a1.length : Int))))) then some true else (spec_DrawStepCourt a0).bind fun (b7, b8) => (impl_StepCourt b7 b8).bind fun (b19, b20) => (spec_StepCourt b7 b8).bind fun (b31, b32) => ((bif (!(b20 == b32)) then some (true) else (laws_sameCourts b19 b31).bind fun b48 => (bif (!b48) then some (true) else (impl_GoodCourt b7).bind fun b49 => (spec_GoodCourt b7).bind fun b50 => some ((!(b49 == b50)))))).bind fun x43 => (bif x43 then some false else ((bif b20 then ((impl_GoodCourt b19).bind fun b65 => (bif (!b65) then some (true) else (bif (decide (b19.Now < b7.Now)) then some (true) else some (((b19.Cases.length : Int) != (b7.Cases.length : Int)))))).bind fun x60 => (bif x60 then some (LR.done false) else (whl (laws_FnCourts_l0 b7 b19) (0)).bind fun y => match y with | LR.next () => some (LR.next ()) | LR.done z => some z) else some (LR.next ()))).bind fun y => match y with | LR.next () => (spec_DrawSettleCourt a1).bind fun b109 => (impl_SettleCourt b109).bind fun (b118, b119, b120) => (spec_SettleCourt b109).bind fun (b131, b132, b133) => (impl_IsSettled b109).bind fun (b144, b145) => (spec_IsSettled b109).bind fun (b148, b149) => (impl_AgreesIn b109).bind fun (b152, b153) => (spec_AgreesIn b109).bind fun (b156, b157) => (spec_DrawNewCourt a1).bind fun b159 => (impl_NewCourt b159).bind fun (b164, b165) => (spec_NewCourt b159).bind fun (b176, b177) => (bif (b120 == b133) then (bif (b119 == b132) then (laws_sameCourts b118 b131).bind fun b187 => (bif b187 then (bif (b145 == b149) then (bif (b144 == b148) then (bif (b153 == b157) then (bif (b152 == b156) then (bif (b165 == b177) then (laws_sameCourts b164 b176).bind fun b188 => some b188 else some false) else some false) else some false) else some false) else some false) else some false) else some false) else some false) | LR.done z => some z))
noncomputable def laws_szCaseS (a0 : List Case) (a1 : Int) : Option (Int) :=
  (bif (decide ((IntKind.i64.wrap (a1 - (a0.length : Int))) < 0)) then some (-1) else some (IntKind.i64.wrap (a1 - (a0.length : Int))))
noncomputable def laws_szSlipS (a0 : List Slip) (a1 : Int) : Option (Int) :=
  (bif (decide ((IntKind.i64.wrap (a1 - (a0.length : Int))) < 0)) then some (-1) else some (IntKind.i64.wrap (a1 - (a0.length : Int))))
noncomputable def laws_szCourt (a0 : Court) (a1 : Int) : Option (Int) :=
  (laws_szCaseS a0.Cases a1).bind fun b5 => (bif (decide (b5 < 0)) then some (-1) else (laws_szSlipS a0.Line b5).bind fun b10 => (bif (decide (b10 < 0)) then some (-1) else some b10))
noncomputable def laws_toCase (a0 : Case) : Option (Case) :=
  some a0
noncomputable def laws_toCaseS_l0 (a0 : List Case) (x : ((List Case) × Int)) : Option (LR ((List Case) × Int) ((List Case))) :=
  match x with
  | (x8, x9) => (bif (decide (x9 < (a0.length : Int))) then (idx a0 x9).bind fun b23 => (laws_toCase b23).bind fun b24 => (idx x8 x9).bind fun _b25 => some (LR.next ((x8.set x9.toNat b24), (IntKind.i64.wrap (x9 + 1)))) else some (LR.done (x8)))
noncomputable def laws_toCaseS (a0 : List Case) : Option (List Case) :=
  (mkL 32 (a0.length : Int) ((⟨0, false, 0, 0⟩ : Case) : Case)).bind fun x5 => (whl (laws_toCaseS_l0 a0) (x5, 0)).bind fun x10 => some x10
noncomputable def laws_toSlip (a0 : Slip) : Option (Slip) :=
  some a0
noncomputable def laws_toSlipS_l0 (a0 : List Slip) (x : ((List Slip) × Int)) : Option (LR ((List Slip) × Int) ((List Slip))) :=
  match x with
  | (x8, x9) => (bif (decide (x9 < (a0.length : Int))) then (idx a0 x9).bind fun b23 => (laws_toSlip b23).bind fun b24 => (idx x8 x9).bind fun _b25 => some (LR.next ((x8.set x9.toNat b24), (IntKind.i64.wrap (x9 + 1)))) else some (LR.done (x8)))
noncomputable def laws_toSlipS (a0 : List Slip) : Option (List Slip) :=
  (mkL 24 (a0.length : Int) ((⟨0, 0, 0⟩ : Slip) : Slip)).bind fun x5 => (whl (laws_toSlipS_l0 a0) (x5, 0)).bind fun x10 => some x10
noncomputable def laws_toCourt (a0 : Court) : Option (Court) :=
  (laws_toCaseS a0.Cases).bind fun b11 => (laws_toSlipS a0.Line).bind fun b15 => some (⟨a0.Now, b11, b15⟩ : Court)
noncomputable def laws_eqCase (a0 : Case) (a1 : Case) : Option (Bool) :=
  (bif (a0.End != a1.End) then some false else (bif (!(a0.Asks == a1.Asks)) then some false else (bif (a0.Final != a1.Final) then some false else (bif (a0.Said != a1.Said) then some false else some true))))
noncomputable def laws_eqCaseS_l0 (a0 : List Case) (a1 : List Case) (x : (Int)) : Option (LR (Int) (LR Unit (Bool))) :=
  match x with
  | (x7) => (bif (decide (x7 < (a0.length : Int))) then (idx a0 x7).bind fun b21 => (idx a1 x7).bind fun b22 => (laws_eqCase b21 b22).bind fun b23 => (bif (!b23) then some (LR.done (LR.done false)) else some (LR.next ((IntKind.i64.wrap (x7 + 1))))) else some (LR.done (LR.next ())))
noncomputable def laws_eqCaseS (a0 : List Case) (a1 : List Case) : Option (Bool) :=
  (bif ((a0.length : Int) != (a1.length : Int)) then some false else (whl (laws_eqCaseS_l0 a0 a1) (0)).bind fun y => match y with | LR.next () => some true | LR.done z => some z)
noncomputable def laws_eqSlip (a0 : Slip) (a1 : Slip) : Option (Bool) :=
  (bif (a0.Kind != a1.Kind) then some false else (bif (a0.Case != a1.Case) then some false else (bif (a0.What != a1.What) then some false else some true)))
noncomputable def laws_eqSlipS_l0 (a0 : List Slip) (a1 : List Slip) (x : (Int)) : Option (LR (Int) (LR Unit (Bool))) :=
  match x with
  | (x7) => (bif (decide (x7 < (a0.length : Int))) then (idx a0 x7).bind fun b21 => (idx a1 x7).bind fun b22 => (laws_eqSlip b21 b22).bind fun b23 => (bif (!b23) then some (LR.done (LR.done false)) else some (LR.next ((IntKind.i64.wrap (x7 + 1))))) else some (LR.done (LR.next ())))
noncomputable def laws_eqSlipS (a0 : List Slip) (a1 : List Slip) : Option (Bool) :=
  (bif ((a0.length : Int) != (a1.length : Int)) then some false else (whl (laws_eqSlipS_l0 a0 a1) (0)).bind fun y => match y with | LR.next () => some true | LR.done z => some z)
noncomputable def laws_eqCourt (a0 : Court) (a1 : Court) : Option (Bool) :=
  (bif (a0.Now != a1.Now) then some false else (laws_eqCaseS a0.Cases a1.Cases).bind fun b11 => (bif (!b11) then some false else (laws_eqSlipS a0.Line a1.Line).bind fun b15 => (bif (!b15) then some false else some true)))
noncomputable def laws_markCaseS_l0 (x : ((List Case) × Int × Int)) : Option (LR ((List Case) × Int × Int) (Int × (List Case))) :=
  match x with
  | (x4, x5, x6) => (bif (decide (x6 < (x4.length : Int))) then (idx x4 x6).bind fun b22 => (idx (x4.set x6.toNat (⟨x5, b22.Asks, b22.Final, b22.Said⟩ : Case)) x6).bind fun b26 => (idx ((x4.set x6.toNat (⟨x5, b22.Asks, b22.Final, b22.Said⟩ : Case)).set x6.toNat (⟨b26.End, ((Int.tmod (IntKind.i64.wrap (x5 + 1)) 3) == 0), b26.Final, b26.Said⟩ : Case)) x6).bind fun b30 => (idx (((x4.set x6.toNat (⟨x5, b22.Asks, b22.Final, b22.Said⟩ : Case)).set x6.toNat (⟨b26.End, ((Int.tmod (IntKind.i64.wrap (x5 + 1)) 3) == 0), b26.Final, b26.Said⟩ : Case)).set x6.toNat (⟨b30.End, b30.Asks, (IntKind.i64.wrap ((IntKind.i64.wrap (x5 + 1)) + 1)), b30.Said⟩ : Case)) x6).bind fun b34 => some (LR.next (((((x4.set x6.toNat (⟨x5, b22.Asks, b22.Final, b22.Said⟩ : Case)).set x6.toNat (⟨b26.End, ((Int.tmod (IntKind.i64.wrap (x5 + 1)) 3) == 0), b26.Final, b26.Said⟩ : Case)).set x6.toNat (⟨b30.End, b30.Asks, (IntKind.i64.wrap ((IntKind.i64.wrap (x5 + 1)) + 1)), b30.Said⟩ : Case)).set x6.toNat (⟨b34.End, b34.Asks, b34.Final, (IntKind.i64.wrap ((IntKind.i64.wrap ((IntKind.i64.wrap (x5 + 1)) + 1)) + 1))⟩ : Case)), (IntKind.i64.wrap ((IntKind.i64.wrap ((IntKind.i64.wrap ((IntKind.i64.wrap (x5 + 1)) + 1)) + 1)) + 1)), (IntKind.i64.wrap (x6 + 1)))) else some (LR.done (x5, x4)))
noncomputable def laws_markCaseS (a0 : List Case) (a1 : Int) : Option (Int × List Case) :=
  (whl (laws_markCaseS_l0) (a0, a1, 0)).bind fun (x7, x8) => some (x7, x8)
noncomputable def laws_markSlipS_l0 (x : ((List Slip) × Int × Int)) : Option (LR ((List Slip) × Int × Int) (Int × (List Slip))) :=
  match x with
  | (x4, x5, x6) => (bif (decide (x6 < (x4.length : Int))) then (idx x4 x6).bind fun b22 => (idx (x4.set x6.toNat (⟨x5, b22.Case, b22.What⟩ : Slip)) x6).bind fun b26 => (idx ((x4.set x6.toNat (⟨x5, b22.Case, b22.What⟩ : Slip)).set x6.toNat (⟨b26.Kind, (IntKind.i64.wrap (x5 + 1)), b26.What⟩ : Slip)) x6).bind fun b30 => some (LR.next ((((x4.set x6.toNat (⟨x5, b22.Case, b22.What⟩ : Slip)).set x6.toNat (⟨b26.Kind, (IntKind.i64.wrap (x5 + 1)), b26.What⟩ : Slip)).set x6.toNat (⟨b30.Kind, b30.Case, (IntKind.i64.wrap ((IntKind.i64.wrap (x5 + 1)) + 1))⟩ : Slip)), (IntKind.i64.wrap ((IntKind.i64.wrap ((IntKind.i64.wrap (x5 + 1)) + 1)) + 1)), (IntKind.i64.wrap (x6 + 1)))) else some (LR.done (x5, x4)))
noncomputable def laws_markSlipS (a0 : List Slip) (a1 : Int) : Option (Int × List Slip) :=
  (whl (laws_markSlipS_l0) (a0, a1, 0)).bind fun (x7, x8) => some (x7, x8)
noncomputable def laws_markCourt (a0 : Court) (a1 : Int) : Option (Int × List Case × List Slip) :=
  (laws_markCaseS a0.Cases a1).bind fun (b6, b7) => (laws_markSlipS a0.Line b6).bind fun (b10, b11) => some (b10, b7, b11)
noncomputable def laws_heldCaseS_l0 (a0 : List Case) (x : (Int × Int)) : Option (LR (Int × Int) (LR (Int) (Int))) :=
  match x with
  | (x4, x5) => (bif (decide (x5 < (a0.length : Int))) then (idx a0 x5).bind fun b21 => (bif (b21.End != x4) then some (LR.done (LR.done (-1))) else (idx a0 x5).bind fun b30 => (bif (!(b30.Asks == ((Int.tmod (IntKind.i64.wrap (x4 + 1)) 3) == 0))) then some (LR.done (LR.done (-1))) else (idx a0 x5).bind fun b39 => (bif (b39.Final != (IntKind.i64.wrap ((IntKind.i64.wrap (x4 + 1)) + 1))) then some (LR.done (LR.done (-1))) else (idx a0 x5).bind fun b48 => (bif (b48.Said != (IntKind.i64.wrap ((IntKind.i64.wrap ((IntKind.i64.wrap (x4 + 1)) + 1)) + 1))) then some (LR.done (LR.done (-1))) else some (LR.next ((IntKind.i64.wrap ((IntKind.i64.wrap ((IntKind.i64.wrap ((IntKind.i64.wrap (x4 + 1)) + 1)) + 1)) + 1)), (IntKind.i64.wrap (x5 + 1)))))))) else some (LR.done (LR.next (x4))))
noncomputable def laws_heldCaseS (a0 : List Case) (a1 : Int) : Option (Int) :=
  (whl (laws_heldCaseS_l0 a0) (a1, 0)).bind fun y => match y with | LR.next (x6) => some x6 | LR.done z => some z
noncomputable def laws_heldSlipS_l0 (a0 : List Slip) (x : (Int × Int)) : Option (LR (Int × Int) (LR (Int) (Int))) :=
  match x with
  | (x4, x5) => (bif (decide (x5 < (a0.length : Int))) then (idx a0 x5).bind fun b21 => (bif (b21.Kind != x4) then some (LR.done (LR.done (-1))) else (idx a0 x5).bind fun b30 => (bif (b30.Case != (IntKind.i64.wrap (x4 + 1))) then some (LR.done (LR.done (-1))) else (idx a0 x5).bind fun b39 => (bif (b39.What != (IntKind.i64.wrap ((IntKind.i64.wrap (x4 + 1)) + 1))) then some (LR.done (LR.done (-1))) else some (LR.next ((IntKind.i64.wrap ((IntKind.i64.wrap ((IntKind.i64.wrap (x4 + 1)) + 1)) + 1)), (IntKind.i64.wrap (x5 + 1))))))) else some (LR.done (LR.next (x4))))
noncomputable def laws_heldSlipS (a0 : List Slip) (a1 : Int) : Option (Int) :=
  (whl (laws_heldSlipS_l0 a0) (a1, 0)).bind fun y => match y with | LR.next (x6) => some x6 | LR.done z => some z
noncomputable def laws_heldCourt (a0 : Court) (a1 : Int) : Option (Int) :=
  (laws_heldCaseS a0.Cases a1).bind fun b5 => (bif (decide (b5 < 0)) then some (-1) else (laws_heldSlipS a0.Line b5).bind fun b10 => (bif (decide (b10 < 0)) then some (-1) else some b10))
noncomputable def laws_FnExactSettleCourt (a0 : Court) : Option (Bool) :=
  (laws_szCourt a0 1048576).bind fun b6 => (bif (decide (b6 < 0)) then some true else (laws_toCourt a0).bind fun b11 => (spec_SettleCourt b11).bind fun (b17, b18, b19) => (laws_toCourt a0).bind fun b29 => (impl_SettleCourt b29).bind fun (b38, b39, b40) => ((laws_eqCourt b38 b17).bind fun b56 => (bif (!b56) then some (true) else (bif (b39 != b18) then some (true) else some ((!(b40 == b19)))))).bind fun x51 => (bif x51 then some false else (laws_toCourt a0).bind fun b60 => (laws_eqCourt b29 b60).bind fun b63 => (bif (!b63) then some false else (laws_markCourt b29 1).bind fun (b68, _b69, _b70) => ((bif (decide (b68 < 0)) then some (true) else (laws_eqCourt b38 b17).bind fun b78 => (bif (!b78) then some (true) else (bif (b39 != b18) then some (true) else some ((!(b40 == b19))))))).bind fun x73 => (bif x73 then some false else (laws_markCourt b38 1).bind fun (b83, b84, b85) => (laws_heldCourt (⟨b38.Now, b84, b85⟩ : Court) 1).bind fun b88 => (bif (decide (b88 < 0)) then some false else (bif (b88 != b83) then some false else (laws_toCourt a0).bind fun b96 => (impl_SettleCourt b96).bind fun (b102, b103, b104) => ((laws_eqCourt b102 b17).bind fun b120 => (bif (!b120) then some (true) else (bif (b103 != b18) then some (true) else some ((!(b104 == b19)))))).bind fun x115 => (bif x115 then some false else (laws_heldCourt (⟨b38.Now, b84, b85⟩ : Court) 1).bind fun b124 => (bif (decide (b124 < 0)) then some false else (bif (b124 != b83) then some false else some true)))))))))
noncomputable def laws_szHelloS (a0 : List Hello) (a1 : Int) : Option (Int) :=
  (bif (decide ((IntKind.i64.wrap (a1 - (a0.length : Int))) < 0)) then some (-1) else some (IntKind.i64.wrap (a1 - (a0.length : Int))))
noncomputable def laws_szGreet (a0 : Greet) (a1 : Int) : Option (Int) :=
  (laws_szHelloS a0.Line a1).bind fun b5 => (bif (decide (b5 < 0)) then some (-1) else (laws_szHelloS a0.OpenedA b5).bind fun b10 => (bif (decide (b10 < 0)) then some (-1) else (laws_szHelloS a0.OpenedB b10).bind fun b15 => (bif (decide (b15 < 0)) then some (-1) else some b15)))
noncomputable def laws_toHello (a0 : Hello) : Option (Hello) :=
  some a0
noncomputable def laws_toHelloS_l0 (a0 : List Hello) (x : ((List Hello) × Int)) : Option (LR ((List Hello) × Int) ((List Hello))) :=
  match x with
  | (x8, x9) => (bif (decide (x9 < (a0.length : Int))) then (idx a0 x9).bind fun b23 => (laws_toHello b23).bind fun b24 => (idx x8 x9).bind fun _b25 => some (LR.next ((x8.set x9.toNat b24), (IntKind.i64.wrap (x9 + 1)))) else some (LR.done (x8)))
noncomputable def laws_toHelloS (a0 : List Hello) : Option (List Hello) :=
  (mkL 24 (a0.length : Int) ((⟨0, 0, 0⟩ : Hello) : Hello)).bind fun x5 => (whl (laws_toHelloS_l0 a0) (x5, 0)).bind fun x10 => some x10
noncomputable def laws_toGreet (a0 : Greet) : Option (Greet) :=
  (laws_toHelloS a0.Line).bind fun b18 => (laws_toHelloS a0.OpenedA).bind fun b22 => (laws_toHelloS a0.OpenedB).bind fun b26 => some (⟨a0.StateA, a0.StateB, a0.X, a0.Y, a0.OfX, a0.OfY, a0.LastX, a0.LastY, b18, b22, b26⟩ : Greet)
noncomputable def spec_l15Of (a0 : Int) (a1 : Int) (a2 : Bool) : Option (Bool) :=
  (bif a2 then some (a0 == 0) else (spec_l1In a0 1 a1).bind fun b6 => some b6)
noncomputable def spec_l15Letter (a0 : Greet) (a1 : Hello) : Option (Bool) :=
  (spec_l1In a1.Kind 1 3).bind fun b7 => (bif b7 then (spec_l15Of a1.X a0.LastX false).bind fun b8 => (bif b8 then (spec_l15Of a1.Y a0.LastY (a1.Kind == 1)).bind fun b9 => some b9 else some false) else some false)
noncomputable def spec_GoodGreet_l0 (a0 : Greet) (x : (Int)) : Option (LR (Int) (LR Unit (Bool))) :=
  match x with
  | (x30) => (bif (decide (x30 < (a0.Line.length : Int))) then (idx a0.Line x30).bind fun b44 => (spec_l15Letter a0 b44).bind fun b48 => (bif (!b48) then some (LR.done (LR.done false)) else some (LR.next ((IntKind.i64.wrap (x30 + 1))))) else some (LR.done (LR.next ())))
noncomputable def spec_GoodGreet_l1 (a0 : Greet) (x62 : List Hello) (x : (Int)) : Option (LR (Int) (LR Unit (Bool))) :=
  match x with
  | (x65) => (bif (decide (x65 < (x62.length : Int))) then (idx x62 x65).bind fun b79 => ((bif (b79.Kind != 3) then some (true) else (spec_l15Letter a0 b79).bind fun b89 => some ((!b89)))).bind fun x84 => (bif x84 then some (LR.done (LR.done false)) else some (LR.next ((IntKind.i64.wrap (x65 + 1))))) else some (LR.done (LR.next ())))
noncomputable def spec_GoodGreet (a0 : Greet) : Option (Bool) :=
  ((spec_l1In a0.StateA 0 2).bind fun b11 => (bif (!b11) then some (true) else (spec_l1In a0.StateB 0 2).bind fun b12 => (bif (!b12) then some (true) else (spec_l1In a0.LastX 0 1000).bind fun b13 => (bif (!b13) then some (true) else (spec_l1In a0.LastY 0 1000).bind fun b14 => (bif (!b14) then some (true) else (bif (decide (30 < (a0.Line.length : Int))) then some (true) else (bif (decide (300 < (a0.OpenedA.length : Int))) then some (true) else some ((decide (300 < (a0.OpenedB.length : Int))))))))))).bind fun x6 => (bif x6 then some false else ((spec_l15Of a0.X a0.LastX (a0.StateA == 0)).bind fun b23 => (bif (!b23) then some (true) else (spec_l15Of a0.OfY a0.LastY (decide (a0.StateA < 2))).bind fun b24 => (bif (!b24) then some (true) else (spec_l15Of a0.OfX a0.LastX (a0.StateB == 0)).bind fun b25 => (bif (!b25) then some (true) else (spec_l15Of a0.Y a0.LastY (a0.StateB == 0)).bind fun b26 => some ((!b26)))))).bind fun x18 => (bif x18 then some false else (whl (spec_GoodGreet_l0 a0) (0)).bind fun y => match y with | LR.next () => ((app 24 ([] : List Hello) a0.OpenedA).bind fun x59 => (app 24 x59 a0.OpenedB).bind fun x62 => (whl (spec_GoodGreet_l1 a0 x62) (0)).bind fun y => match y with | LR.next () => some true | LR.done z => some z) | LR.done z => some z))
noncomputable def spec_SettleGreet_l0 (x : (Int × Int × Int × Int × Int × Int × Int × Int × Int × (List Hello) × (List Hello) × (List Hello))) : Option (LR (Int × Int × Int × Int × Int × Int × Int × Int × Int × (List Hello) × (List Hello) × (List Hello)) (LR (Int × Int × Int × Int × Int × Int × Int × Int × (List Hello) × (List Hello) × (List Hello)) (Greet × Bool))) :=
  match x with
  | (x45, x46, x47, x48, x49, x50, x51, x52, x53, x54, x57, x60) => (bif (decide (x45 < (([1, 2, 2, 2] : List Int).length : Int))) then (idx ([1, 2, 2, 2] : List Int) x45).bind fun b90 => (spec_l15Step (⟨x46, x47, x48, x49, x50, x51, x52, x53, x54, x57, x60⟩ : Greet) (⟨b90, 0⟩ : GreetStep)).bind fun (b94, b95) => (bif (!b95) then some (LR.done (LR.done ((⟨0, 0, 0, 0, 0, 0, 0, 0, [], [], []⟩ : Greet), false))) else some (LR.next ((IntKind.i64.wrap (x45 + 1)), b94.StateA, b94.StateB, b94.X, b94.Y, b94.OfX, b94.OfY, b94.LastX, b94.LastY, b94.Line, b94.OpenedA, b94.OpenedB))) else some (LR.done (LR.next (x46, x47, x48, x49, x50, x51, x52, x53, x54, x57, x60))))
noncomputable def spec_SettleGreet (a0 : Greet) : Option (Greet × Bool) :=
  (spec_GoodGreet a0).bind fun b8 => (bif (!b8) then some ((⟨0, 0, 0, 0, 0, 0, 0, 0, [], [], []⟩ : Greet), false) else (spec_l15Own a0).bind fun b11 => (spec_l15Step b11 (⟨6, 0⟩ : GreetStep)).bind fun (b22, _b23) => (spec_l15Step b22 (⟨6, 1⟩ : GreetStep)).bind fun (b32, _b33) => (whl (spec_SettleGreet_l0) (0, b32.StateA, b32.StateB, b32.X, b32.Y, b32.OfX, b32.OfY, b32.LastX, b32.LastY, [], b32.OpenedA, b32.OpenedB)).bind fun y => match y with | LR.next (x63, x64, x65, x66, x67, x68, x69, x70, x71, x73, x75) => (spec_l15Own (⟨x63, x64, x65, x66, x67, x68, x69, x70, x71, x73, x75⟩ : Greet)).bind fun b114 => some (b114, true) | LR.done z => some z)
noncomputable def laws_eqHello (a0 : Hello) (a1 : Hello) : Option (Bool) :=
  (bif (a0.Kind != a1.Kind) then some false else (bif (a0.X != a1.X) then some false else (bif (a0.Y != a1.Y) then some false else some true)))
noncomputable def laws_eqHelloS_l0 (a0 : List Hello) (a1 : List Hello) (x : (Int)) : Option (LR (Int) (LR Unit (Bool))) :=
  match x with
  | (x7) => (bif (decide (x7 < (a0.length : Int))) then (idx a0 x7).bind fun b21 => (idx a1 x7).bind fun b22 => (laws_eqHello b21 b22).bind fun b23 => (bif (!b23) then some (LR.done (LR.done false)) else some (LR.next ((IntKind.i64.wrap (x7 + 1))))) else some (LR.done (LR.next ())))
noncomputable def laws_eqHelloS (a0 : List Hello) (a1 : List Hello) : Option (Bool) :=
  (bif ((a0.length : Int) != (a1.length : Int)) then some false else (whl (laws_eqHelloS_l0 a0 a1) (0)).bind fun y => match y with | LR.next () => some true | LR.done z => some z)
noncomputable def laws_eqGreet (a0 : Greet) (a1 : Greet) : Option (Bool) :=
  (bif (a0.StateA != a1.StateA) then some false else (bif (a0.StateB != a1.StateB) then some false else (bif (a0.X != a1.X) then some false else (bif (a0.Y != a1.Y) then some false else (bif (a0.OfX != a1.OfX) then some false else (bif (a0.OfY != a1.OfY) then some false else (bif (a0.LastX != a1.LastX) then some false else (bif (a0.LastY != a1.LastY) then some false else (laws_eqHelloS a0.Line a1.Line).bind fun b32 => (bif (!b32) then some false else (laws_eqHelloS a0.OpenedA a1.OpenedA).bind fun b36 => (bif (!b36) then some false else (laws_eqHelloS a0.OpenedB a1.OpenedB).bind fun b40 => (bif (!b40) then some false else some true)))))))))))
noncomputable def laws_markHelloS_l0 (x : ((List Hello) × Int × Int)) : Option (LR ((List Hello) × Int × Int) (Int × (List Hello))) :=
  match x with
  | (x4, x5, x6) => (bif (decide (x6 < (x4.length : Int))) then (idx x4 x6).bind fun b22 => (idx (x4.set x6.toNat (⟨x5, b22.X, b22.Y⟩ : Hello)) x6).bind fun b26 => (idx ((x4.set x6.toNat (⟨x5, b22.X, b22.Y⟩ : Hello)).set x6.toNat (⟨b26.Kind, (IntKind.i64.wrap (x5 + 1)), b26.Y⟩ : Hello)) x6).bind fun b30 => some (LR.next ((((x4.set x6.toNat (⟨x5, b22.X, b22.Y⟩ : Hello)).set x6.toNat (⟨b26.Kind, (IntKind.i64.wrap (x5 + 1)), b26.Y⟩ : Hello)).set x6.toNat (⟨b30.Kind, b30.X, (IntKind.i64.wrap ((IntKind.i64.wrap (x5 + 1)) + 1))⟩ : Hello)), (IntKind.i64.wrap ((IntKind.i64.wrap ((IntKind.i64.wrap (x5 + 1)) + 1)) + 1)), (IntKind.i64.wrap (x6 + 1)))) else some (LR.done (x5, x4)))
noncomputable def laws_markHelloS (a0 : List Hello) (a1 : Int) : Option (Int × List Hello) :=
  (whl (laws_markHelloS_l0) (a0, a1, 0)).bind fun (x7, x8) => some (x7, x8)
noncomputable def laws_markGreet (a0 : Greet) (a1 : Int) : Option (Int × List Hello × List Hello × List Hello) :=
  (laws_markHelloS a0.Line a1).bind fun (b6, b7) => (laws_markHelloS a0.OpenedA b6).bind fun (b10, b11) => (laws_markHelloS a0.OpenedB b10).bind fun (b14, b15) => some (b14, b7, b11, b15)
noncomputable def laws_heldHelloS_l0 (a0 : List Hello) (x : (Int × Int)) : Option (LR (Int × Int) (LR (Int) (Int))) :=
  match x with
  | (x4, x5) => (bif (decide (x5 < (a0.length : Int))) then (idx a0 x5).bind fun b21 => (bif (b21.Kind != x4) then some (LR.done (LR.done (-1))) else (idx a0 x5).bind fun b30 => (bif (b30.X != (IntKind.i64.wrap (x4 + 1))) then some (LR.done (LR.done (-1))) else (idx a0 x5).bind fun b39 => (bif (b39.Y != (IntKind.i64.wrap ((IntKind.i64.wrap (x4 + 1)) + 1))) then some (LR.done (LR.done (-1))) else some (LR.next ((IntKind.i64.wrap ((IntKind.i64.wrap ((IntKind.i64.wrap (x4 + 1)) + 1)) + 1)), (IntKind.i64.wrap (x5 + 1))))))) else some (LR.done (LR.next (x4))))
noncomputable def laws_heldHelloS (a0 : List Hello) (a1 : Int) : Option (Int) :=
  (whl (laws_heldHelloS_l0 a0) (a1, 0)).bind fun y => match y with | LR.next (x6) => some x6 | LR.done z => some z
noncomputable def laws_heldGreet (a0 : Greet) (a1 : Int) : Option (Int) :=
  (laws_heldHelloS a0.Line a1).bind fun b5 => (bif (decide (b5 < 0)) then some (-1) else (laws_heldHelloS a0.OpenedA b5).bind fun b10 => (bif (decide (b10 < 0)) then some (-1) else (laws_heldHelloS a0.OpenedB b10).bind fun b15 => (bif (decide (b15 < 0)) then some (-1) else some b15)))
noncomputable def laws_FnExactSettleGreet (a0 : Greet) : Option (Bool) :=
  (laws_szGreet a0 1048576).bind fun b6 => (bif (decide (b6 < 0)) then some true else (laws_toGreet a0).bind fun b11 => (spec_SettleGreet b11).bind fun (b19, b20) => (laws_toGreet a0).bind fun b33 => (impl_SettleGreet b33).bind fun (b44, b45) => ((laws_eqGreet b44 b19).bind fun b64 => (bif (!b64) then some (true) else some ((!(b45 == b20))))).bind fun x59 => (bif x59 then some false else (laws_toGreet a0).bind fun b68 => (laws_eqGreet b33 b68).bind fun b72 => (bif (!b72) then some false else (laws_markGreet b33 1).bind fun (b77, _b78, _b79, _b80) => ((bif (decide (b77 < 0)) then some (true) else (laws_eqGreet b44 b19).bind fun b88 => (bif (!b88) then some (true) else some ((!(b45 == b20)))))).bind fun x83 => (bif x83 then some false else (laws_markGreet b44 1).bind fun (b93, b94, b95, b96) => (laws_heldGreet (⟨b44.StateA, b44.StateB, b44.X, b44.Y, b44.OfX, b44.OfY, b44.LastX, b44.LastY, b94, b95, b96⟩ : Greet) 1).bind fun b99 => (bif (decide (b99 < 0)) then some false else (bif (b99 != b93) then some false else (laws_toGreet a0).bind fun b107 => (impl_SettleGreet b107).bind fun (b115, b116) => ((laws_eqGreet b115 b19).bind fun b135 => (bif (!b135) then some (true) else some ((!(b116 == b20))))).bind fun x130 => (bif x130 then some false else (laws_heldGreet (⟨b44.StateA, b44.StateB, b44.X, b44.Y, b44.OfX, b44.OfY, b44.LastX, b44.LastY, b94, b95, b96⟩ : Greet) 1).bind fun b139 => (bif (decide (b139 < 0)) then some false else (bif (b139 != b93) then some false else some true)))))))))
end Go.VxW
