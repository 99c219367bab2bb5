import Derived.Test.YtcgnkhdeckgaaaaVaE
open Go Go.VS
set_option maxRecDepth 8000
namespace Go.VxW
structure Turns where
  Quanta : List Int
  Queues : List (List Int)
  Credit : List Int
  Sent : List Int
  At : Int
noncomputable def laws_szIntS (a0 : List Int) (a1 : Int) : Option (Int) :=
  (bif (decide ((IntKind.i64.wrap (a1 - (a0.length : Int))) < 0)) then some (-1) else some (IntKind.i64.wrap (a1 - (a0.length : Int))))
noncomputable def laws_szIntSS_l0 (a0 : List (List Int)) (x : (Int × Int)) : Option (LR (Int × Int) (LR (Int) (Int))) :=
  match x with
  | (x8, x9) => (bif (decide (x9 < (a0.length : Int))) then (idx a0 x9).bind fun b24 => (laws_szIntS b24 x8).bind fun b25 => (bif (decide (b25 < 0)) then some (LR.done (LR.done (-1))) else some (LR.next (b25, (IntKind.i64.wrap (x9 + 1))))) else some (LR.done (LR.next (x8))))
noncomputable def laws_szIntSS (a0 : List (List Int)) (a1 : Int) : Option (Int) :=
  (bif (decide ((IntKind.i64.wrap (a1 - (a0.length : Int))) < 0)) then some (-1) else (whl (laws_szIntSS_l0 a0) ((IntKind.i64.wrap (a1 - (a0.length : Int))), 0)).bind fun y => match y with | LR.next (x10) => some x10 | LR.done z => some z)
noncomputable def laws_szTurns (a0 : Turns) (a1 : Int) : Option (Int) :=
  (laws_szIntS a0.Quanta a1).bind fun b5 => (bif (decide (b5 < 0)) then some (-1) else (laws_szIntSS a0.Queues b5).bind fun b10 => (bif (decide (b10 < 0)) then some (-1) else (laws_szIntS a0.Credit b10).bind fun b15 => (bif (decide (b15 < 0)) then some (-1) else (laws_szIntS a0.Sent b15).bind fun b20 => (bif (decide (b20 < 0)) then some (-1) else some b20))))
noncomputable def laws_toIntS_l0 (a0 : List Int) (x : ((List Int) × Int)) : Option (LR ((List Int) × Int) ((List Int))) :=
  match x with
  | (x8, x9) => (bif (decide (x9 < (a0.length : Int))) then (idx a0 x9).bind fun b23 => (idx x8 x9).bind fun _b24 => some (LR.next ((x8.set x9.toNat b23), (IntKind.i64.wrap (x9 + 1)))) else some (LR.done (x8)))
noncomputable def laws_toIntS (a0 : List Int) : Option (List Int) :=
  (mkL 8 (a0.length : Int) (0 : Int)).bind fun x5 => (whl (laws_toIntS_l0 a0) (x5, 0)).bind fun x10 => some x10
noncomputable def laws_toIntSS_l0 (a0 : List (List Int)) (x : ((List (List Int)) × Int)) : Option (LR ((List (List Int)) × Int) ((List (List Int)))) :=
  match x with
  | (x10, x12) => (bif (decide (x12 < (a0.length : Int))) then (idx a0 x12).bind fun b27 => (laws_toIntS b27).bind fun b28 => (idx x10 x12).bind fun _b32 => some (LR.next ((x10.set x12.toNat b28), (IntKind.i64.wrap (x12 + 1)))) else some (LR.done (x10)))
noncomputable def laws_toIntSS (a0 : List (List Int)) : Option (List (List Int)) :=
  (mkL 24 (a0.length : Int) ([] : List Int)).bind fun x5 => (whl (laws_toIntSS_l0 a0) (x5, 0)).bind fun x13 => some x13
noncomputable def laws_toTurns (a0 : Turns) : Option (Turns) :=
  (laws_toIntS a0.Quanta).bind fun b10 => (laws_toIntSS a0.Queues).bind fun b14 => (laws_toIntS a0.Credit).bind fun b19 => (laws_toIntS a0.Sent).bind fun b23 => some (⟨b10, b14, b19, b23, a0.At⟩ : Turns)
noncomputable def spec_l1In (a0 : Int) (a1 : Int) (a2 : Int) : Option (Bool) :=
  (bif (decide (a1 ≤ a0)) then some (decide (a0 ≤ a2)) else some false)
noncomputable def spec_l1All_l0 (a0 : List Int) (a1 : Int) (a2 : Int) (x : (Int)) : Option (LR (Int) (LR Unit (Bool))) :=
  match x with
  | (x4) => (bif (decide (x4 < (a0.length : Int))) then (idx a0 x4).bind fun b18 => (spec_l1In b18 a1 a2).bind fun b20 => (bif (!b20) then some (LR.done (LR.done false)) else some (LR.next ((IntKind.i64.wrap (x4 + 1))))) else some (LR.done (LR.next ())))
noncomputable def spec_l1All (a0 : List Int) (a1 : Int) (a2 : Int) : Option (Bool) :=
  (whl (spec_l1All_l0 a0 a1 a2) (0)).bind fun y => match y with | LR.next () => some true | LR.done z => some z
noncomputable def spec_GoodTurns_l0 (a0 : Turns) (x : (Int)) : Option (LR (Int) (LR Unit (Bool))) :=
  match x with
  | (x20) => (bif (decide (x20 < (a0.Queues.length : Int))) then (idx a0.Queues x20).bind fun b34 => ((bif (decide (30 < (b34.length : Int))) then some (true) else (spec_l1All b34 1 20).bind fun b41 => (bif (!b41) then some (true) else (bif ((b34.length : Int) == 0) then (idx a0.Credit x20).bind fun b42 => some ((b42 != 0)) else some (false))))).bind fun x36 => (bif x36 then some (LR.done (LR.done false)) else some (LR.next ((IntKind.i64.wrap (x20 + 1))))) else some (LR.done (LR.next ())))
noncomputable def spec_GoodTurns (a0 : Turns) : Option (Bool) :=
  ((spec_l1In (a0.Quanta.length : Int) 1 4).bind fun b12 => (bif (!b12) then some (true) else (spec_l1All a0.Quanta 20 100).bind fun b13 => (bif (!b13) then some (true) else (bif ((a0.Queues.length : Int) != (a0.Quanta.length : Int)) then some (true) else (bif ((a0.Credit.length : Int) != (a0.Quanta.length : Int)) then some (true) else (bif ((a0.Sent.length : Int) != (a0.Quanta.length : Int)) then some (true) else (spec_l1All a0.Credit 0 19).bind fun b14 => (bif (!b14) then some (true) else (spec_l1All a0.Sent 0 1000000).bind fun b15 => (bif (!b15) then some (true) else (spec_l1In a0.At 0 (IntKind.i64.wrap ((a0.Quanta.length : Int) - 1))).bind fun b16 => some ((!b16)))))))))).bind fun x7 => (bif x7 then some false else (whl (spec_GoodTurns_l0 a0) (0)).bind fun y => match y with | LR.next () => some true | LR.done z => some z)
noncomputable def spec_l8Own_l0 (a0 : Turns) (x : (Int × (List (List Int)))) : Option (LR (Int × (List (List Int))) ((List (List Int)))) :=
  match x with
  | (x23, x24) => (bif (decide (x23 < (a0.Queues.length : Int))) then (idx a0.Queues x23).bind fun b44 => (app 8 ([] : List Int) b44).bind fun x46 => (app 24 x24 ([x46] : List (List Int))).bind fun n54 => some (LR.next ((IntKind.i64.wrap (x23 + 1)), n54)) else some (LR.done (x24)))
noncomputable def spec_l8Own (a0 : Turns) : Option (Turns) :=
  (app 8 ([] : List Int) a0.Quanta).bind fun x8 => (app 8 ([] : List Int) a0.Credit).bind fun x12 => (app 8 ([] : List Int) a0.Sent).bind fun x16 => (whl (spec_l8Own_l0 a0) (0, ([] : List (List Int)))).bind fun x28 => some (⟨x8, x28, x12, x16, a0.At⟩ : Turns)
noncomputable def spec_l8Next_l0 (a0 : Turns) (x : ((List Int) × (List Int) × (List Int) × (List Int))) : Option (LR ((List Int) × (List Int) × (List Int) × (List Int)) ((List Int) × (List Int) × (List Int) × (List Int))) :=
  match x with
  | (x29, x32, x35, x36) => ((bif (decide (0 < (x32.length : Int))) then (idx x32 0).bind fun b58 => (idx x35 a0.At).bind fun b60 => some ((decide (b58 ≤ b60))) else some (false))).bind fun x53 => (bif x53 then (idx x35 a0.At).bind fun b64 => (idx x32 0).bind fun b66 => (idx x35 a0.At).bind fun _b68 => (idx x36 a0.At).bind fun b71 => (idx x32 0).bind fun b73 => (idx x36 a0.At).bind fun _b75 => (idx x32 0).bind fun b78 => (app 8 x29 ([b78] : List Int)).bind fun x82 => (slc x32 1 (x32.length : Int)).bind fun x85 => some (LR.next (x82, x85, (x35.set a0.At.toNat (IntKind.i64.wrap (b64 - b66))), (x36.set a0.At.toNat (IntKind.i64.wrap (b71 + b73))))) else some (LR.done (x29, x32, x35, x36)))
noncomputable def spec_l8Next (a0 : Turns) : Option (Turns × List Int) :=
  (md (IntKind.i64.wrap (a0.At + 1)) (a0.Queues.length : Int)).bind fun x8 => (idx a0.Queues a0.At).bind fun b12 => ((bif (decide (0 < (b12.length : Int))) then (idx a0.Credit a0.At).bind fun b22 => (idx a0.Quanta a0.At).bind fun b24 => (idx a0.Credit a0.At).bind fun _b26 => some ((a0.Credit.set a0.At.toNat (IntKind.i64.wrap (b22 + b24)))) else some (a0.Credit))).bind fun x17 => (whl (spec_l8Next_l0 a0) ([], b12, x17, a0.Sent)).bind fun (x37, x39, x41, x42) => ((bif ((x39.length : Int) == 0) then (idx x41 a0.At).bind fun _b98 => some ((x41.set a0.At.toNat 0)) else some (x41))).bind fun x93 => (app 8 ([] : List Int) x39).bind fun x102 => some ((⟨a0.Quanta, (a0.Queues.set a0.At.toNat x102), x93, x42, x8⟩ : Turns), x37)
noncomputable def spec_NextTurn (a0 : Turns) : Option (Turns × List Int × Bool) :=
  (spec_GoodTurns a0).bind fun b8 => (bif (!b8) then some ((⟨([] : List Int), ([] : List (List Int)), ([] : List Int), ([] : List Int), 0⟩ : Turns), ([] : List Int), false) else (spec_l8Own a0).bind fun b17 => (spec_l8Next b17).bind fun (b28, b29) => (spec_GoodTurns b28).bind fun b45 => (bif (!b45) then some ((⟨([] : List Int), ([] : List (List Int)), ([] : List Int), ([] : List Int), 0⟩ : Turns), ([] : List Int), false) else (spec_l8Own b28).bind fun b54 => some (b54, b29, true)))
noncomputable def spec_RunTurns_l0 (x : (Int × (List Int) × (List (List Int)) × (List Int) × (List Int) × Int)) : Option (LR (Int × (List Int) × (List (List Int)) × (List Int) × (List Int) × Int) (LR ((List Int) × (List (List Int)) × (List Int) × (List Int) × Int) (Turns × Bool))) :=
  match x with
  | (x35, x36, x39, x43, x46, x49) => (bif (decide (0 < x35)) then (spec_NextTurn (⟨x36, x39, x43, x46, x49⟩ : Turns)).bind fun (b74, _b75, b76) => (bif (!b76) then some (LR.done (LR.done ((⟨([] : List Int), ([] : List (List Int)), ([] : List Int), ([] : List Int), 0⟩ : Turns), false))) else some (LR.next ((IntKind.i64.wrap (x35 - 1)), b74.Quanta, b74.Queues, b74.Credit, b74.Sent, b74.At))) else some (LR.done (LR.next (x36, x39, x43, x46, x49))))
noncomputable def spec_RunTurns (a0 : Turns) (a1 : Int) : Option (Turns × Bool) :=
  ((spec_GoodTurns a0).bind fun b13 => (bif (!b13) then some (true) else (spec_l1In a1 0 60).bind fun b14 => some ((!b14)))).bind fun x8 => (bif x8 then some ((⟨([] : List Int), ([] : List (List Int)), ([] : List Int), ([] : List Int), 0⟩ : Turns), false) else (spec_l8Own a0).bind fun b22 => (whl (spec_RunTurns_l0) (a1, b22.Quanta, b22.Queues, b22.Credit, b22.Sent, b22.At)).bind fun y => match y with | LR.next (x50, x52, x55, x57, x59) => some ((⟨x50, x52, x55, x57, x59⟩ : Turns), true) | LR.done z => some z)
noncomputable def impl_in (a0 : Int) (a1 : Int) (a2 : Int) : Option (Bool) :=
  (bif (decide (a1 ≤ a0)) then some (decide (a0 ≤ a2)) else some false)
noncomputable def slices_IndexFunc_int_l0 (a0 : List Int) (g1 : Int → Option Bool) (x : (Int)) : Option (LR (Int) (LR Unit (Int))) :=
  match x with
  | (x4) => (bif (decide (x4 < (a0.length : Int))) then (idx a0 x4).bind fun b19 => (g1 b19).bind fun b20 => (bif b20 then some (LR.done (LR.done x4)) else some (LR.next ((IntKind.i64.wrap (x4 + 1))))) else some (LR.done (LR.next ())))
noncomputable def slices_IndexFunc_int (a0 : List Int) (g1 : Int → Option Bool) : Option (Int) :=
  (whl (slices_IndexFunc_int_l0 a0 g1) (0)).bind fun y => match y with | LR.next () => some (-1) | LR.done z => some z
noncomputable def slices_ContainsFunc_int (a0 : List Int) (g1 : Int → Option Bool) : Option (Bool) :=
  (slices_IndexFunc_int a0 g1).bind fun b3 => some (decide (0 ≤ b3))
noncomputable def impl_areQuanta_1 (a0 : Int) : Option (Bool) :=
  (impl_in a0 20 100).bind fun b3 => some (!b3)
noncomputable def impl_areQuanta (a0 : List Int) : Option (Bool) :=
  (impl_in (a0.length : Int) 1 4).bind fun b3 => (bif b3 then (slices_ContainsFunc_int a0 impl_areQuanta_1).bind fun b4 => some (!b4) else some false)
noncomputable def impl_isPacket (a0 : Int) : Option (Bool) :=
  (impl_in a0 1 20).bind fun b3 => some b3
noncomputable def impl_GoodTurns_1 (a0 : Int) : Option (Bool) :=
  (impl_isPacket a0).bind fun b3 => some (!b3)
noncomputable def impl_GoodTurns_l0 (a0 : Turns) (x : (Int)) : Option (LR (Int) (LR Unit (Bool))) :=
  match x with
  | (x17) => (bif (decide (x17 < (a0.Queues.length : Int))) then (idx a0.Queues x17).bind fun b31 => ((bif (decide (30 < (b31.length : Int))) then some (true) else (slices_ContainsFunc_int b31 impl_GoodTurns_1).bind fun b39 => some (b39))).bind fun x34 => (bif x34 then some (LR.done (LR.done false)) else ((idx a0.Credit x17).bind fun b51 => (impl_in b51 0 19).bind fun b52 => (bif (!b52) then some (true) else (bif ((b31.length : Int) == 0) then (idx a0.Credit x17).bind fun b53 => (bif (decide (0 < b53)) then some (true) else (idx a0.Sent x17).bind fun b54 => (impl_in b54 0 1000000).bind fun b55 => some ((!b55))) else (idx a0.Sent x17).bind fun b56 => (impl_in b56 0 1000000).bind fun b57 => some ((!b57))))).bind fun x46 => (bif x46 then some (LR.done (LR.done false)) else some (LR.next ((IntKind.i64.wrap (x17 + 1)))))) else some (LR.done (LR.next ())))
noncomputable def impl_GoodTurns (a0 : Turns) : Option (Bool) :=
  ((impl_areQuanta a0.Quanta).bind fun b12 => (bif (!b12) then some (true) else (bif ((a0.Queues.length : Int) != (a0.Quanta.length : Int)) then some (true) else (bif ((a0.Credit.length : Int) != (a0.Quanta.length : Int)) then some (true) else (bif ((a0.Sent.length : Int) != (a0.Quanta.length : Int)) then some (true) else (impl_in a0.At 0 (IntKind.i64.wrap ((a0.Quanta.length : Int) - 1))).bind fun b13 => some ((!b13))))))).bind fun x7 => (bif x7 then some false else (whl (impl_GoodTurns_l0 a0) (0)).bind fun y => match y with | LR.next () => some true | LR.done z => some z)
noncomputable def slices_Clone_int (a0 : List Int) : Option (List Int) :=
  app 8 [] a0
noncomputable def impl_Turns_copied_l0 (a0 : Turns) (x : (Int × (List (List Int)))) : Option (LR (Int × (List (List Int))) ((List (List Int)))) :=
  match x with
  | (x23, x24) => (bif (decide (x23 < (a0.Queues.length : Int))) then (idx a0.Queues x23).bind fun b44 => (slices_Clone_int b44).bind fun b45 => (app 24 x24 ([b45] : List (List Int))).bind fun n54 => some (LR.next ((IntKind.i64.wrap (x23 + 1)), n54)) else some (LR.done (x24)))
noncomputable def impl_Turns_copied (a0 : Turns) : Option (Turns) :=
  (slices_Clone_int a0.Quanta).bind fun b7 => (slices_Clone_int a0.Credit).bind fun b11 => (slices_Clone_int a0.Sent).bind fun b15 => (whl (impl_Turns_copied_l0 a0) (0, ([] : List (List Int)))).bind fun x28 => some (⟨b7, x28, b11, b15, a0.At⟩ : Turns)
noncomputable def impl_Turns_turn_l0 (a0 : Turns) (x : ((List Int) × (List (List Int)) × (List Int) × (List Int))) : Option (LR ((List Int) × (List (List Int)) × (List Int) × (List Int)) ((List Int) × (List (List Int)) × (List Int) × (List Int))) :=
  match x with
  | (x29, x32, x34, x35) => ((idx x32 a0.At).bind fun b61 => (bif (decide (0 < (b61.length : Int))) then (idx b61 0).bind fun b65 => (idx x34 a0.At).bind fun b67 => some ((decide (b65 ≤ b67))) else some (false))).bind fun x54 => (bif x54 then (idx x32 a0.At).bind fun b74 => (idx b74 0).bind fun b77 => (slc b74 1 (b74.length : Int)).bind fun x81 => (idx x34 a0.At).bind fun b86 => (idx x34 a0.At).bind fun _b88 => (idx x35 a0.At).bind fun b91 => (idx x35 a0.At).bind fun _b93 => (app 8 x29 ([b77] : List Int)).bind fun x97 => some (LR.next (x97, (x32.set a0.At.toNat x81), (x34.set a0.At.toNat (IntKind.i64.wrap (b86 - b77))), (x35.set a0.At.toNat (IntKind.i64.wrap (b91 + b77))))) else some (LR.done (x29, x32, x34, x35)))
noncomputable def impl_Turns_turn (a0 : Turns) : Option (List Int × Bool × Turns) :=
  (md (IntKind.i64.wrap (a0.At + 1)) (a0.Quanta.length : Int)).bind fun x4 => (idx a0.Queues a0.At).bind fun b8 => ((bif (decide (0 < (b8.length : Int))) then (idx a0.Credit a0.At).bind fun b19 => (idx a0.Quanta a0.At).bind fun b21 => (idx a0.Credit a0.At).bind fun _b23 => some ((a0.Credit.set a0.At.toNat (IntKind.i64.wrap (b19 + b21)))) else some (a0.Credit))).bind fun x14 => (whl (impl_Turns_turn_l0 a0) ([], a0.Queues, x14, a0.Sent)).bind fun (x36, x38, x40, x41) => (idx x38 a0.At).bind fun b107 => ((bif ((b107.length : Int) == 0) then (idx x40 a0.At).bind fun _b118 => some ((x40.set a0.At.toNat 0)) else some (x40))).bind fun x113 => (idx x41 a0.At).bind fun b123 => some (x36, (decide (b123 ≤ 1000000)), (⟨a0.Quanta, x38, x113, x41, x4⟩ : Turns))
noncomputable def impl_RunTurns_l0 (a1 : Int) (x : (Int × (List Int) × (List (List Int)) × (List Int) × (List Int) × Int)) : Option (LR (Int × (List Int) × (List (List Int)) × (List Int) × (List Int) × Int) (LR ((List Int) × (List (List Int)) × (List Int) × (List Int) × Int) (Turns × Bool))) :=
  match x with
  | (x36, x37, x39, x42, x44, x46) => (bif (decide (x36 < a1)) then (impl_Turns_turn (⟨x37, x39, x42, x44, x46⟩ : Turns)).bind fun (_b71, b72, b73) => (bif (!b72) then some (LR.done (LR.done ((⟨([] : List Int), ([] : List (List Int)), ([] : List Int), ([] : List Int), 0⟩ : Turns), false))) else some (LR.next ((IntKind.i64.wrap (x36 + 1)), b73.Quanta, b73.Queues, b73.Credit, b73.Sent, b73.At))) else some (LR.done (LR.next (x37, x39, x42, x44, x46))))
noncomputable def impl_RunTurns (a0 : Turns) (a1 : Int) : Option (Turns × Bool) :=
  ((impl_GoodTurns a0).bind fun b13 => (bif (!b13) then some (true) else (impl_in a1 0 60).bind fun b14 => some ((!b14)))).bind fun x8 => (bif x8 then some ((⟨([] : List Int), ([] : List (List Int)), ([] : List Int), ([] : List Int), 0⟩ : Turns), false) else (impl_Turns_copied a0).bind fun b22 => (whl (impl_RunTurns_l0 a1) (0, b22.Quanta, b22.Queues, b22.Credit, b22.Sent, b22.At)).bind fun y => match y with | LR.next (x47, x49, x52, x54, x56) => some ((⟨x47, x49, x52, x54, x56⟩ : Turns), true) | LR.done z => some z)
noncomputable def laws_eqIntS_l0 (a0 : List Int) (a1 : List Int) (x : (Int)) : Option (LR (Int) (LR Unit (Bool))) :=
  match x with
  | (x7) => (bif (decide (x7 < (a0.length : Int))) then (idx a0 x7).bind fun b21 => (idx a1 x7).bind fun b22 => (bif (b21 != b22) then some (LR.done (LR.done false)) else some (LR.next ((IntKind.i64.wrap (x7 + 1))))) else some (LR.done (LR.next ())))
noncomputable def laws_eqIntS (a0 : List Int) (a1 : List Int) : Option (Bool) :=
  (bif ((a0.length : Int) != (a1.length : Int)) then some false else (whl (laws_eqIntS_l0 a0 a1) (0)).bind fun y => match y with | LR.next () => some true | LR.done z => some z)
noncomputable def laws_eqIntSS_l0 (a0 : List (List Int)) (a1 : List (List Int)) (x : (Int)) : Option (LR (Int) (LR Unit (Bool))) :=
  match x with
  | (x7) => (bif (decide (x7 < (a0.length : Int))) then (idx a0 x7).bind fun b21 => (idx a1 x7).bind fun b22 => (laws_eqIntS b21 b22).bind fun b23 => (bif (!b23) then some (LR.done (LR.done false)) else some (LR.next ((IntKind.i64.wrap (x7 + 1))))) else some (LR.done (LR.next ())))
noncomputable def laws_eqIntSS (a0 : List (List Int)) (a1 : List (List Int)) : Option (Bool) :=
  (bif ((a0.length : Int) != (a1.length : Int)) then some false else (whl (laws_eqIntSS_l0 a0 a1) (0)).bind fun y => match y with | LR.next () => some true | LR.done z => some z)
noncomputable def laws_eqTurns (a0 : Turns) (a1 : Turns) : Option (Bool) :=
  (laws_eqIntS a0.Quanta a1.Quanta).bind fun b8 => (bif (!b8) then some false else (laws_eqIntSS a0.Queues a1.Queues).bind fun b12 => (bif (!b12) then some false else (laws_eqIntS a0.Credit a1.Credit).bind fun b16 => (bif (!b16) then some false else (laws_eqIntS a0.Sent a1.Sent).bind fun b20 => (bif (!b20) then some false else (bif (a0.At != a1.At) then some false else some true)))))
noncomputable def laws_markIntS_l0 (x : ((List Int) × Int × Int)) : Option (LR ((List Int) × Int × Int) (Int × (List Int))) :=
  match x with
  | (x4, x5, x6) => (bif (decide (x6 < (x4.length : Int))) then (idx x4 x6).bind fun _b22 => some (LR.next ((x4.set x6.toNat x5), (IntKind.i64.wrap (x5 + 1)), (IntKind.i64.wrap (x6 + 1)))) else some (LR.done (x5, x4)))
noncomputable def laws_markIntS (a0 : List Int) (a1 : Int) : Option (Int × List Int) :=
  (whl (laws_markIntS_l0) (a0, a1, 0)).bind fun (x7, x8) => some (x7, x8)
noncomputable def laws_markIntSS_l0 (x : ((List (List Int)) × Int × Int)) : Option (LR ((List (List Int)) × Int × Int) (Int × (List (List Int)))) :=
  match x with
  | (x5, x7, x8) => (bif (decide (x8 < (x5.length : Int))) then (idx x5 x8).bind fun b25 => (laws_markIntS b25 x7).bind fun (b29, b30) => some (LR.next ((x5.set x8.toNat b30), b29, (IntKind.i64.wrap (x8 + 1)))) else some (LR.done (x7, x5)))
noncomputable def laws_markIntSS (a0 : List (List Int)) (a1 : Int) : Option (Int × List (List Int)) :=
  (whl (laws_markIntSS_l0) (a0, a1, 0)).bind fun (x9, x10) => some (x9, x10)
noncomputable def laws_markTurns (a0 : Turns) (a1 : Int) : Option (Int × List Int × List (List Int) × List Int × List Int) :=
  (laws_markIntS a0.Quanta a1).bind fun (b6, b7) => (laws_markIntSS a0.Queues b6).bind fun (b10, b11) => (laws_markIntS a0.Credit b10).bind fun (b15, b16) => (laws_markIntS a0.Sent b15).bind fun (b19, b20) => some (b19, b7, b11, b16, b20)
noncomputable def laws_heldIntS_l0 (a0 : List Int) (x : (Int × Int)) : Option (LR (Int × Int) (LR (Int) (Int))) :=
  match x with
  | (x4, x5) => (bif (decide (x5 < (a0.length : Int))) then (idx a0 x5).bind fun b21 => (bif (b21 != x4) then some (LR.done (LR.done (-1))) else some (LR.next ((IntKind.i64.wrap (x4 + 1)), (IntKind.i64.wrap (x5 + 1))))) else some (LR.done (LR.next (x4))))
noncomputable def laws_heldIntS (a0 : List Int) (a1 : Int) : Option (Int) :=
  (whl (laws_heldIntS_l0 a0) (a1, 0)).bind fun y => match y with | LR.next (x6) => some x6 | LR.done z => some z
noncomputable def laws_heldIntSS_l0 (a0 : List (List Int)) (x : (Int × Int)) : Option (LR (Int × Int) (LR (Int) (Int))) :=
  match x with
  | (x4, x5) => (bif (decide (x5 < (a0.length : Int))) then (idx a0 x5).bind fun b20 => (laws_heldIntS b20 x4).bind fun b21 => (bif (decide (b21 < 0)) then some (LR.done (LR.done (-1))) else some (LR.next (b21, (IntKind.i64.wrap (x5 + 1))))) else some (LR.done (LR.next (x4))))
noncomputable def laws_heldIntSS (a0 : List (List Int)) (a1 : Int) : Option (Int) :=
  (whl (laws_heldIntSS_l0 a0) (a1, 0)).bind fun y => match y with | LR.next (x6) => some x6 | LR.done z => some z
noncomputable def laws_heldTurns (a0 : Turns) (a1 : Int) : Option (Int) :=
  (laws_heldIntS a0.Quanta a1).bind fun b5 => (bif (decide (b5 < 0)) then some (-1) else (laws_heldIntSS a0.Queues b5).bind fun b10 => (bif (decide (b10 < 0)) then some (-1) else (laws_heldIntS a0.Credit b10).bind fun b15 => (bif (decide (b15 < 0)) then some (-1) else (laws_heldIntS a0.Sent b15).bind fun b20 => (bif (decide (b20 < 0)) then some (-1) else some b20))))
noncomputable def laws_FnExactRunTurns (a0 : Turns) (a1 : Int) : Option (Bool) :=
  (laws_szTurns a0 1048576).bind fun b6 => (bif (decide (b6 < 0)) then some true else (laws_toTurns a0).bind fun b11 => (spec_RunTurns b11 a1).bind fun (b22, b23) => (laws_toTurns a0).bind fun b41 => (impl_RunTurns b41 a1).bind fun (b55, b56) => ((laws_eqTurns b55 b22).bind fun b80 => (bif (!b80) then some (true) else some ((!(b56 == b23))))).bind fun x75 => (bif x75 then some false else (laws_toTurns a0).bind fun b84 => (laws_eqTurns b41 b84).bind fun b90 => (bif (!b90) then some false else (laws_markTurns b41 1).bind fun (b95, _b96, _b97, _b98, _b99) => ((bif (decide (b95 < 0)) then some (true) else (laws_eqTurns b55 b22).bind fun b108 => (bif (!b108) then some (true) else some ((!(b56 == b23)))))).bind fun x103 => (bif x103 then some false else (laws_markTurns b55 1).bind fun (b113, b114, b115, b116, b117) => (laws_heldTurns (⟨b114, b115, b116, b117, b55.At⟩ : Turns) 1).bind fun b121 => (bif (decide (b121 < 0)) then some false else (bif (b121 != b113) then some false else (laws_toTurns a0).bind fun b129 => (impl_RunTurns b129 a1).bind fun (b140, b141) => ((laws_eqTurns b140 b22).bind fun b165 => (bif (!b165) then some (true) else some ((!(b141 == b23))))).bind fun x160 => (bif x160 then some false else (laws_heldTurns (⟨b114, b115, b116, b117, b55.At⟩ : Turns) 1).bind fun b169 => (bif (decide (b169 < 0)) then some false else (bif (b169 != b113) then some false else some true)))))))))
end Go.VxW
