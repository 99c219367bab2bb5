import Derived.Test.YtcgnkhdeckgaaaaVaE
open Go Go.VS
set_option maxRecDepth 8000
namespace Go.VxW
structure Case where
  End : Int
  Asks : Bool
  Final : Int
  Said : Int
structure Slip where
  Kind : Int
  Case : Int
  What : Int
structure Court where
  Now : Int
  Cases : List Case
  Line : List Slip
structure CourtStep where
  Kind : Int
  K : Int
noncomputable def laws_szCaseS (a0 : List Case) (a1 : Int) : Option (Int) :=
  (bif (decide ((IntKind.i64.wrap (a1 - (a0.length : Int))) < 0)) then some (-1) else some (IntKind.i64.wrap (a1 - (a0.length : Int))))
noncomputable def laws_szSlipS (a0 : List Slip) (a1 : Int) : Option (Int) :=
  (bif (decide ((IntKind.i64.wrap (a1 - (a0.length : Int))) < 0)) then some (-1) else some (IntKind.i64.wrap (a1 - (a0.length : Int))))
noncomputable def laws_szCourt (a0 : Court) (a1 : Int) : Option (Int) :=
  (laws_szCaseS a0.Cases a1).bind fun b5 => (bif (decide (b5 < 0)) then some (-1) else (laws_szSlipS a0.Line b5).bind fun b10 => (bif (decide (b10 < 0)) then some (-1) else some b10))
noncomputable def laws_toCase (a0 : Case) : Option (Case) :=
  some a0
noncomputable def laws_toCaseS_l0 (a0 : List Case) (x : ((List Case) × Int)) : Option (LR ((List Case) × Int) ((List Case))) :=
  match x with
  | (x8, x9) => (bif (decide (x9 < (a0.length : Int))) then (idx a0 x9).bind fun b23 => (laws_toCase b23).bind fun b24 => (idx x8 x9).bind fun _b25 => some (LR.next ((x8.set x9.toNat b24), (IntKind.i64.wrap (x9 + 1)))) else some (LR.done (x8)))
noncomputable def laws_toCaseS (a0 : List Case) : Option (List Case) :=
  (mkL 32 (a0.length : Int) ((⟨0, false, 0, 0⟩ : Case) : Case)).bind fun x5 => (whl (laws_toCaseS_l0 a0) (x5, 0)).bind fun x10 => some x10
noncomputable def laws_toSlip (a0 : Slip) : Option (Slip) :=
  some a0
noncomputable def laws_toSlipS_l0 (a0 : List Slip) (x : ((List Slip) × Int)) : Option (LR ((List Slip) × Int) ((List Slip))) :=
  match x with
  | (x8, x9) => (bif (decide (x9 < (a0.length : Int))) then (idx a0 x9).bind fun b23 => (laws_toSlip b23).bind fun b24 => (idx x8 x9).bind fun _b25 => some (LR.next ((x8.set x9.toNat b24), (IntKind.i64.wrap (x9 + 1)))) else some (LR.done (x8)))
noncomputable def laws_toSlipS (a0 : List Slip) : Option (List Slip) :=
  (mkL 24 (a0.length : Int) ((⟨0, 0, 0⟩ : Slip) : Slip)).bind fun x5 => (whl (laws_toSlipS_l0 a0) (x5, 0)).bind fun x10 => some x10
noncomputable def laws_toCourt (a0 : Court) : Option (Court) :=
  (laws_toCaseS a0.Cases).bind fun b11 => (laws_toSlipS a0.Line).bind fun b15 => some (⟨a0.Now, b11, b15⟩ : Court)
noncomputable def spec_l1In (a0 : Int) (a1 : Int) (a2 : Int) : Option (Bool) :=
  (bif (decide (a1 ≤ a0)) then some (decide (a0 ≤ a2)) else some false)
noncomputable def spec_l16Verdict (a0 : Int) : Option (Bool) :=
  (spec_l1In a0 0 2).bind fun b3 => some b3
noncomputable def spec_GoodCourt_l0 (a0 : Court) (x : (Int)) : Option (LR (Int) (LR Unit (Bool))) :=
  match x with
  | (x6) => (bif (decide (x6 < (a0.Cases.length : Int))) then (idx a0.Cases x6).bind fun b20 => ((spec_l1In b20.End 0 100).bind fun b29 => (bif (!b29) then some (true) else (spec_l16Verdict b20.Final).bind fun b30 => (bif (!b30) then some (true) else (spec_l16Verdict b20.Said).bind fun b31 => (bif (!b31) then some (true) else (bif (b20.Final != 0) then (bif (b20.Final != b20.Said) then some (true) else (bif (b20.Said == 0) then some ((decide (b20.End < a0.Now))) else some (false))) else (bif (b20.Said == 0) then some ((decide (b20.End < a0.Now))) else some (false))))))).bind fun x24 => (bif x24 then some (LR.done (LR.done false)) else some (LR.next ((IntKind.i64.wrap (x6 + 1))))) else some (LR.done (LR.next ())))
noncomputable def spec_GoodCourt_l1 (a0 : Court) (x : (Int)) : Option (LR (Int) (LR Unit (Bool))) :=
  match x with
  | (x41) => (bif (decide (x41 < (a0.Line.length : Int))) then (idx a0.Line x41).bind fun b55 => ((bif (decide (b55.Case < 0)) then some (true) else (bif (decide ((a0.Cases.length : Int) ≤ b55.Case)) then some (true) else (spec_l1In b55.Kind 1 3).bind fun b65 => some ((!b65))))).bind fun x60 => (bif x60 then some (LR.done (LR.done false)) else ((bif (b55.Kind == 3) then (bif (b55.What == 0) then some (true) else (idx a0.Cases b55.Case).bind fun b77 => (bif (b55.What != b77.Said) then some (true) else (bif (b55.Kind != 3) then some ((b55.What != 0)) else some (false)))) else (bif (b55.Kind != 3) then some ((b55.What != 0)) else some (false)))).bind fun x72 => (bif x72 then some (LR.done (LR.done false)) else some (LR.next ((IntKind.i64.wrap (x41 + 1)))))) else some (LR.done (LR.next ())))
noncomputable def spec_GoodCourt (a0 : Court) : Option (Bool) :=
  (whl (spec_GoodCourt_l0 a0) (0)).bind fun y => match y with | LR.next () => ((whl (spec_GoodCourt_l1 a0) (0)).bind fun y => match y with | LR.next () => (bif (decide ((a0.Cases.length : Int) ≤ 6)) then (spec_l1In a0.Now 0 200).bind fun b86 => (bif b86 then some (decide ((a0.Line.length : Int) ≤ 30)) else some false) else some false) | LR.done z => some z) | LR.done z => some z
noncomputable def spec_l16Own (a0 : Court) : Option (Court) :=
  (app 32 ([] : List Case) a0.Cases).bind fun x8 => (app 24 ([] : List Slip) a0.Line).bind fun x13 => some (⟨a0.Now, x8, x13⟩ : Court)
noncomputable def spec_l16Open_l0 (a0 : Court) (x : (Int)) : Option (LR (Int) (LR Unit (Int))) :=
  match x with
  | (x6) => (bif (decide (x6 < (a0.Cases.length : Int))) then (idx a0.Cases x6).bind fun b20 => (bif (b20.Final == 0) then some (LR.done (LR.done x6)) else some (LR.next ((IntKind.i64.wrap (x6 + 1))))) else some (LR.done (LR.next ())))
noncomputable def spec_l16Open (a0 : Court) : Option (Int) :=
  (whl (spec_l16Open_l0 a0) (0)).bind fun y => match y with | LR.next () => some (-1) | LR.done z => some z
noncomputable def spec_l16Write (a0 : Court) (a1 : Slip) : Option (Court) :=
  ((bif (decide ((a0.Line.length : Int) < 30)) then (app 24 a0.Line ([a1] : List Slip)).bind fun x19 => some (x19) else some (a0.Line))).bind fun x10 => some (⟨a0.Now, a0.Cases, x10⟩ : Court)
noncomputable def spec_l16Take (a0 : Court) (a1 : Slip) : Option (Court) :=
  (bif (a1.Kind == 3) then (idx a0.Cases a1.Case).bind fun b11 => some (⟨a0.Now, (a0.Cases.set a1.Case.toNat (⟨b11.End, b11.Asks, a1.What, b11.Said⟩ : Case)), a0.Line⟩ : Court) else (idx a0.Cases a1.Case).bind fun b16 => ((bif (b16.Said == 0) then ((bif (a1.Kind == 2) then some (2) else some (1))).bind fun x26 => (idx a0.Cases a1.Case).bind fun b31 => some ((a0.Cases.set a1.Case.toNat (⟨b31.End, b31.Asks, b31.Final, x26⟩ : Case))) else some (a0.Cases))).bind fun x18 => (idx x18 a1.Case).bind fun b34 => (spec_l16Write (⟨a0.Now, x18, a0.Line⟩ : Court) (⟨3, a1.Case, b34.Said⟩ : Slip)).bind fun b36 => some b36)
noncomputable def spec_l16Step_l0 (a0 : Court) (x : ((List Case) × Int)) : Option (LR ((List Case) × Int) ((List Case))) :=
  match x with
  | (x23, x24) => (bif (decide (x24 < (a0.Cases.length : Int))) then ((idx x23 x24).bind fun b43 => ((bif (b43.Said == 0) then some ((decide (b43.End < (IntKind.i64.wrap (a0.Now + 1))))) else some (false))).bind fun x48 => ((bif x48 then (idx x23 x24).bind fun b58 => some ((x23.set x24.toNat (⟨b58.End, b58.Asks, b58.Final, 2⟩ : Case))) else some (x23))).bind fun x53 => some (x53)).bind fun x38 => some (LR.next (x38, (IntKind.i64.wrap (x24 + 1)))) else some (LR.done (x23)))
noncomputable def spec_l16Step (a0 : Court) (a1 : CourtStep) : Option (Court × Bool) :=
  (bif (a1.Kind == 6) then ((bif (a1.K != 0) then some (true) else some ((a0.Now == 200)))).bind fun x14 => (bif x14 then some (a0, false) else (whl (spec_l16Step_l0 a0) (a0.Cases, 0)).bind fun x25 => some ((⟨(IntKind.i64.wrap (a0.Now + 1)), x25, a0.Line⟩ : Court), true)) else ((bif (a1.Kind == 1) then some ((a1.Kind == 1)) else some ((a1.Kind == 2)))).bind fun x65 => (bif x65 then ((bif (decide (a1.K < 0)) then some (true) else (bif (decide ((a0.Cases.length : Int) ≤ a1.K)) then some (true) else (idx a0.Cases a1.K).bind fun b78 => (bif (b78.Final != 0) then some (true) else (bif (a1.Kind == 2) then (idx a0.Cases a1.K).bind fun b80 => some (b80.Asks) else some (false)))))).bind fun x73 => (bif x73 then some (a0, false) else (bif (a1.Kind == 2) then (idx a0.Cases a1.K).bind fun b86 => some ((⟨a0.Now, (a0.Cases.set a1.K.toNat (⟨b86.End, true, b86.Final, b86.Said⟩ : Case)), a0.Line⟩ : Court), true) else (idx a0.Cases a1.K).bind fun b92 => ((bif b92.Asks then some (2) else some (1))).bind fun x94 => (spec_l16Write a0 (⟨x94, a1.K, 0⟩ : Slip)).bind fun b100 => some (b100, true))) else ((bif (decide (a1.K < 0)) then some (true) else (bif (decide ((a0.Line.length : Int) ≤ a1.K)) then some (true) else (spec_l1In a1.Kind 3 5).bind fun b112 => some ((!b112))))).bind fun x107 => (bif x107 then some (a0, false) else (idx a0.Line a1.K).bind fun b115 => (bif (a1.Kind == 5) then (bif ((a0.Line.length : Int) == 30) then some (a0, false) else (spec_l16Write a0 b115).bind fun b125 => some (b125, true)) else (slc a0.Line 0 a1.K).bind fun x131 => (app 24 ([] : List Slip) x131).bind fun x134 => (slc a0.Line (IntKind.i64.wrap (a1.K + 1)) (a0.Line.length : Int)).bind fun x138 => (app 24 x134 x138).bind fun x141 => (bif (a1.Kind == 3) then (spec_l16Take (⟨a0.Now, a0.Cases, x141⟩ : Court) b115).bind fun b147 => some (b147, true) else some ((⟨a0.Now, a0.Cases, x141⟩ : Court), true))))))
noncomputable def spec_SettleCourt_l0 (x : (Int × Int × Int × (List Case) × (List Slip))) : Option (LR (Int × Int × Int × (List Case) × (List Slip)) (Int × Int × (List Case) × (List Slip))) :=
  match x with
  | (x22, x23, x24, x25, x28) => (bif (decide (0 ≤ x23)) then (spec_l16Step (⟨x24, x25, ([] : List Slip)⟩ : Court) (⟨1, x23⟩ : CourtStep)).bind fun (b53, _b54) => (spec_l16Step b53 (⟨3, 0⟩ : CourtStep)).bind fun (b61, _b62) => (spec_l16Step b61 (⟨3, 0⟩ : CourtStep)).bind fun (b69, _b70) => (spec_l16Open b69).bind fun b75 => some (LR.next ((IntKind.i64.wrap (x22 + 1)), b75, b69.Now, b69.Cases, b69.Line)) else some (LR.done (x22, x24, x25, x28)))
noncomputable def spec_SettleCourt (a0 : Court) : Option (Court × Int × Bool) :=
  (spec_GoodCourt a0).bind fun b8 => (bif (!b8) then some ((⟨0, [], []⟩ : Court), 0, false) else (spec_l16Own a0).bind fun b11 => (spec_l16Open b11).bind fun b21 => (whl (spec_SettleCourt_l0) (0, b21, b11.Now, b11.Cases, b11.Line)).bind fun (x31, x32, x33, x35) => (spec_l16Own (⟨x32, x33, x35⟩ : Court)).bind fun b79 => some (b79, x31, true))
noncomputable def impl_in (a0 : Int) (a1 : Int) (a2 : Int) : Option (Bool) :=
  (bif (decide (a1 ≤ a0)) then some (decide (a0 ≤ a2)) else some false)
noncomputable def impl_isVerdict (a0 : Int) : Option (Bool) :=
  (bif (a0 == 1) then some true else some (a0 == 2))
noncomputable def impl_Court_isSlip (a0 : Court) (a1 : Slip) : Option (Bool) :=
  (impl_in a1.Case 0 (IntKind.i64.wrap ((a0.Cases.length : Int) - 1))).bind fun b6 => (bif (!b6) then some false else (bif (a1.Kind == 3) then (impl_isVerdict a1.What).bind fun b11 => (bif b11 then (idx a0.Cases a1.Case).bind fun b12 => some (a1.What == b12.Said) else some false) else (bif (a1.Kind == 1) then some (a1.What == 0) else (bif (a1.Kind == 2) then some (a1.What == 0) else some false))))
noncomputable def impl_GoodCourt_1 (a0 : Slip) (a1 : Court) : Option (Bool) :=
  (impl_Court_isSlip a1 a0).bind fun b5 => some (!b5)
noncomputable def slices_IndexFunc_impl_Slip_l0 (a0 : List Slip) (g1 : Slip → Option Bool) (x : (Int)) : Option (LR (Int) (LR Unit (Int))) :=
  match x with
  | (x4) => (bif (decide (x4 < (a0.length : Int))) then (idx a0 x4).bind fun b19 => (g1 b19).bind fun b20 => (bif b20 then some (LR.done (LR.done x4)) else some (LR.next ((IntKind.i64.wrap (x4 + 1))))) else some (LR.done (LR.next ())))
noncomputable def slices_IndexFunc_impl_Slip (a0 : List Slip) (g1 : Slip → Option Bool) : Option (Int) :=
  (whl (slices_IndexFunc_impl_Slip_l0 a0 g1) (0)).bind fun y => match y with | LR.next () => some (-1) | LR.done z => some z
noncomputable def slices_ContainsFunc_impl_Slip (a0 : List Slip) (g1 : Slip → Option Bool) : Option (Bool) :=
  (slices_IndexFunc_impl_Slip a0 g1).bind fun b3 => some (decide (0 ≤ b3))
noncomputable def impl_GoodCourt_l0 (a0 : Court) (x : (Int)) : Option (LR (Int) (LR Unit (Bool))) :=
  match x with
  | (x15) => (bif (decide (x15 < (a0.Cases.length : Int))) then (idx a0.Cases x15).bind fun b29 => ((impl_in b29.End 0 100).bind fun b38 => (bif (!b38) then some (true) else (impl_in b29.Said 0 2).bind fun b39 => (bif (!b39) then some (true) else (bif (b29.Final != 0) then (bif (b29.Final != b29.Said) then some (true) else (bif (b29.Said == 0) then some ((decide (b29.End < a0.Now))) else some (false))) else (bif (b29.Said == 0) then some ((decide (b29.End < a0.Now))) else some (false)))))).bind fun x33 => (bif x33 then some (LR.done (LR.done false)) else some (LR.next ((IntKind.i64.wrap (x15 + 1))))) else some (LR.done (LR.next ())))
noncomputable def impl_GoodCourt (a0 : Court) : Option (Bool) :=
  ((impl_in a0.Now 0 200).bind fun b11 => (bif (!b11) then some (true) else (bif (decide (6 < (a0.Cases.length : Int))) then some (true) else some ((decide (30 < (a0.Line.length : Int))))))).bind fun x6 => (bif x6 then some false else (whl (impl_GoodCourt_l0 a0) (0)).bind fun y => match y with | LR.next () => (slices_ContainsFunc_impl_Slip a0.Line (fun y0 => impl_GoodCourt_1 y0 a0)).bind fun b48 => some (!b48) | LR.done z => some z)
noncomputable def slices_Clone_impl_Case (a0 : List Case) : Option (List Case) :=
  app 32 [] a0
noncomputable def slices_Clone_impl_Slip (a0 : List Slip) : Option (List Slip) :=
  app 24 [] a0
noncomputable def impl_Court_copied (a0 : Court) : Option (Court) :=
  (slices_Clone_impl_Case a0.Cases).bind fun b7 => (slices_Clone_impl_Slip a0.Line).bind fun b11 => some (⟨a0.Now, b7, b11⟩ : Court)
noncomputable def slices_IndexFunc_impl_Case_l0 (a0 : List Case) (g1 : Case → Option Bool) (x : (Int)) : Option (LR (Int) (LR Unit (Int))) :=
  match x with
  | (x4) => (bif (decide (x4 < (a0.length : Int))) then (idx a0 x4).bind fun b19 => (g1 b19).bind fun b20 => (bif b20 then some (LR.done (LR.done x4)) else some (LR.next ((IntKind.i64.wrap (x4 + 1))))) else some (LR.done (LR.next ())))
noncomputable def slices_IndexFunc_impl_Case (a0 : List Case) (g1 : Case → Option Bool) : Option (Int) :=
  (whl (slices_IndexFunc_impl_Case_l0 a0 g1) (0)).bind fun y => match y with | LR.next () => some (-1) | LR.done z => some z
noncomputable def impl_Court_unsettled_1 (a0 : Case) : Option (Bool) :=
  some (a0.Final == 0)
noncomputable def impl_Court_unsettled (a0 : Court) : Option (Int) :=
  (slices_IndexFunc_impl_Case a0.Cases impl_Court_unsettled_1).bind fun b3 => some b3
noncomputable def impl_Court_goes (a0 : Court) (a1 : Slip) : Option (Court) :=
  (bif (decide ((a0.Line.length : Int) < 30)) then (app 24 a0.Line ([a1] : List Slip)).bind fun x7 => some (⟨a0.Now, a0.Cases, x7⟩ : Court) else some a0)
noncomputable def slices_Delete_impl_Slip (a0 : List Slip) (a1 : Int) (a2 : Int) : Option (List Slip) :=
  (slc a0 a1 a2).bind fun _x3 => (bif (a1 == a2) then some a0 else (slc a0 0 a1).bind fun x10 => (slc a0 a2 (a0.length : Int)).bind fun x12 => (app 24 x10 x12).bind fun x14 => some x14)
noncomputable def impl_Court_take (a0 : Court) (a1 : Slip) : Option (Court) :=
  (idx a0.Cases a1.Case).bind fun b5 => (bif (a1.Kind == 3) then some (⟨a0.Now, (a0.Cases.set a1.Case.toNat (⟨b5.End, b5.Asks, a1.What, b5.Said⟩ : Case)), a0.Line⟩ : Court) else ((bif (b5.Said == 0) then ((bif (a1.Kind == 2) then (idx (a0.Cases.set a1.Case.toNat (⟨b5.End, b5.Asks, b5.Final, 1⟩ : Case)) a1.Case).bind fun b25 => some (((a0.Cases.set a1.Case.toNat (⟨b5.End, b5.Asks, b5.Final, 1⟩ : Case)).set a1.Case.toNat (⟨b25.End, b25.Asks, b25.Final, 2⟩ : Case))) else some ((a0.Cases.set a1.Case.toNat (⟨b5.End, b5.Asks, b5.Final, 1⟩ : Case))))).bind fun x19 => some (x19) else some (a0.Cases))).bind fun x12 => (idx x12 a1.Case).bind fun b27 => (impl_Court_goes (⟨a0.Now, x12, a0.Line⟩ : Court) (⟨3, a1.Case, b27.Said⟩ : Slip)).bind fun b28 => some b28)
noncomputable def impl_Court_tick_l0 (a0 : Court) (x : ((List Case) × Int)) : Option (LR ((List Case) × Int) ((List Case))) :=
  match x with
  | (x3, x4) => (bif (decide (x4 < (a0.Cases.length : Int))) then ((idx x3 x4).bind fun b23 => ((bif (b23.Said == 0) then some ((decide (b23.End < (IntKind.i64.wrap (a0.Now + 1))))) else some (false))).bind fun x28 => ((bif x28 then (idx x3 x4).bind fun b38 => some ((x3.set x4.toNat (⟨b38.End, b38.Asks, b38.Final, 2⟩ : Case))) else some (x3))).bind fun x33 => some (x33)).bind fun x18 => some (LR.next (x18, (IntKind.i64.wrap (x4 + 1)))) else some (LR.done (x3)))
noncomputable def impl_Court_tick (a0 : Court) : Option (Court) :=
  (whl (impl_Court_tick_l0 a0) (a0.Cases, 0)).bind fun x5 => some (⟨(IntKind.i64.wrap (a0.Now + 1)), x5, a0.Line⟩ : Court)
noncomputable def impl_Court_step (a0 : Court) (a1 : CourtStep) : Option (Bool × Court) :=
  (((bif (a1.Kind == 1) then some ((a1.Kind == 1)) else some ((a1.Kind == 2)))).bind fun x12 => ((bif x12 then ((impl_in a1.K 0 (IntKind.i64.wrap ((a0.Cases.length : Int) - 1))).bind fun b27 => (bif (!b27) then some (true) else (idx a0.Cases a1.K).bind fun b28 => some ((b28.Final != 0)))).bind fun x22 => (bif x22 then some (LR.done (LR.done (false, a0))) else some (LR.next ())) else ((bif (a1.Kind == 3) then some ((a1.Kind == 3)) else ((bif (a1.Kind == 4) then some ((a1.Kind == 4)) else some ((a1.Kind == 5)))).bind fun x43 => some (x43))).bind fun x37 => ((bif x37 then (impl_in a1.K 0 (IntKind.i64.wrap ((a0.Line.length : Int) - 1))).bind fun b53 => (bif (!b53) then some (LR.done (LR.done (LR.done (false, a0)))) else some (LR.next ())) else some (LR.next ()))).bind fun y => match y with | LR.next () => some (LR.next ()) | LR.done z => some z)).bind fun y => match y with | LR.next () => some (LR.next ()) | LR.done z => some z).bind fun y => match y with | LR.next () => ((((bif (a1.Kind == 1) then (idx a0.Cases a1.K).bind fun b86 => ((bif b86.Asks then some (2) else some (1))).bind fun x88 => (impl_Court_goes a0 (⟨x88, a1.K, 0⟩ : Slip)).bind fun b93 => some (LR.next (b93.Now, b93.Cases, b93.Line)) else ((bif (a1.Kind == 2) then (idx a0.Cases a1.K).bind fun b109 => (bif b109.Asks then some (LR.done (LR.done (LR.done (false, a0)))) else (idx a0.Cases a1.K).bind fun b118 => some (LR.next (a0.Now, (a0.Cases.set a1.K.toNat (⟨b118.End, true, b118.Final, b118.Said⟩ : Case)), a0.Line))) else ((bif (a1.Kind == 3) then some ((a1.Kind == 3)) else some ((a1.Kind == 4)))).bind fun x122 => ((bif x122 then (idx a0.Line a1.K).bind fun b138 => (slices_Delete_impl_Slip a0.Line a1.K (IntKind.i64.wrap (a1.K + 1))).bind fun b143 => ((bif (a1.Kind == 3) then (impl_Court_take (⟨a0.Now, a0.Cases, b143⟩ : Court) b138).bind fun b156 => some (b156.Now, b156.Cases, b156.Line) else some (a0.Now, a0.Cases, b143))).bind fun (x147, x148, x150) => some (LR.next (x147, x148, x150)) else ((bif (a1.Kind == 5) then (bif ((a0.Line.length : Int) == 30) then some (LR.done (LR.done (LR.done (LR.done (LR.done (false, a0)))))) else (idx a0.Line a1.K).bind fun b183 => (app 24 a0.Line ([b183] : List Slip)).bind fun x187 => some (LR.next (a0.Now, a0.Cases, x187))) else (bif (a1.Kind == 6) then ((bif (a1.K != 0) then some (true) else some ((a0.Now == 200)))).bind fun x193 => (bif x193 then some (LR.done (LR.done (LR.done (LR.done (LR.done (false, a0)))))) else (impl_Court_tick a0).bind fun b209 => some (LR.next (b209.Now, b209.Cases, b209.Line))) else some (LR.done (LR.done (LR.done (LR.done (LR.done (false, a0))))))))).bind fun y => match y with | LR.next (x160, x161, x163) => some (LR.next (x160, x161, x163)) | LR.done z => some z)).bind fun y => match y with | LR.next (x127, x128, x130) => some (LR.next (x127, x128, x130)) | LR.done z => some z)).bind fun y => match y with | LR.next (x97, x98, x100) => some (LR.next (x97, x98, x100)) | LR.done z => some z)).bind fun y => match y with | LR.next (x73, x74, x76) => some (LR.next (x73, x74, x76)) | LR.done z => some z).bind fun y => match y with | LR.next (x64, x65, x67) => some (true, (⟨x64, x65, x67⟩ : Court)) | LR.done z => some z) | LR.done z => some z
noncomputable def impl_SettleCourt_l0 (x : (Int × Int × Int × (List Case) × (List Slip))) : Option (LR (Int × Int × Int × (List Case) × (List Slip)) (Int × Int × (List Case) × (List Slip))) :=
  match x with
  | (x21, x22, x23, x24, x26) => (bif (decide (0 ≤ x22)) then (impl_Court_step (⟨x23, x24, ([] : List Slip)⟩ : Court) (⟨1, x22⟩ : CourtStep)).bind fun (_b51, b52) => (impl_Court_step b52 (⟨3, 0⟩ : CourtStep)).bind fun (_b57, b58) => (impl_Court_step b58 (⟨3, 0⟩ : CourtStep)).bind fun (_b63, b64) => (impl_Court_unsettled b64).bind fun b67 => some (LR.next ((IntKind.i64.wrap (x21 + 1)), b67, b64.Now, b64.Cases, b64.Line)) else some (LR.done (x21, x23, x24, x26)))
noncomputable def impl_SettleCourt (a0 : Court) : Option (Court × Int × Bool) :=
  (impl_GoodCourt a0).bind fun b8 => (bif (!b8) then some ((⟨0, [], []⟩ : Court), 0, false) else (impl_Court_copied a0).bind fun b11 => (impl_Court_unsettled b11).bind fun b20 => (whl (impl_SettleCourt_l0) (0, b20, b11.Now, b11.Cases, b11.Line)).bind fun (x29, x30, x31, x33) => some ((⟨x30, x31, x33⟩ : Court), x29, true))
noncomputable def laws_eqCase (a0 : Case) (a1 : Case) : Option (Bool) :=
  (bif (a0.End != a1.End) then some false else (bif (!(a0.Asks == a1.Asks)) then some false else (bif (a0.Final != a1.Final) then some false else (bif (a0.Said != a1.Said) then some false else some true))))
noncomputable def laws_eqCaseS_l0 (a0 : List Case) (a1 : List Case) (x : (Int)) : Option (LR (Int) (LR Unit (Bool))) :=
  match x with
  | (x7) => (bif (decide (x7 < (a0.length : Int))) then (idx a0 x7).bind fun b21 => (idx a1 x7).bind fun b22 => (laws_eqCase b21 b22).bind fun b23 => (bif (!b23) then some (LR.done (LR.done false)) else some (LR.next ((IntKind.i64.wrap (x7 + 1))))) else some (LR.done (LR.next ())))
noncomputable def laws_eqCaseS (a0 : List Case) (a1 : List Case) : Option (Bool) :=
  (bif ((a0.length : Int) != (a1.length : Int)) then some false else (whl (laws_eqCaseS_l0 a0 a1) (0)).bind fun y => match y with | LR.next () => some true | LR.done z => some z)
noncomputable def laws_eqSlip (a0 : Slip) (a1 : Slip) : Option (Bool) :=
  (bif (a0.Kind != a1.Kind) then some false else (bif (a0.Case != a1.Case) then some false else (bif (a0.What != a1.What) then some false else some true)))
noncomputable def laws_eqSlipS_l0 (a0 : List Slip) (a1 : List Slip) (x : (Int)) : Option (LR (Int) (LR Unit (Bool))) :=
  match x with
  | (x7) => (bif (decide (x7 < (a0.length : Int))) then (idx a0 x7).bind fun b21 => (idx a1 x7).bind fun b22 => (laws_eqSlip b21 b22).bind fun b23 => (bif (!b23) then some (LR.done (LR.done false)) else some (LR.next ((IntKind.i64.wrap (x7 + 1))))) else some (LR.done (LR.next ())))
noncomputable def laws_eqSlipS (a0 : List Slip) (a1 : List Slip) : Option (Bool) :=
  (bif ((a0.length : Int) != (a1.length : Int)) then some false else (whl (laws_eqSlipS_l0 a0 a1) (0)).bind fun y => match y with | LR.next () => some true | LR.done z => some z)
noncomputable def laws_eqCourt (a0 : Court) (a1 : Court) : Option (Bool) :=
  (bif (a0.Now != a1.Now) then some false else (laws_eqCaseS a0.Cases a1.Cases).bind fun b11 => (bif (!b11) then some false else (laws_eqSlipS a0.Line a1.Line).bind fun b15 => (bif (!b15) then some false else some true)))
noncomputable def laws_markCaseS_l0 (x : ((List Case) × Int × Int)) : Option (LR ((List Case) × Int × Int) (Int × (List Case))) :=
  match x with
  | (x4, x5, x6) => (bif (decide (x6 < (x4.length : Int))) then (idx x4 x6).bind fun b22 => (idx (x4.set x6.toNat (⟨x5, b22.Asks, b22.Final, b22.Said⟩ : Case)) x6).bind fun b26 => (idx ((x4.set x6.toNat (⟨x5, b22.Asks, b22.Final, b22.Said⟩ : Case)).set x6.toNat (⟨b26.End, ((Int.tmod (IntKind.i64.wrap (x5 + 1)) 3) == 0), b26.Final, b26.Said⟩ : Case)) x6).bind fun b30 => (idx (((x4.set x6.toNat (⟨x5, b22.Asks, b22.Final, b22.Said⟩ : Case)).set x6.toNat (⟨b26.End, ((Int.tmod (IntKind.i64.wrap (x5 + 1)) 3) == 0), b26.Final, b26.Said⟩ : Case)).set x6.toNat (⟨b30.End, b30.Asks, (IntKind.i64.wrap ((IntKind.i64.wrap (x5 + 1)) + 1)), b30.Said⟩ : Case)) x6).bind fun b34 => some (LR.next (((((x4.set x6.toNat (⟨x5, b22.Asks, b22.Final, b22.Said⟩ : Case)).set x6.toNat (⟨b26.End, ((Int.tmod (IntKind.i64.wrap (x5 + 1)) 3) == 0), b26.Final, b26.Said⟩ : Case)).set x6.toNat (⟨b30.End, b30.Asks, (IntKind.i64.wrap ((IntKind.i64.wrap (x5 + 1)) + 1)), b30.Said⟩ : Case)).set x6.toNat (⟨b34.End, b34.Asks, b34.Final, (IntKind.i64.wrap ((IntKind.i64.wrap ((IntKind.i64.wrap (x5 + 1)) + 1)) + 1))⟩ : Case)), (IntKind.i64.wrap ((IntKind.i64.wrap ((IntKind.i64.wrap ((IntKind.i64.wrap (x5 + 1)) + 1)) + 1)) + 1)), (IntKind.i64.wrap (x6 + 1)))) else some (LR.done (x5, x4)))
noncomputable def laws_markCaseS (a0 : List Case) (a1 : Int) : Option (Int × List Case) :=
  (whl (laws_markCaseS_l0) (a0, a1, 0)).bind fun (x7, x8) => some (x7, x8)
noncomputable def laws_markSlipS_l0 (x : ((List Slip) × Int × Int)) : Option (LR ((List Slip) × Int × Int) (Int × (List Slip))) :=
  match x with
  | (x4, x5, x6) => (bif (decide (x6 < (x4.length : Int))) then (idx x4 x6).bind fun b22 => (idx (x4.set x6.toNat (⟨x5, b22.Case, b22.What⟩ : Slip)) x6).bind fun b26 => (idx ((x4.set x6.toNat (⟨x5, b22.Case, b22.What⟩ : Slip)).set x6.toNat (⟨b26.Kind, (IntKind.i64.wrap (x5 + 1)), b26.What⟩ : Slip)) x6).bind fun b30 => some (LR.next ((((x4.set x6.toNat (⟨x5, b22.Case, b22.What⟩ : Slip)).set x6.toNat (⟨b26.Kind, (IntKind.i64.wrap (x5 + 1)), b26.What⟩ : Slip)).set x6.toNat (⟨b30.Kind, b30.Case, (IntKind.i64.wrap ((IntKind.i64.wrap (x5 + 1)) + 1))⟩ : Slip)), (IntKind.i64.wrap ((IntKind.i64.wrap ((IntKind.i64.wrap (x5 + 1)) + 1)) + 1)), (IntKind.i64.wrap (x6 + 1)))) else some (LR.done (x5, x4)))
noncomputable def laws_markSlipS (a0 : List Slip) (a1 : Int) : Option (Int × List Slip) :=
  (whl (laws_markSlipS_l0) (a0, a1, 0)).bind fun (x7, x8) => some (x7, x8)
noncomputable def laws_markCourt (a0 : Court) (a1 : Int) : Option (Int × List Case × List Slip) :=
  (laws_markCaseS a0.Cases a1).bind fun (b6, b7) => (laws_markSlipS a0.Line b6).bind fun (b10, b11) => some (b10, b7, b11)
noncomputable def laws_heldCaseS_l0 (a0 : List Case) (x : (Int × Int)) : Option (LR (Int × Int) (LR (Int) (Int))) :=
  match x with
  | (x4, x5) => (bif (decide (x5 < (a0.length : Int))) then (idx a0 x5).bind fun b21 => (bif (b21.End != x4) then some (LR.done (LR.done (-1))) else (idx a0 x5).bind fun b30 => (bif (!(b30.Asks == ((Int.tmod (IntKind.i64.wrap (x4 + 1)) 3) == 0))) then some (LR.done (LR.done (-1))) else (idx a0 x5).bind fun b39 => (bif (b39.Final != (IntKind.i64.wrap ((IntKind.i64.wrap (x4 + 1)) + 1))) then some (LR.done (LR.done (-1))) else (idx a0 x5).bind fun b48 => (bif (b48.Said != (IntKind.i64.wrap ((IntKind.i64.wrap ((IntKind.i64.wrap (x4 + 1)) + 1)) + 1))) then some (LR.done (LR.done (-1))) else some (LR.next ((IntKind.i64.wrap ((IntKind.i64.wrap ((IntKind.i64.wrap ((IntKind.i64.wrap (x4 + 1)) + 1)) + 1)) + 1)), (IntKind.i64.wrap (x5 + 1)))))))) else some (LR.done (LR.next (x4))))
noncomputable def laws_heldCaseS (a0 : List Case) (a1 : Int) : Option (Int) :=
  (whl (laws_heldCaseS_l0 a0) (a1, 0)).bind fun y => match y with | LR.next (x6) => some x6 | LR.done z => some z
noncomputable def laws_heldSlipS_l0 (a0 : List Slip) (x : (Int × Int)) : Option (LR (Int × Int) (LR (Int) (Int))) :=
  match x with
  | (x4, x5) => (bif (decide (x5 < (a0.length : Int))) then (idx a0 x5).bind fun b21 => (bif (b21.Kind != x4) then some (LR.done (LR.done (-1))) else (idx a0 x5).bind fun b30 => (bif (b30.Case != (IntKind.i64.wrap (x4 + 1))) then some (LR.done (LR.done (-1))) else (idx a0 x5).bind fun b39 => (bif (b39.What != (IntKind.i64.wrap ((IntKind.i64.wrap (x4 + 1)) + 1))) then some (LR.done (LR.done (-1))) else some (LR.next ((IntKind.i64.wrap ((IntKind.i64.wrap ((IntKind.i64.wrap (x4 + 1)) + 1)) + 1)), (IntKind.i64.wrap (x5 + 1))))))) else some (LR.done (LR.next (x4))))
noncomputable def laws_heldSlipS (a0 : List Slip) (a1 : Int) : Option (Int) :=
  (whl (laws_heldSlipS_l0 a0) (a1, 0)).bind fun y => match y with | LR.next (x6) => some x6 | LR.done z => some z
noncomputable def laws_heldCourt (a0 : Court) (a1 : Int) : Option (Int) :=
  (laws_heldCaseS a0.Cases a1).bind fun b5 => (bif (decide (b5 < 0)) then some (-1) else (laws_heldSlipS a0.Line b5).bind fun b10 => (bif (decide (b10 < 0)) then some (-1) else some b10))
noncomputable def laws_FnExactSettleCourt (a0 : Court) : Option (Bool) :=
  (laws_szCourt a0 1048576).bind fun b6 => (bif (decide (b6 < 0)) then some true else (laws_toCourt a0).bind fun b11 => (spec_SettleCourt b11).bind fun (b17, b18, b19) => (laws_toCourt a0).bind fun b29 => (impl_SettleCourt b29).bind fun (b38, b39, b40) => ((laws_eqCourt b38 b17).bind fun b56 => (bif (!b56) then some (true) else (bif (b39 != b18) then some (true) else some ((!(b40 == b19)))))).bind fun x51 => (bif x51 then some false else (laws_toCourt a0).bind fun b60 => (laws_eqCourt b29 b60).bind fun b63 => (bif (!b63) then some false else (laws_markCourt b29 1).bind fun (b68, _b69, _b70) => ((bif (decide (b68 < 0)) then some (true) else (laws_eqCourt b38 b17).bind fun b78 => (bif (!b78) then some (true) else (bif (b39 != b18) then some (true) else some ((!(b40 == b19))))))).bind fun x73 => (bif x73 then some false else (laws_markCourt b38 1).bind fun (b83, b84, b85) => (laws_heldCourt (⟨b38.Now, b84, b85⟩ : Court) 1).bind fun b88 => (bif (decide (b88 < 0)) then some false else (bif (b88 != b83) then some false else (laws_toCourt a0).bind fun b96 => (impl_SettleCourt b96).bind fun (b102, b103, b104) => ((laws_eqCourt b102 b17).bind fun b120 => (bif (!b120) then some (true) else (bif (b103 != b18) then some (true) else some ((!(b104 == b19)))))).bind fun x115 => (bif x115 then some false else (laws_heldCourt (⟨b38.Now, b84, b85⟩ : Court) 1).bind fun b124 => (bif (decide (b124 < 0)) then some false else (bif (b124 != b83) then some false else some true)))))))))
end Go.VxW
