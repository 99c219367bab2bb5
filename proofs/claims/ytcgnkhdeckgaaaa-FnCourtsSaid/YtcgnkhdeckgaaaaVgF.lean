import Derived.Test.YtcgnkhdeckgaaaaVaE
open Go Go.VS
set_option maxRecDepth 8000
namespace Go.VxW
structure Case where
  End : Int
  Asks : Bool
  Final : Int
  Said : Int
structure Slip where
  Kind : Int
  Case : Int
  What : Int
structure Court where
  Now : Int
  Cases : List Case
  Line : List Slip
structure CourtStep where
  Kind : Int
  K : Int
structure L1Cur where
  Code : List Int
  At : Int
  Seed : Int
noncomputable def spec_l1Cur_next (a0 : L1Cur) : Option (Int × L1Cur) :=
  ((bif (decide (a0.At < (a0.Code.length : Int))) then (idx a0.Code a0.At).bind fun b10 => some ((IntKind.i64.wrap b10)) else some (0))).bind fun x5 => (bif (decide ((IntKind.i64.wrap (a0.At + 1)) ≤ (a0.Code.length : Int))) then some (x5, (⟨a0.Code, (IntKind.i64.wrap (a0.At + 1)), (IntKind.u64.wrap ((IntKind.u64.wrap ((IntKind.u64.wrap (a0.Seed * 6364136223846793005)) + (IntKind.u64.wrap x5))) + 1442695040888963407))⟩ : L1Cur)) else some ((IntKind.i64.wrap (andL .u64 (shrL .u64 (IntKind.u64.wrap ((IntKind.u64.wrap ((IntKind.u64.wrap (a0.Seed * 6364136223846793005)) + (IntKind.u64.wrap x5))) + 1442695040888963407)) 40) 255)), (⟨a0.Code, (IntKind.i64.wrap (a0.At + 1)), (IntKind.u64.wrap ((IntKind.u64.wrap ((IntKind.u64.wrap (a0.Seed * 6364136223846793005)) + (IntKind.u64.wrap x5))) + 1442695040888963407))⟩ : L1Cur)))
noncomputable def spec_l1Cur_pick (a0 : L1Cur) (a1 : Int) : Option (Int × L1Cur) :=
  (bif (decide (a1 ≤ 1)) then some (0, a0) else (spec_l1Cur_next a0).bind fun (b7, b8) => ((bif (decide (200 < a1)) then (spec_l1Cur_next b8).bind fun (b20, b21) => some ((IntKind.i64.wrap ((IntKind.i64.wrap (b7 * 256)) + b20)), b21.Code, b21.At, b21.Seed) else some (b7, b8.Code, b8.At, b8.Seed))).bind fun (x11, x12, x13, x14) => (md x11 a1).bind fun x23 => some (x23, (⟨x12, x13, x14⟩ : L1Cur)))
noncomputable def spec_l1Cur_one (a0 : L1Cur) (a1 : Int) : Option (Bool × L1Cur) :=
  (spec_l1Cur_pick a0 a1).bind fun (b4, b5) => some ((b4 == 0), b5)
noncomputable def spec_l1Cur_among (a0 : L1Cur) (a1 : List Int) : Option (Int × L1Cur) :=
  (spec_l1Cur_pick a0 (a1.length : Int)).bind fun (b4, b5) => (idx a1 b4).bind fun b6 => some (b6, b5)
noncomputable def spec_l1Cur_ends_l0 (x : ((List Int) × Int × (List Int) × Int × Int)) : Option (LR ((List Int) × Int × (List Int) × Int × Int) ((List Int) × (List Int) × Int × Int)) :=
  match x with
  | (x8, x11, x12, x13, x14) => (bif (decide (0 < x11)) then (spec_l1Cur_pick (⟨x12, x13, x14⟩ : L1Cur) 8).bind fun (b33, b34) => (app 8 x8 ([b33] : List Int)).bind fun x37 => some (LR.next (x37, (IntKind.i64.wrap (x11 - 1)), b34.Code, b34.At, b34.Seed)) else some (LR.done (x8, x12, x13, x14)))
noncomputable def spec_l1Cur_ends (a0 : L1Cur) : Option (List Int × L1Cur) :=
  (spec_l1Cur_pick a0 6).bind fun (b6, b7) => (whl (spec_l1Cur_ends_l0) ([], b6, b7.Code, b7.At, b7.Seed)).bind fun (x15, x17, x18, x19) => ((bif (decide (0 < (x15.length : Int))) then (spec_l1Cur_one (⟨x17, x18, x19⟩ : L1Cur) 30).bind fun (b53, b54) => some (b53, b54.Code, b54.At, b54.Seed) else some (false, x17, x18, x19))).bind fun (x44, x45, x46, x47) => ((bif x44 then (spec_l1Cur_among (⟨x45, x46, x47⟩ : L1Cur) ([-1, 100, 101] : List Int)).bind fun (b66, b67) => (idx x15 0).bind fun _b68 => some ((x15.set (0 : Int).toNat b66), b67.Code, b67.At, b67.Seed) else some (x15, x45, x46, x47))).bind fun (x55, x56, x57, x58) => some (x55, (⟨x56, x57, x58⟩ : L1Cur))
noncomputable def spec_l1Cur_courtSteps_l0 (x : ((List CourtStep) × Int × (List Int) × Int × Int)) : Option (LR ((List CourtStep) × Int × (List Int) × Int × Int) ((List CourtStep) × (List Int) × Int × Int)) :=
  match x with
  | (x24, x27, x28, x29, x30) => (bif (decide (0 < x27)) then (spec_l1Cur_among (⟨x28, x29, x30⟩ : L1Cur) ([1, 1, 1, 2, 3, 3, 3, 3, 4, 5, 6] : List Int)).bind fun (b52, b53) => ((bif (b52 != 6) then (spec_l1Cur_pick b53 4).bind fun (b67, b68) => some (b68.Code, b68.At, b68.Seed, b67) else some (b53.Code, b53.At, b53.Seed, 0))).bind fun (x58, x59, x60, x61) => (app 16 x24 ([(⟨b52, x61⟩ : CourtStep)] : List CourtStep)).bind fun x71 => some (LR.next (x71, (IntKind.i64.wrap (x27 - 1)), x58, x59, x60)) else some (LR.done (x24, x28, x29, x30)))
noncomputable def spec_l1Cur_courtSteps (a0 : L1Cur) : Option (List CourtStep × L1Cur) :=
  (spec_l1Cur_pick a0 40).bind fun (b5, b6) => (spec_l1Cur_one b6 12).bind fun (b10, b11) => ((bif b10 then (spec_l1Cur_pick b11 3).bind fun (b21, b22) => some ((IntKind.i64.wrap (119 + b21)), b22.Code, b22.At, b22.Seed) else some (b5, b11.Code, b11.At, b11.Seed))).bind fun (x12, x13, x14, x15) => (whl (spec_l1Cur_courtSteps_l0) ([], x12, x13, x14, x15)).bind fun (x31, x33, x34, x35) => ((bif (decide (0 < (x31.length : Int))) then (spec_l1Cur_one (⟨x33, x34, x35⟩ : L1Cur) 20).bind fun (b87, b88) => some (b87, b88.Code, b88.At, b88.Seed) else some (false, x33, x34, x35))).bind fun (x78, x79, x80, x81) => ((bif x78 then (spec_l1Cur_pick (⟨x79, x80, x81⟩ : L1Cur) 8).bind fun (b98, b99) => (spec_l1Cur_pick b99 4).bind fun (b101, b102) => (idx x31 0).bind fun _b103 => some ((x31.set (0 : Int).toNat (⟨b98, (IntKind.i64.wrap (b101 - 1))⟩ : CourtStep)), b102.Code, b102.At, b102.Seed) else some (x31, x79, x80, x81))).bind fun (x89, x90, x91, x92) => some (x89, (⟨x90, x91, x92⟩ : L1Cur))
noncomputable def spec_l1In (a0 : Int) (a1 : Int) (a2 : Int) : Option (Bool) :=
  (bif (decide (a1 ≤ a0)) then some (decide (a0 ≤ a2)) else some false)
noncomputable def spec_l1All_l0 (a0 : List Int) (a1 : Int) (a2 : Int) (x : (Int)) : Option (LR (Int) (LR Unit (Bool))) :=
  match x with
  | (x4) => (bif (decide (x4 < (a0.length : Int))) then (idx a0 x4).bind fun b18 => (spec_l1In b18 a1 a2).bind fun b20 => (bif (!b20) then some (LR.done (LR.done false)) else some (LR.next ((IntKind.i64.wrap (x4 + 1))))) else some (LR.done (LR.next ())))
noncomputable def spec_l1All (a0 : List Int) (a1 : Int) (a2 : Int) : Option (Bool) :=
  (whl (spec_l1All_l0 a0 a1 a2) (0)).bind fun y => match y with | LR.next () => some true | LR.done z => some z
noncomputable def spec_NewCourt_l0 (a0 : List Int) (x : (Int × (List Case))) : Option (LR (Int × (List Case)) ((List Case))) :=
  match x with
  | (x18, x19) => (bif (decide (x18 < (a0.length : Int))) then (idx a0 x18).bind fun b37 => (app 32 x19 ([(⟨b37, false, 0, 0⟩ : Case)] : List Case)).bind fun x40 => some (LR.next ((IntKind.i64.wrap (x18 + 1)), x40)) else some (LR.done (x19)))
noncomputable def spec_NewCourt (a0 : List Int) : Option (Court × Bool) :=
  ((bif (decide (6 < (a0.length : Int))) then some (true) else (spec_l1All a0 0 100).bind fun b11 => some ((!b11)))).bind fun x6 => (bif x6 then some ((⟨0, [], []⟩ : Court), false) else (whl (spec_NewCourt_l0 a0) (0, [])).bind fun x22 => some ((⟨0, x22, []⟩ : Court), true))
noncomputable def spec_l16Own (a0 : Court) : Option (Court) :=
  (app 32 ([] : List Case) a0.Cases).bind fun x8 => (app 24 ([] : List Slip) a0.Line).bind fun x13 => some (⟨a0.Now, x8, x13⟩ : Court)
noncomputable def spec_l16Write (a0 : Court) (a1 : Slip) : Option (Court) :=
  ((bif (decide ((a0.Line.length : Int) < 30)) then (app 24 a0.Line ([a1] : List Slip)).bind fun x19 => some (x19) else some (a0.Line))).bind fun x10 => some (⟨a0.Now, a0.Cases, x10⟩ : Court)
noncomputable def spec_l16Take (a0 : Court) (a1 : Slip) : Option (Court) :=
  (bif (a1.Kind == 3) then (idx a0.Cases a1.Case).bind fun b11 => some (⟨a0.Now, (a0.Cases.set a1.Case.toNat (⟨b11.End, b11.Asks, a1.What, b11.Said⟩ : Case)), a0.Line⟩ : Court) else (idx a0.Cases a1.Case).bind fun b16 => ((bif (b16.Said == 0) then ((bif (a1.Kind == 2) then some (2) else some (1))).bind fun x26 => (idx a0.Cases a1.Case).bind fun b31 => some ((a0.Cases.set a1.Case.toNat (⟨b31.End, b31.Asks, b31.Final, x26⟩ : Case))) else some (a0.Cases))).bind fun x18 => (idx x18 a1.Case).bind fun b34 => (spec_l16Write (⟨a0.Now, x18, a0.Line⟩ : Court) (⟨3, a1.Case, b34.Said⟩ : Slip)).bind fun b36 => some b36)
noncomputable def spec_l16Step_l0 (a0 : Court) (x : ((List Case) × Int)) : Option (LR ((List Case) × Int) ((List Case))) :=
  match x with
  | (x23, x24) => (bif (decide (x24 < (a0.Cases.length : Int))) then ((idx x23 x24).bind fun b43 => ((bif (b43.Said == 0) then some ((decide (b43.End < (IntKind.i64.wrap (a0.Now + 1))))) else some (false))).bind fun x48 => ((bif x48 then (idx x23 x24).bind fun b58 => some ((x23.set x24.toNat (⟨b58.End, b58.Asks, b58.Final, 2⟩ : Case))) else some (x23))).bind fun x53 => some (x53)).bind fun x38 => some (LR.next (x38, (IntKind.i64.wrap (x24 + 1)))) else some (LR.done (x23)))
noncomputable def spec_l16Step (a0 : Court) (a1 : CourtStep) : Option (Court × Bool) :=
  (bif (a1.Kind == 6) then ((bif (a1.K != 0) then some (true) else some ((a0.Now == 200)))).bind fun x14 => (bif x14 then some (a0, false) else (whl (spec_l16Step_l0 a0) (a0.Cases, 0)).bind fun x25 => some ((⟨(IntKind.i64.wrap (a0.Now + 1)), x25, a0.Line⟩ : Court), true)) else ((bif (a1.Kind == 1) then some ((a1.Kind == 1)) else some ((a1.Kind == 2)))).bind fun x65 => (bif x65 then ((bif (decide (a1.K < 0)) then some (true) else (bif (decide ((a0.Cases.length : Int) ≤ a1.K)) then some (true) else (idx a0.Cases a1.K).bind fun b78 => (bif (b78.Final != 0) then some (true) else (bif (a1.Kind == 2) then (idx a0.Cases a1.K).bind fun b80 => some (b80.Asks) else some (false)))))).bind fun x73 => (bif x73 then some (a0, false) else (bif (a1.Kind == 2) then (idx a0.Cases a1.K).bind fun b86 => some ((⟨a0.Now, (a0.Cases.set a1.K.toNat (⟨b86.End, true, b86.Final, b86.Said⟩ : Case)), a0.Line⟩ : Court), true) else (idx a0.Cases a1.K).bind fun b92 => ((bif b92.Asks then some (2) else some (1))).bind fun x94 => (spec_l16Write a0 (⟨x94, a1.K, 0⟩ : Slip)).bind fun b100 => some (b100, true))) else ((bif (decide (a1.K < 0)) then some (true) else (bif (decide ((a0.Line.length : Int) ≤ a1.K)) then some (true) else (spec_l1In a1.Kind 3 5).bind fun b112 => some ((!b112))))).bind fun x107 => (bif x107 then some (a0, false) else (idx a0.Line a1.K).bind fun b115 => (bif (a1.Kind == 5) then (bif ((a0.Line.length : Int) == 30) then some (a0, false) else (spec_l16Write a0 b115).bind fun b125 => some (b125, true)) else (slc a0.Line 0 a1.K).bind fun x131 => (app 24 ([] : List Slip) x131).bind fun x134 => (slc a0.Line (IntKind.i64.wrap (a1.K + 1)) (a0.Line.length : Int)).bind fun x138 => (app 24 x134 x138).bind fun x141 => (bif (a1.Kind == 3) then (spec_l16Take (⟨a0.Now, a0.Cases, x141⟩ : Court) b115).bind fun b147 => some (b147, true) else some ((⟨a0.Now, a0.Cases, x141⟩ : Court), true))))))
noncomputable def spec_PlayCourt_l0 (a1 : List CourtStep) (x : ((List Bool) × Int × Int × (List Case) × (List Slip))) : Option (LR ((List Bool) × Int × Int × (List Case) × (List Slip)) ((List Bool) × Int × (List Case) × (List Slip))) :=
  match x with
  | (x25, x28, x29, x30, x33) => (bif (decide (x28 < (a1.length : Int))) then (idx a1 x28).bind fun b56 => (spec_l16Own (⟨x29, x30, x33⟩ : Court)).bind fun b60 => (spec_l16Step b60 b56).bind fun (b68, b69) => ((bif b69 then some (b68.Now, b68.Cases, b68.Line) else some (x29, x30, x33))).bind fun (x78, x79, x82) => (app 1 x25 ([b69] : List Bool)).bind fun x91 => some (LR.next (x91, (IntKind.i64.wrap (x28 + 1)), x78, x79, x82)) else some (LR.done (x25, x29, x30, x33)))
noncomputable def spec_PlayCourt (a0 : List Int) (a1 : List CourtStep) : Option (Court × List Bool × Bool) :=
  (spec_NewCourt a0).bind fun (b6, b7) => ((bif (!b7) then some (true) else some ((decide (120 < (a1.length : Int)))))).bind fun x16 => (bif x16 then some ((⟨0, [], []⟩ : Court), [], false) else (whl (spec_PlayCourt_l0 a1) ([], 0, b6.Now, b6.Cases, b6.Line)).bind fun (x36, x38, x39, x41) => (spec_l16Own (⟨x38, x39, x41⟩ : Court)).bind fun b97 => some (b97, x36, true))
noncomputable def spec_l1Cur_court (a0 : L1Cur) : Option (Court × L1Cur) :=
  (spec_l1Cur_ends a0).bind fun (b6, b7) => (spec_l1Cur_courtSteps b7).bind fun (b11, b12) => (spec_PlayCourt b6 b11).bind fun (b16, _b17, b18) => ((bif (!b18) then (spec_NewCourt ([3] : List Int)).bind fun (b46, _b47) => some (b46.Now, b46.Cases, b46.Line) else some (b16.Now, b16.Cases, b16.Line))).bind fun (x32, x33, x36) => (spec_l1Cur_pick b12 30).bind fun (b57, b58) => (((bif (b57 == 0) then (spec_l1Cur_among b58 ([-1, 200, 201] : List Int)).bind fun (b86, b87) => some (b87.Code, b87.At, b87.Seed, b86, x33, x36) else ((bif (b57 == 1) then ((bif (decide (0 < (x33.length : Int))) then (spec_l1Cur_pick b58 4).bind fun (b110, b111) => (idx x33 0).bind fun b112 => some (b111.Code, b111.At, b111.Seed, (x33.set (0 : Int).toNat (⟨b112.End, b112.Asks, b110, b112.Said⟩ : Case))) else some (b58.Code, b58.At, b58.Seed, x33))).bind fun (x101, x102, x103, x104) => some (x101, x102, x103, x104, x36) else ((bif (b57 == 2) then (spec_l1Cur_pick b58 5).bind fun (b126, b127) => (spec_l1Cur_pick b127 3).bind fun (b129, b130) => (spec_l1Cur_pick b130 3).bind fun (b132, b133) => (app 24 x36 ([(⟨b126, b129, b132⟩ : Slip)] : List Slip)).bind fun x136 => some (b133.Code, b133.At, b133.Seed, x136) else some (b58.Code, b58.At, b58.Seed, x36))).bind fun (x115, x116, x117, x118) => some (x115, x116, x117, x33, x118))).bind fun (x89, x90, x91, x92, x93) => some (x89, x90, x91, x32, x92, x93))).bind fun (x71, x72, x73, x74, x75, x76) => some (x71, x72, x73, x74, x75, x76)).bind fun (x60, x61, x62, x63, x64, x65) => some ((⟨x63, x64, x65⟩ : Court), (⟨x60, x61, x62⟩ : L1Cur))
noncomputable def spec_DrawStepCourt (a0 : List Int) : Option (Court × CourtStep) :=
  (spec_l1Cur_court (⟨a0, 0, 0⟩ : L1Cur)).bind fun (b11, b12) => (spec_l1Cur_courtSteps b12).bind fun (b21, _b22) => (bif ((b21.length : Int) == 0) then some (b11, (⟨6, 0⟩ : CourtStep)) else (idx b21 0).bind fun b29 => some (b11, b29))
noncomputable def slices_Clone_impl_Case (a0 : List Case) : Option (List Case) :=
  app 32 [] a0
noncomputable def slices_Clone_impl_Slip (a0 : List Slip) : Option (List Slip) :=
  app 24 [] a0
noncomputable def impl_Court_copied (a0 : Court) : Option (Court) :=
  (slices_Clone_impl_Case a0.Cases).bind fun b7 => (slices_Clone_impl_Slip a0.Line).bind fun b11 => some (⟨a0.Now, b7, b11⟩ : Court)
noncomputable def impl_in (a0 : Int) (a1 : Int) (a2 : Int) : Option (Bool) :=
  (bif (decide (a1 ≤ a0)) then some (decide (a0 ≤ a2)) else some false)
noncomputable def impl_isVerdict (a0 : Int) : Option (Bool) :=
  (bif (a0 == 1) then some true else some (a0 == 2))
noncomputable def impl_Court_isSlip (a0 : Court) (a1 : Slip) : Option (Bool) :=
  (impl_in a1.Case 0 (IntKind.i64.wrap ((a0.Cases.length : Int) - 1))).bind fun b6 => (bif (!b6) then some false else (bif (a1.Kind == 3) then (impl_isVerdict a1.What).bind fun b11 => (bif b11 then (idx a0.Cases a1.Case).bind fun b12 => some (a1.What == b12.Said) else some false) else (bif (a1.Kind == 1) then some (a1.What == 0) else (bif (a1.Kind == 2) then some (a1.What == 0) else some false))))
noncomputable def impl_GoodCourt_1 (a0 : Slip) (a1 : Court) : Option (Bool) :=
  (impl_Court_isSlip a1 a0).bind fun b5 => some (!b5)
noncomputable def slices_IndexFunc_impl_Slip_l0 (a0 : List Slip) (g1 : Slip → Option Bool) (x : (Int)) : Option (LR (Int) (LR Unit (Int))) :=
  match x with
  | (x4) => (bif (decide (x4 < (a0.length : Int))) then (idx a0 x4).bind fun b19 => (g1 b19).bind fun b20 => (bif b20 then some (LR.done (LR.done x4)) else some (LR.next ((IntKind.i64.wrap (x4 + 1))))) else some (LR.done (LR.next ())))
noncomputable def slices_IndexFunc_impl_Slip (a0 : List Slip) (g1 : Slip → Option Bool) : Option (Int) :=
  (whl (slices_IndexFunc_impl_Slip_l0 a0 g1) (0)).bind fun y => match y with | LR.next () => some (-1) | LR.done z => some z
noncomputable def slices_ContainsFunc_impl_Slip (a0 : List Slip) (g1 : Slip → Option Bool) : Option (Bool) :=
  (slices_IndexFunc_impl_Slip a0 g1).bind fun b3 => some (decide (0 ≤ b3))
noncomputable def impl_GoodCourt_l0 (a0 : Court) (x : (Int)) : Option (LR (Int) (LR Unit (Bool))) :=
  match x with
  | (x15) => (bif (decide (x15 < (a0.Cases.length : Int))) then (idx a0.Cases x15).bind fun b29 => ((impl_in b29.End 0 100).bind fun b38 => (bif (!b38) then some (true) else (impl_in b29.Said 0 2).bind fun b39 => (bif (!b39) then some (true) else (bif (b29.Final != 0) then (bif (b29.Final != b29.Said) then some (true) else (bif (b29.Said == 0) then some ((decide (b29.End < a0.Now))) else some (false))) else (bif (b29.Said == 0) then some ((decide (b29.End < a0.Now))) else some (false)))))).bind fun x33 => (bif x33 then some (LR.done (LR.done false)) else some (LR.next ((IntKind.i64.wrap (x15 + 1))))) else some (LR.done (LR.next ())))
noncomputable def impl_GoodCourt (a0 : Court) : Option (Bool) :=
  ((impl_in a0.Now 0 200).bind fun b11 => (bif (!b11) then some (true) else (bif (decide (6 < (a0.Cases.length : Int))) then some (true) else some ((decide (30 < (a0.Line.length : Int))))))).bind fun x6 => (bif x6 then some false else (whl (impl_GoodCourt_l0 a0) (0)).bind fun y => match y with | LR.next () => (slices_ContainsFunc_impl_Slip a0.Line (fun y0 => impl_GoodCourt_1 y0 a0)).bind fun b48 => some (!b48) | LR.done z => some z)
noncomputable def impl_Court_goes (a0 : Court) (a1 : Slip) : Option (Court) :=
  (bif (decide ((a0.Line.length : Int) < 30)) then (app 24 a0.Line ([a1] : List Slip)).bind fun x7 => some (⟨a0.Now, a0.Cases, x7⟩ : Court) else some a0)
noncomputable def slices_Delete_impl_Slip (a0 : List Slip) (a1 : Int) (a2 : Int) : Option (List Slip) :=
  (slc a0 a1 a2).bind fun _x3 => (bif (a1 == a2) then some a0 else (slc a0 0 a1).bind fun x10 => (slc a0 a2 (a0.length : Int)).bind fun x12 => (app 24 x10 x12).bind fun x14 => some x14)
noncomputable def impl_Court_take (a0 : Court) (a1 : Slip) : Option (Court) :=
  (idx a0.Cases a1.Case).bind fun b5 => (bif (a1.Kind == 3) then some (⟨a0.Now, (a0.Cases.set a1.Case.toNat (⟨b5.End, b5.Asks, a1.What, b5.Said⟩ : Case)), a0.Line⟩ : Court) else ((bif (b5.Said == 0) then ((bif (a1.Kind == 2) then (idx (a0.Cases.set a1.Case.toNat (⟨b5.End, b5.Asks, b5.Final, 1⟩ : Case)) a1.Case).bind fun b25 => some (((a0.Cases.set a1.Case.toNat (⟨b5.End, b5.Asks, b5.Final, 1⟩ : Case)).set a1.Case.toNat (⟨b25.End, b25.Asks, b25.Final, 2⟩ : Case))) else some ((a0.Cases.set a1.Case.toNat (⟨b5.End, b5.Asks, b5.Final, 1⟩ : Case))))).bind fun x19 => some (x19) else some (a0.Cases))).bind fun x12 => (idx x12 a1.Case).bind fun b27 => (impl_Court_goes (⟨a0.Now, x12, a0.Line⟩ : Court) (⟨3, a1.Case, b27.Said⟩ : Slip)).bind fun b28 => some b28)
noncomputable def impl_Court_tick_l0 (a0 : Court) (x : ((List Case) × Int)) : Option (LR ((List Case) × Int) ((List Case))) :=
  match x with
  | (x3, x4) => (bif (decide (x4 < (a0.Cases.length : Int))) then ((idx x3 x4).bind fun b23 => ((bif (b23.Said == 0) then some ((decide (b23.End < (IntKind.i64.wrap (a0.Now + 1))))) else some (false))).bind fun x28 => ((bif x28 then (idx x3 x4).bind fun b38 => some ((x3.set x4.toNat (⟨b38.End, b38.Asks, b38.Final, 2⟩ : Case))) else some (x3))).bind fun x33 => some (x33)).bind fun x18 => some (LR.next (x18, (IntKind.i64.wrap (x4 + 1)))) else some (LR.done (x3)))
noncomputable def impl_Court_tick (a0 : Court) : Option (Court) :=
  (whl (impl_Court_tick_l0 a0) (a0.Cases, 0)).bind fun x5 => some (⟨(IntKind.i64.wrap (a0.Now + 1)), x5, a0.Line⟩ : Court)
noncomputable def impl_Court_step (a0 : Court) (a1 : CourtStep) : Option (Bool × Court) :=
  (((bif (a1.Kind == 1) then some ((a1.Kind == 1)) else some ((a1.Kind == 2)))).bind fun x12 => ((bif x12 then ((impl_in a1.K 0 (IntKind.i64.wrap ((a0.Cases.length : Int) - 1))).bind fun b27 => (bif (!b27) then some (true) else (idx a0.Cases a1.K).bind fun b28 => some ((b28.Final != 0)))).bind fun x22 => (bif x22 then some (LR.done (LR.done (false, a0))) else some (LR.next ())) else ((bif (a1.Kind == 3) then some ((a1.Kind == 3)) else ((bif (a1.Kind == 4) then some ((a1.Kind == 4)) else some ((a1.Kind == 5)))).bind fun x43 => some (x43))).bind fun x37 => ((bif x37 then (impl_in a1.K 0 (IntKind.i64.wrap ((a0.Line.length : Int) - 1))).bind fun b53 => (bif (!b53) then some (LR.done (LR.done (LR.done (false, a0)))) else some (LR.next ())) else some (LR.next ()))).bind fun y => match y with | LR.next () => some (LR.next ()) | LR.done z => some z)).bind fun y => match y with | LR.next () => some (LR.next ()) | LR.done z => some z).bind fun y => match y with | LR.next () => ((((bif (a1.Kind == 1) then (idx a0.Cases a1.K).bind fun b86 => ((bif b86.Asks then some (2) else some (1))).bind fun x88 => (impl_Court_goes a0 (⟨x88, a1.K, 0⟩ : Slip)).bind fun b93 => some (LR.next (b93.Now, b93.Cases, b93.Line)) else ((bif (a1.Kind == 2) then (idx a0.Cases a1.K).bind fun b109 => (bif b109.Asks then some (LR.done (LR.done (LR.done (false, a0)))) else (idx a0.Cases a1.K).bind fun b118 => some (LR.next (a0.Now, (a0.Cases.set a1.K.toNat (⟨b118.End, true, b118.Final, b118.Said⟩ : Case)), a0.Line))) else ((bif (a1.Kind == 3) then some ((a1.Kind == 3)) else some ((a1.Kind == 4)))).bind fun x122 => ((bif x122 then (idx a0.Line a1.K).bind fun b138 => (slices_Delete_impl_Slip a0.Line a1.K (IntKind.i64.wrap (a1.K + 1))).bind fun b143 => ((bif (a1.Kind == 3) then (impl_Court_take (⟨a0.Now, a0.Cases, b143⟩ : Court) b138).bind fun b156 => some (b156.Now, b156.Cases, b156.Line) else some (a0.Now, a0.Cases, b143))).bind fun (x147, x148, x150) => some (LR.next (x147, x148, x150)) else ((bif (a1.Kind == 5) then (bif ((a0.Line.length : Int) == 30) then some (LR.done (LR.done (LR.done (LR.done (LR.done (false, a0)))))) else (idx a0.Line a1.K).bind fun b183 => (app 24 a0.Line ([b183] : List Slip)).bind fun x187 => some (LR.next (a0.Now, a0.Cases, x187))) else (bif (a1.Kind == 6) then ((bif (a1.K != 0) then some (true) else some ((a0.Now == 200)))).bind fun x193 => (bif x193 then some (LR.done (LR.done (LR.done (LR.done (LR.done (false, a0)))))) else (impl_Court_tick a0).bind fun b209 => some (LR.next (b209.Now, b209.Cases, b209.Line))) else some (LR.done (LR.done (LR.done (LR.done (LR.done (false, a0))))))))).bind fun y => match y with | LR.next (x160, x161, x163) => some (LR.next (x160, x161, x163)) | LR.done z => some z)).bind fun y => match y with | LR.next (x127, x128, x130) => some (LR.next (x127, x128, x130)) | LR.done z => some z)).bind fun y => match y with | LR.next (x97, x98, x100) => some (LR.next (x97, x98, x100)) | LR.done z => some z)).bind fun y => match y with | LR.next (x73, x74, x76) => some (LR.next (x73, x74, x76)) | LR.done z => some z).bind fun y => match y with | LR.next (x64, x65, x67) => some (true, (⟨x64, x65, x67⟩ : Court)) | LR.done z => some z) | LR.done z => some z
noncomputable def impl_StepCourt (a0 : Court) (a1 : CourtStep) : Option (Court × Bool) :=
  (impl_Court_copied a0).bind fun b9 => ((impl_GoodCourt a0).bind fun b28 => (bif (!b28) then some (true, b9.Now, b9.Cases, b9.Line) else (impl_Court_step b9 a1).bind fun (b30, b31) => some ((!b30), b31.Now, b31.Cases, b31.Line))).bind fun (x18, x19, x20, x22) => (bif x18 then some ((⟨0, [], []⟩ : Court), false) else some ((⟨x19, x20, x22⟩ : Court), true))
noncomputable def spec_l16Verdict (a0 : Int) : Option (Bool) :=
  (spec_l1In a0 0 2).bind fun b3 => some b3
noncomputable def spec_GoodCourt_l0 (a0 : Court) (x : (Int)) : Option (LR (Int) (LR Unit (Bool))) :=
  match x with
  | (x6) => (bif (decide (x6 < (a0.Cases.length : Int))) then (idx a0.Cases x6).bind fun b20 => ((spec_l1In b20.End 0 100).bind fun b29 => (bif (!b29) then some (true) else (spec_l16Verdict b20.Final).bind fun b30 => (bif (!b30) then some (true) else (spec_l16Verdict b20.Said).bind fun b31 => (bif (!b31) then some (true) else (bif (b20.Final != 0) then (bif (b20.Final != b20.Said) then some (true) else (bif (b20.Said == 0) then some ((decide (b20.End < a0.Now))) else some (false))) else (bif (b20.Said == 0) then some ((decide (b20.End < a0.Now))) else some (false))))))).bind fun x24 => (bif x24 then some (LR.done (LR.done false)) else some (LR.next ((IntKind.i64.wrap (x6 + 1))))) else some (LR.done (LR.next ())))
noncomputable def spec_GoodCourt_l1 (a0 : Court) (x : (Int)) : Option (LR (Int) (LR Unit (Bool))) :=
  match x with
  | (x41) => (bif (decide (x41 < (a0.Line.length : Int))) then (idx a0.Line x41).bind fun b55 => ((bif (decide (b55.Case < 0)) then some (true) else (bif (decide ((a0.Cases.length : Int) ≤ b55.Case)) then some (true) else (spec_l1In b55.Kind 1 3).bind fun b65 => some ((!b65))))).bind fun x60 => (bif x60 then some (LR.done (LR.done false)) else ((bif (b55.Kind == 3) then (bif (b55.What == 0) then some (true) else (idx a0.Cases b55.Case).bind fun b77 => (bif (b55.What != b77.Said) then some (true) else (bif (b55.Kind != 3) then some ((b55.What != 0)) else some (false)))) else (bif (b55.Kind != 3) then some ((b55.What != 0)) else some (false)))).bind fun x72 => (bif x72 then some (LR.done (LR.done false)) else some (LR.next ((IntKind.i64.wrap (x41 + 1)))))) else some (LR.done (LR.next ())))
noncomputable def spec_GoodCourt (a0 : Court) : Option (Bool) :=
  (whl (spec_GoodCourt_l0 a0) (0)).bind fun y => match y with | LR.next () => ((whl (spec_GoodCourt_l1 a0) (0)).bind fun y => match y with | LR.next () => (bif (decide ((a0.Cases.length : Int) ≤ 6)) then (spec_l1In a0.Now 0 200).bind fun b86 => (bif b86 then some (decide ((a0.Line.length : Int) ≤ 30)) else some false) else some false) | LR.done z => some z) | LR.done z => some z
noncomputable def spec_StepCourt (a0 : Court) (a1 : CourtStep) : Option (Court × Bool) :=
  (spec_GoodCourt a0).bind fun b10 => (bif (!b10) then some ((⟨0, [], []⟩ : Court), false) else (spec_l16Own a0).bind fun b13 => (spec_l16Step b13 a1).bind fun (b21, b22) => (bif (!b22) then some ((⟨0, [], []⟩ : Court), false) else (spec_l16Own b21).bind fun b33 => some (b33, true)))
noncomputable def laws_sameCourts_l0 (a0 : Court) (a1 : Court) (x : (Int)) : Option (LR (Int) (LR Unit (Bool))) :=
  match x with
  | (x16) => (bif (decide (x16 < (a0.Cases.length : Int))) then (idx a0.Cases x16).bind fun b31 => (idx a1.Cases x16).bind fun b32 => (bif (!((b31.End == b32.End) && ((b31.Asks == b32.Asks) && ((b31.Final == b32.Final) && ((b31.Said == b32.Said) && true))))) then some (LR.done (LR.done false)) else some (LR.next ((IntKind.i64.wrap (x16 + 1))))) else some (LR.done (LR.next ())))
noncomputable def laws_sameCourts_l1 (a0 : Court) (a1 : Court) (x : (Int)) : Option (LR (Int) (LR Unit (Bool))) :=
  match x with
  | (x42) => (bif (decide (x42 < (a0.Line.length : Int))) then (idx a0.Line x42).bind fun b57 => (idx a1.Line x42).bind fun b58 => (bif (!((b57.Kind == b58.Kind) && ((b57.Case == b58.Case) && ((b57.What == b58.What) && true)))) then some (LR.done (LR.done false)) else some (LR.next ((IntKind.i64.wrap (x42 + 1))))) else some (LR.done (LR.next ())))
noncomputable def laws_sameCourts (a0 : Court) (a1 : Court) : Option (Bool) :=
  ((bif (a0.Now != a1.Now) then some (true) else (bif ((a0.Cases.length : Int) != (a1.Cases.length : Int)) then some (true) else some (((a0.Line.length : Int) != (a1.Line.length : Int)))))).bind fun x8 => (bif x8 then some false else (whl (laws_sameCourts_l0 a0 a1) (0)).bind fun y => match y with | LR.next () => ((whl (laws_sameCourts_l1 a0 a1) (0)).bind fun y => match y with | LR.next () => some true | LR.done z => some z) | LR.done z => some z)
noncomputable def spec_DrawGoodCourt (a0 : List Int) : Option (Court) :=
  (spec_l1Cur_court (⟨a0, 0, 0⟩ : L1Cur)).bind fun (b9, _b10) => some b9
noncomputable def spec_DrawSettleCourt (a0 : List Int) : Option (Court) :=
  (spec_DrawGoodCourt a0).bind fun b5 => some b5
noncomputable def slices_IndexFunc_impl_Case_l0 (a0 : List Case) (g1 : Case → Option Bool) (x : (Int)) : Option (LR (Int) (LR Unit (Int))) :=
  match x with
  | (x4) => (bif (decide (x4 < (a0.length : Int))) then (idx a0 x4).bind fun b19 => (g1 b19).bind fun b20 => (bif b20 then some (LR.done (LR.done x4)) else some (LR.next ((IntKind.i64.wrap (x4 + 1))))) else some (LR.done (LR.next ())))
noncomputable def slices_IndexFunc_impl_Case (a0 : List Case) (g1 : Case → Option Bool) : Option (Int) :=
  (whl (slices_IndexFunc_impl_Case_l0 a0 g1) (0)).bind fun y => match y with | LR.next () => some (-1) | LR.done z => some z
noncomputable def impl_Court_unsettled_1 (a0 : Case) : Option (Bool) :=
  some (a0.Final == 0)
noncomputable def impl_Court_unsettled (a0 : Court) : Option (Int) :=
  (slices_IndexFunc_impl_Case a0.Cases impl_Court_unsettled_1).bind fun b3 => some b3
noncomputable def impl_SettleCourt_l0 (x : (Int × Int × Int × (List Case) × (List Slip))) : Option (LR (Int × Int × Int × (List Case) × (List Slip)) (Int × Int × (List Case) × (List Slip))) :=
  match x with
  | (x21, x22, x23, x24, x26) => (bif (decide (0 ≤ x22)) then (impl_Court_step (⟨x23, x24, ([] : List Slip)⟩ : Court) (⟨1, x22⟩ : CourtStep)).bind fun (_b51, b52) => (impl_Court_step b52 (⟨3, 0⟩ : CourtStep)).bind fun (_b57, b58) => (impl_Court_step b58 (⟨3, 0⟩ : CourtStep)).bind fun (_b63, b64) => (impl_Court_unsettled b64).bind fun b67 => some (LR.next ((IntKind.i64.wrap (x21 + 1)), b67, b64.Now, b64.Cases, b64.Line)) else some (LR.done (x21, x23, x24, x26)))
noncomputable def impl_SettleCourt (a0 : Court) : Option (Court × Int × Bool) :=
  (impl_GoodCourt a0).bind fun b8 => (bif (!b8) then some ((⟨0, [], []⟩ : Court), 0, false) else (impl_Court_copied a0).bind fun b11 => (impl_Court_unsettled b11).bind fun b20 => (whl (impl_SettleCourt_l0) (0, b20, b11.Now, b11.Cases, b11.Line)).bind fun (x29, x30, x31, x33) => some ((⟨x30, x31, x33⟩ : Court), x29, true))
noncomputable def spec_l16Open_l0 (a0 : Court) (x : (Int)) : Option (LR (Int) (LR Unit (Int))) :=
  match x with
  | (x6) => (bif (decide (x6 < (a0.Cases.length : Int))) then (idx a0.Cases x6).bind fun b20 => (bif (b20.Final == 0) then some (LR.done (LR.done x6)) else some (LR.next ((IntKind.i64.wrap (x6 + 1))))) else some (LR.done (LR.next ())))
noncomputable def spec_l16Open (a0 : Court) : Option (Int) :=
  (whl (spec_l16Open_l0 a0) (0)).bind fun y => match y with | LR.next () => some (-1) | LR.done z => some z
noncomputable def spec_SettleCourt_l0 (x : (Int × Int × Int × (List Case) × (List Slip))) : Option (LR (Int × Int × Int × (List Case) × (List Slip)) (Int × Int × (List Case) × (List Slip))) :=
  match x with
  | (x22, x23, x24, x25, x28) => (bif (decide (0 ≤ x23)) then (spec_l16Step (⟨x24, x25, ([] : List Slip)⟩ : Court) (⟨1, x23⟩ : CourtStep)).bind fun (b53, _b54) => (spec_l16Step b53 (⟨3, 0⟩ : CourtStep)).bind fun (b61, _b62) => (spec_l16Step b61 (⟨3, 0⟩ : CourtStep)).bind fun (b69, _b70) => (spec_l16Open b69).bind fun b75 => some (LR.next ((IntKind.i64.wrap (x22 + 1)), b75, b69.Now, b69.Cases, b69.Line)) else some (LR.done (x22, x24, x25, x28)))
noncomputable def spec_SettleCourt (a0 : Court) : Option (Court × Int × Bool) :=
  (spec_GoodCourt a0).bind fun b8 => (bif (!b8) then some ((⟨0, [], []⟩ : Court), 0, false) else (spec_l16Own a0).bind fun b11 => (spec_l16Open b11).bind fun b21 => (whl (spec_SettleCourt_l0) (0, b21, b11.Now, b11.Cases, b11.Line)).bind fun (x31, x32, x33, x35) => (spec_l16Own (⟨x32, x33, x35⟩ : Court)).bind fun b79 => some (b79, x31, true))
noncomputable def impl_IsSettled (a0 : Court) : Option (Bool × Bool) :=
  (impl_GoodCourt a0).bind fun b6 => (bif (!b6) then some (false, false) else (impl_Court_unsettled a0).bind fun b9 => some ((decide (b9 < 0)), true))
noncomputable def spec_IsSettled (a0 : Court) : Option (Bool × Bool) :=
  (spec_GoodCourt a0).bind fun b6 => (bif (!b6) then some (false, false) else (spec_l16Open a0).bind fun b9 => some ((decide (b9 < 0)), true))
noncomputable def impl_AgreesIn (a0 : Court) : Option (Bool × Bool) :=
  (impl_GoodCourt a0).bind fun b6 => (bif (!b6) then some (false, false) else some (true, true))
noncomputable def spec_AgreesIn_l0 (a0 : Court) (x : (Int)) : Option (LR (Int) (LR Unit (Bool × Bool))) :=
  match x with
  | (x10) => (bif (decide (x10 < (a0.Cases.length : Int))) then (idx a0.Cases x10).bind fun b24 => ((bif (b24.Final != 0) then some ((b24.Final != b24.Said)) else some (false))).bind fun x28 => (bif x28 then some (LR.done (LR.done (false, true))) else some (LR.next ((IntKind.i64.wrap (x10 + 1))))) else some (LR.done (LR.next ())))
noncomputable def spec_AgreesIn (a0 : Court) : Option (Bool × Bool) :=
  (spec_GoodCourt a0).bind fun b6 => (bif (!b6) then some (false, false) else (whl (spec_AgreesIn_l0 a0) (0)).bind fun y => match y with | LR.next () => some (true, true) | LR.done z => some z)
noncomputable def spec_DrawNewCourt (a0 : List Int) : Option (List Int) :=
  (spec_l1Cur_one (⟨a0, 0, 0⟩ : L1Cur) 20).bind fun (b8, b9) => (bif b8 then (spec_l1Cur_pick b9 3).bind fun (b12, _b13) => (mkL 8 (IntKind.i64.wrap (5 + b12)) (0 : Int)).bind fun x16 => some x16 else (spec_l1Cur_ends b9).bind fun (b19, _b20) => some b19)
noncomputable def impl_NewCourt_l0 (a0 : List Int) (x : (Int × (List Case))) : Option (LR (Int × (List Case)) ((List Case))) :=
  match x with
  | (x9, x10) => (bif (decide (x9 < (a0.length : Int))) then (idx a0 x9).bind fun b28 => (app 32 x10 ([(⟨b28, false, 0, 0⟩ : Case)] : List Case)).bind fun x31 => some (LR.next ((IntKind.i64.wrap (x9 + 1)), x31)) else some (LR.done (x10)))
noncomputable def impl_NewCourt (a0 : List Int) : Option (Court × Bool) :=
  (whl (impl_NewCourt_l0 a0) (0, [])).bind fun x13 => (impl_GoodCourt (⟨0, x13, []⟩ : Court)).bind fun b38 => (bif (!b38) then some ((⟨0, [], []⟩ : Court), false) else some ((⟨0, x13, []⟩ : Court), true))
noncomputable def laws_FnCourts_l0 (b7 : Court) (b19 : Court) (x : (Int)) : Option (LR (Int) (LR Unit (LR Unit (Bool)))) :=
  match x with
  | (x70) => (bif (decide (x70 < (b7.Cases.length : Int))) then (idx b7.Cases x70).bind fun b84 => (idx b19.Cases x70).bind fun b89 => ((bif (b89.End != b84.End) then some (true) else (bif (b84.Said != 0) then (bif (b89.Said != b84.Said) then some (true) else (bif b84.Asks then some ((!b89.Asks)) else some (false))) else (bif b84.Asks then some ((!b89.Asks)) else some (false))))).bind fun x94 => (bif x94 then some (LR.done (LR.done (LR.done false))) else some (LR.next ((IntKind.i64.wrap (x70 + 1))))) else some (LR.done (LR.next ())))
noncomputable def laws_FnCourts (a0 : List Int) (a1 : List Int) : Option (Bool) :=
  (bif (decide (1048576 < (IntKind.i64.wrap ((a0.length : Int) + (a1.length : Int))))) then some true else (spec_DrawStepCourt a0).bind fun (b7, b8) => (impl_StepCourt b7 b8).bind fun (b19, b20) => (spec_StepCourt b7 b8).bind fun (b31, b32) => ((bif (!(b20 == b32)) then some (true) else (laws_sameCourts b19 b31).bind fun b48 => (bif (!b48) then some (true) else (impl_GoodCourt b7).bind fun b49 => (spec_GoodCourt b7).bind fun b50 => some ((!(b49 == b50)))))).bind fun x43 => (bif x43 then some false else ((bif b20 then ((impl_GoodCourt b19).bind fun b65 => (bif (!b65) then some (true) else (bif (decide (b19.Now < b7.Now)) then some (true) else some (((b19.Cases.length : Int) != (b7.Cases.length : Int)))))).bind fun x60 => (bif x60 then some (LR.done false) else (whl (laws_FnCourts_l0 b7 b19) (0)).bind fun y => match y with | LR.next () => some (LR.next ()) | LR.done z => some z) else some (LR.next ()))).bind fun y => match y with | LR.next () => (spec_DrawSettleCourt a1).bind fun b109 => (impl_SettleCourt b109).bind fun (b118, b119, b120) => (spec_SettleCourt b109).bind fun (b131, b132, b133) => (impl_IsSettled b109).bind fun (b144, b145) => (spec_IsSettled b109).bind fun (b148, b149) => (impl_AgreesIn b109).bind fun (b152, b153) => (spec_AgreesIn b109).bind fun (b156, b157) => (spec_DrawNewCourt a1).bind fun b159 => (impl_NewCourt b159).bind fun (b164, b165) => (spec_NewCourt b159).bind fun (b176, b177) => (bif (b120 == b133) then (bif (b119 == b132) then (laws_sameCourts b118 b131).bind fun b187 => (bif b187 then (bif (b145 == b149) then (bif (b144 == b148) then (bif (b153 == b157) then (bif (b152 == b156) then (bif (b165 == b177) then (laws_sameCourts b164 b176).bind fun b188 => some b188 else some false) else some false) else some false) else some false) else some false) else some false) else some false) else some false) | LR.done z => some z))
end Go.VxW
