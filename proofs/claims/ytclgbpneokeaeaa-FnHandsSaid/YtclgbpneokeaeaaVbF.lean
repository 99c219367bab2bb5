import Derived.Test.YtclgbpneokeaeaaVaE
open Go Go.VS
set_option maxRecDepth 8000
namespace Go.DN
structure BP where
 Code:List Int
 BT:Int
 B7:Int
noncomputable def F1 (a0:BP):Option (Int×BP):=
 ((bif (decide (a0.BT<(a0.Code.length:Int))) then (idx a0.Code a0.BT).bind fun Cy=>some ((IntKind.i64.wrap Cy)) else some (0))).bind fun BG=>(bif (decide ((IntKind.i64.wrap (a0.BT+1))≤(a0.Code.length:Int))) then some (BG,(⟨a0.Code,(IntKind.i64.wrap (a0.BT+1)),(IntKind.u64.wrap ((IntKind.u64.wrap ((IntKind.u64.wrap (a0.B7*6364136223846793005))+(IntKind.u64.wrap BG)))+1442695040888963407))⟩:BP)) else some ((IntKind.i64.wrap (yy .u64 (s9 .u64 (IntKind.u64.wrap ((IntKind.u64.wrap ((IntKind.u64.wrap (a0.B7*6364136223846793005))+(IntKind.u64.wrap BG)))+1442695040888963407)) 40) 255)),(⟨a0.Code,(IntKind.i64.wrap (a0.BT+1)),(IntKind.u64.wrap ((IntKind.u64.wrap ((IntKind.u64.wrap (a0.B7*6364136223846793005))+(IntKind.u64.wrap BG)))+1442695040888963407))⟩:BP)))
noncomputable def Dy (a0:BP) (a1:Int):Option (Int×BP):=
 (bif (decide (a1≤1)) then some (0,a0) else (F1 a0).bind fun (BK,BD)=>((bif (decide (200<a1)) then (F1 BD).bind fun (Dq,CE)=>some ((IntKind.i64.wrap ((IntKind.i64.wrap (BK*256))+Dq)),CE.Code,CE.BT,CE.B7) else some (BK,BD.Code,BD.BT,BD.B7))).bind fun (BN,BB,BE,BQ)=>(md BN a1).bind fun KQ=>some (KQ,(⟨BB,BE,BQ⟩:BP)))
noncomputable def EC (a0:BP) (a1:Int):Option (Bool×BP):=
 (Dy a0 a1).bind fun (BU,Dd)=>some ((BU==0),Dd)
noncomputable def Fc (a0:BP) (a1:List Int):Option (Int×BP):=
 (Dy a0 (a1.length:Int)).bind fun (BU,Dd)=>(idx a1 BU).bind fun C1=>some (C1,Dd)
noncomputable def I5 (x:((List Int)×Int×(List Int)×Int×Int)):Option (LR ((List Int)×Int×(List Int)×Int×Int) ((List Int)×(List Int)×Int×Int)):=
 match x with
 |(De,CX,Fe,Ff,D2)=>(bif (decide (0<CX)) then (Dy (⟨Fe,Ff,D2⟩:BP) 12).bind fun (Fg,C8)=>(app 8 De ([(IntKind.i64.wrap (1+Fg))]:List Int)).bind fun ED=>some (LR.next (ED,(IntKind.i64.wrap (CX-1)),C8.Code,C8.BT,C8.B7)) else some (LR.done (De,Fe,Ff,D2)))
noncomputable def GD (a0:BP):Option (List Int×Int×BP):=
 (Dy a0 7).bind fun (Dd,C1)=>(EC C1 20).bind fun (Cy,CY)=>((bif Cy then (Dy CY 2).bind fun (CE,D3)=>some ((IntKind.i64.wrap (8+CE)),D3.Code,D3.BT,D3.B7) else some (Dd,CY.Code,CY.BT,CY.B7))).bind fun (BB,BE,BQ,Cc)=>(er (I5) ([],BB,BE,BQ,Cc)).bind fun (Ch,Cr,Ci,Cj)=>((bif (decide (0<(Ch.length:Int))) then (EC (⟨Cr,Ci,Cj⟩:BP) 30).bind fun (DO,GF)=>some (DO,GF.Code,GF.BT,GF.B7) else some (false,Cr,Ci,Cj))).bind fun (Ek,F2,F3,Dz)=>((bif Ek then (Fc (⟨F2,F3,Dz⟩:BP) ([0,50,51]:List Int)).bind fun (HS,HT)=>(idx Ch 0).bind fun _b84=>some ((Ch.set (0:Int).toNat HS),HT.Code,HT.BT,HT.B7) else some (Ch,F2,F3,Dz))).bind fun (GG,DP,GI,GJ)=>(Fc (⟨DP,GI,GJ⟩:BP) ([0,1,2,2,3,3,4,5]:List Int)).bind fun (GK,KR)=>some (GG,GK,KR)
noncomputable def EF (a0:Int) (a1:Int):Option (Int):=
 (bif (decide (a1<a0)) then some a0 else some a1)
noncomputable def I6 (BK:List Int) (BD:Int) (x:((List Int)×Int×(List Int)×Int×Int)):Option (LR ((List Int)×Int×(List Int)×Int×Int) ((List Int)×(List Int)×Int×Int)):=
 match x with
 |(Cc,CL,Cz,Dr,Fh)=>(bif (decide (CL<(BK.length:Int))) then (EF 1 BD).bind fun EG=>(Dy (⟨Cz,Dr,Fh⟩:BP) EG).bind fun (BR,CF)=>(app 8 Cc ([BR]:List Int)).bind fun EH=>some (LR.next (EH,(IntKind.i64.wrap (CL+1)),CF.Code,CF.BT,CF.B7)) else some (LR.done (Cc,Cz,Dr,Fh)))
noncomputable def GL (a0:List Int):Option (List Int×Int×List Int):=
 (GD (⟨a0,0,0⟩:BP)).bind fun (BK,BD,Cs)=>(er (I6 BK BD) ([],0,Cs.Code,Cs.BT,Cs.B7)).bind fun (El,De,F4,Em)=>((bif (decide (0<(El.length:Int))) then (EC (⟨De,F4,Em⟩:BP) 20).bind fun (En,HU)=>some (En,HU.Code,HU.BT,HU.B7) else some (false,De,F4,Em))).bind fun (GM,ED,GN,EI)=>((bif GM then (Dy (⟨ED,GN,EI⟩:BP) 7).bind fun (DO,_b70)=>(idx El 0).bind fun _b71=>some ((El.set (0:Int).toNat (IntKind.i64.wrap (DO-1)))) else some (El))).bind fun Dz=>some (BK,BD,Dz)
noncomputable def I7 (a0:List Int) (g1:Int→Option Bool) (x:(Int)):Option (LR (Int) (LR Unit (Int))):=
 match x with
 |(BO)=>(bif (decide (BO<(a0.length:Int))) then (idx a0 BO).bind fun DQ=>(g1 DQ).bind fun Dq=>(bif Dq then some (LR.done (LR.done BO)) else some (LR.next ((IntKind.i64.wrap (BO+1))))) else some (LR.done (LR.next ())))
noncomputable def GP (a0:List Int) (g1:Int→Option Bool):Option (Int):=
 (er (I7 a0 g1) (0)).bind fun y=>match y with|LR.next ()=>some (-1)|LR.done z=>some z
noncomputable def F5 (a0:List Int) (g1:Int→Option Bool):Option (Bool):=
 (GP a0 g1).bind fun b3=>some (decide (0≤b3))
noncomputable def Fi (a0:Int) (a1:Int) (a2:Int):Option (Bool):=
 (bif (decide (a1≤a0)) then some (decide (a0≤a2)) else some false)
noncomputable def HV (a0:Int):Option (Bool):=
 (Fi a0 1 50).bind fun b3=>some (!b3)
noncomputable def D4 (a0:List Int) (a1:Int):Option (Bool):=
 (bif (decide ((a0.length:Int)≤8)) then (F5 a0 HV).bind fun b3=>(bif (!b3) then (Fi a1 1 4).bind fun BU=>some BU else some false) else some false)
noncomputable def HW (a0:Int) (a1:Int):Option (Bool):=
 (Fi a0 0 (IntKind.i64.wrap (a1-1))).bind fun b3=>some (!b3)
noncomputable def HX (a0:List Int) (a2:List Int) (x:((List Int)×Int)):Option (LR ((List Int)×Int) ((List Int))):=
 match x with
 |(B_,BF)=>(bif (decide (BF<(a0.length:Int))) then (idx a0 BF).bind fun DR=>(idx a2 BF).bind fun BY=>(idx B_ BY).bind fun BZ=>(idx B_ BY).bind fun _b28=>some (LR.next ((B_.set BY.toNat (IntKind.i64.wrap (BZ+DR))),(IntKind.i64.wrap (BF+1)))) else some (LR.done (B_)))
noncomputable def GQ (a0:List Int) (a1:Int) (a2:List Int):Option (List Int):=
 (kR 8 a1 (0:Int)).bind fun BG=>(er (HX a0 a2) (BG,0)).bind fun Ct=>some Ct
noncomputable def GR (a0:List Int) (x:(Int×Int)):Option (LR (Int×Int) (Int)):=
 match x with
 |(BB,BE)=>(bif (decide (BE<(a0.length:Int))) then (idx a0 BE).bind fun D5=>some (LR.next ((if D5>BB then D5 else BB),(IntKind.i64.wrap (BE+1)))) else some (LR.done (BB)))
noncomputable def EJ (a0:List Int):Option (Int):=
 ((bif (decide ((a0.length:Int)<1)) then none else some ())).bind fun _=>(idx a0 0).bind fun Cs=>(er (GR a0) (Cs,1)).bind fun BQ=>some BQ
noncomputable def Fj (a0:List Int) (a1:Int) (a2:List Int):Option (Int×Bool):=
 ((D4 a0 a1).bind fun CY=>(bif (!CY) then some (true) else (bif ((a2.length:Int) !=(a0.length:Int)) then some (true) else (F5 a2 (fun Eo=>HW Eo a1)).bind fun DS=>some (DS)))).bind fun B2=>(bif B2 then some (0,false) else (GQ a0 a1 a2).bind fun DA=>(EJ DA).bind fun Ep=>some (Ep,true))
noncomputable def F6 (a0:Int) (a1:Int) (a2:Int):Option (Bool):=
 (bif (decide (a1≤a0)) then some (decide (a0≤a2)) else some false)
noncomputable def GS (a0:List Int) (a1:Int) (a2:Int) (x:(Int)):Option (LR (Int) (LR Unit (Bool))):=
 match x with
 |(BO)=>(bif (decide (BO<(a0.length:Int))) then (idx a0 BO).bind fun Ep=>(F6 Ep a1 a2).bind fun Dq=>(bif (!Dq) then some (LR.done (LR.done false)) else some (LR.next ((IntKind.i64.wrap (BO+1))))) else some (LR.done (LR.next ())))
noncomputable def F7 (a0:List Int) (a1:Int) (a2:Int):Option (Bool):=
 (er (GS a0 a1 a2) (0)).bind fun y=>match y with|LR.next ()=>some true|LR.done z=>some z
noncomputable def Er (a0:List Int) (a1:Int):Option (Bool):=
 (bif (decide ((a0.length:Int)≤8)) then (F7 a0 1 50).bind fun b3=>(bif b3 then (F6 a1 1 4).bind fun BU=>some BU else some false) else some false)
noncomputable def HY (a0:List Int) (a2:List Int) (x:((List Int)×Int×Int)):Option (LR ((List Int)×Int×Int) (Int)):=
 match x with
 |(BF,Ct,BN)=>(bif (decide (BN<(a2.length:Int))) then (idx a2 BN).bind fun BZ=>(idx BF BZ).bind fun Cu=>(idx a0 BN).bind fun D6=>(idx BF BZ).bind fun _b31=>(idx (BF.set BZ.toNat (IntKind.i64.wrap (Cu+D6))) BZ).bind fun GU=>(EF Ct GU).bind fun KS=>some (LR.next ((BF.set BZ.toNat (IntKind.i64.wrap (Cu+D6))),KS,(IntKind.i64.wrap (BN+1)))) else some (LR.done (Ct)))
noncomputable def EK (a0:List Int) (a1:Int) (a2:List Int):Option (Int):=
 (kR 8 a1 (0:Int)).bind fun BG=>(er (HY a0 a2) (BG,0,0)).bind fun BB=>some BB
noncomputable def GV (a0:List Int) (a1:Int) (a2:List Int):Option (Int×Bool):=
 ((Er a0 a1).bind fun Cs=>(bif (!Cs) then some (true) else (bif ((a2.length:Int) !=(a0.length:Int)) then some (true) else (F7 a2 0 (IntKind.i64.wrap (a1-1))).bind fun Cy=>some ((!Cy))))).bind fun BO=>(bif BO then some (0,false) else (EK a0 a1 a2).bind fun DB=>some (DB,true))
noncomputable def HZ (a0:List Int) (x:((List Int)×Int)):Option (LR ((List Int)×Int) ((List Int))):=
 match x with
 |(BG,B_)=>(bif (decide (B_<(a0.length:Int))) then (app 8 BG ([B_]:List Int)).bind fun Em=>some (LR.next (Em,(IntKind.i64.wrap (B_+1)))) else some (LR.done (BG)))
noncomputable def F8 (a0:List Int):Option (List Int):=
 (er (HZ a0) ([],0)).bind fun BF=>some BF
noncomputable def GW (a0:List Int) (x:(Int×Int)):Option (LR (Int×Int) (Int)):=
 match x with
 |(BB,BE)=>(bif (decide (BE<(a0.length:Int))) then (idx a0 BE).bind fun D5=>some (LR.next ((if D5<BB then D5 else BB),(IntKind.i64.wrap (BE+1)))) else some (LR.done (BB)))
noncomputable def GX (a0:List Int):Option (Int):=
 ((bif (decide ((a0.length:Int)<1)) then none else some ())).bind fun _=>(idx a0 0).bind fun Cs=>(er (GW a0) (Cs,1)).bind fun BQ=>some BQ
noncomputable def H3 (a0:List Int) (a1:Int) (x:(Int)):Option (LR (Int) (LR Unit (Int))):=
 match x with
 |(BO)=>(bif (decide (BO<(a0.length:Int))) then (idx a0 BO).bind fun DQ=>(bif (a1==DQ) then some (LR.done (LR.done BO)) else some (LR.next ((IntKind.i64.wrap (BO+1))))) else some (LR.done (LR.next ())))
noncomputable def GY (a0:List Int) (a1:Int):Option (Int):=
 (er (H3 a0 a1) (0)).bind fun y=>match y with|LR.next ()=>some (-1)|LR.done z=>some z
noncomputable def H4 (a0:List Int) (a2:List Int) (x:((List Int)×(List Int)×Int)):Option (LR ((List Int)×(List Int)×Int) ((List Int)×(List Int))):=
 match x with
 |(BN,BB,BE)=>(bif (decide (BE<(a2.length:Int))) then (idx a2 BE).bind fun Ds=>(GX BB).bind fun DT=>(GY BB DT).bind fun DC=>(idx BN Ds).bind fun _b34=>(idx BB DC).bind fun CZ=>(idx a0 Ds).bind fun Dl=>(idx BB DC).bind fun _b39=>some (LR.next ((BN.set Ds.toNat DC),(BB.set DC.toNat (IntKind.i64.wrap (CZ+Dl))),(IntKind.i64.wrap (BE+1)))) else some (LR.done (BN,BB)))
noncomputable def Fk (a0:List Int) (a1:Int) (a2:List Int):Option (List Int×Int×Bool):=
 (kR 8 (a0.length:Int) (0:Int)).bind fun BG=>(kR 8 a1 (0:Int)).bind fun B_=>(er (H4 a0 a2) (BG,B_,0)).bind fun (BQ,Cc)=>(EJ Cc).bind fun I8=>some (BQ,I8,true)
noncomputable def GZ (a0:List Int) (a1:Int):Option (List Int×Int×Bool):=
 (D4 a0 a1).bind fun BU=>(bif (!BU) then some ([],0,false) else (F8 a0).bind fun BK=>(Fk a0 a1 BK).bind fun (CY,DS,DB)=>some (CY,DS,DB))
noncomputable def H5 (BB:List Int) (x:(Int×Int)):Option (LR (Int×Int) (Int)):=
 match x with
 |(Cr,Ci)=>(bif (decide (Ci<(BB.length:Int))) then ((idx BB Ci).bind fun KT=>(idx BB Cr).bind fun BV=>((bif (decide (KT<BV)) then some (Ci) else some (Cr))).bind fun Es=>some (Es)).bind fun G0=>some (LR.next (G0,(IntKind.i64.wrap (Ci+1)))) else some (LR.done (Cr)))
noncomputable def H6 (a0:List Int) (a2:List Int) (x:((List Int)×(List Int)×Int)):Option (LR ((List Int)×(List Int)×Int) ((List Int))):=
 match x with
 |(BB,BE,BQ)=>(bif (decide (BQ<(a2.length:Int))) then (idx a2 BQ).bind fun Ds=>(er (H5 BB) (0,0)).bind fun Cj=>(idx BB Cj).bind fun H7=>(idx a0 Ds).bind fun DU=>(idx BB Cj).bind fun _b69=>(idx BE Ds).bind fun _b71=>some (LR.next ((BB.set Cj.toNat (IntKind.i64.wrap (H7+DU))),(BE.set Ds.toNat Cj),(IntKind.i64.wrap (BQ+1)))) else some (LR.done (BE)))
noncomputable def Fl (a0:List Int) (a1:Int) (a2:List Int):Option (List Int):=
 (kR 8 a1 (0:Int)).bind fun BG=>(kR 8 (a0.length:Int) (0:Int)).bind fun BF=>(er (H6 a0 a2) (BG,BF,0)).bind fun Cc=>some Cc
noncomputable def I9 (a0:List Int) (x:((List Int)×Int)):Option (LR ((List Int)×Int) ((List Int))):=
 match x with
 |(BF,BB)=>(bif (decide (BB<(a0.length:Int))) then (app 8 BF ([BB]:List Int)).bind fun D2=>some (LR.next (D2,(IntKind.i64.wrap (BB+1)))) else some (LR.done (BF)))
noncomputable def G3 (a0:List Int) (a1:Int):Option (List Int×Int×Bool):=
 (Er a0 a1).bind fun BU=>(bif (!BU) then some ([],0,false) else (er (I9 a0) ([],0)).bind fun BE=>(Fl a0 a1 BE).bind fun CZ=>(EK a0 a1 CZ).bind fun BR=>some (CZ,BR,true))
noncomputable def G4 (a0:Int) (a1:Int) (a2:List Int):Option (Int):=
 (idx a2 a1).bind fun b3=>(idx a2 a0).bind fun BU=>some (IntKind.i64.wrap (b3-BU))
noncomputable def G5 (a1:Int) (g3:Int→Int→Option Int) (x:((List Int)×Int)):Option (LR ((List Int)×Int) ((List Int))):=
 match x with
 |(CL,Cz)=>((bif (decide (a1<Cz)) then (idx CL Cz).bind fun CZ=>(idx CL (IntKind.i64.wrap (Cz-1))).bind fun Dl=>(g3 CZ Dl).bind fun DV=>some ((decide (DV<0))) else some (false))).bind fun Ch=>(bif Ch then (idx CL (IntKind.i64.wrap (Cz-1))).bind fun G6=>(idx CL Cz).bind fun H8=>(idx CL Cz).bind fun _b47=>(idx (CL.set Cz.toNat G6) (IntKind.i64.wrap (Cz-1))).bind fun _b49=>some (LR.next (((CL.set Cz.toNat G6).set (IntKind.i64.wrap (Cz-1)).toNat H8),(IntKind.i64.wrap (Cz-1)))) else some (LR.done (CL)))
noncomputable def H9 (a1:Int) (a2:Int) (g3:Int→Int→Option Int) (x:((List Int)×Int)):Option (LR ((List Int)×Int) ((List Int))):=
 match x with
 |(EL,D7)=>(bif (decide (D7<a2)) then (er (G5 a1 g3) (EL,D7)).bind fun Dr=>some (LR.next (Dr,(IntKind.i64.wrap (D7+1)))) else some (LR.done (EL)))
noncomputable def EM (a0:List Int) (a1:Int) (a2:Int) (g3:Int→Int→Option Int):Option (List Int):=
 (er (H9 a1 a2 g3) (a0,(IntKind.i64.wrap (a1+1)))).bind fun BO=>some BO
noncomputable def G7 (a1:Int) (g2:Int→Int→Option Int) (x:((List Int)×Int×Int)):Option (LR ((List Int)×Int×Int) ((List Int)×Int)):=
 match x with
 |(BO,BG,B2)=>(bif (decide (B2≤a1)) then (EM BO BG B2 g2).bind fun CE=>some (LR.next (CE,B2,(IntKind.i64.wrap (B2+20)))) else some (LR.done (BO,BG)))
noncomputable def KU (a1:Int) (CX:Int) (x:Unit):Option (LR Unit Unit):=
 match x with
 |()=>(bif (decide ((IntKind.i64.wrap (2*CX))≤a1)) then none else some (LR.done ()))
noncomputable def G8 (a1:Int) (x:(Int)):Option (LR (Int) Unit):=
 match x with
 |(CX)=>(bif (decide (CX<a1)) then (er (KU a1 CX) ()).bind fun _=>((bif (decide ((IntKind.i64.wrap (0+CX))<a1)) then none else some ())).bind fun _=>some (LR.next ((IntKind.i64.wrap (CX*2)))) else some (LR.done ()))
noncomputable def G9 (a0:List Int) (a1:Int) (g2:Int→Int→Option Int):Option (List Int):=
 (er (G7 a1 g2) (a0,0,20)).bind fun (B9,B_)=>(EM B9 B_ a1 g2).bind fun BZ=>(er (G8 a1) (20)).bind fun _=>some BZ
noncomputable def EO (a0:List Int) (g1:Int→Int→Option Int):Option (List Int):=
 (G9 a0 (a0.length:Int) g1).bind fun b1=>some b1
noncomputable def G_ (a0:List Int) (a1:Int):Option (List Int×Int×Bool):=
 (D4 a0 a1).bind fun C1=>(bif (!C1) then some ([],0,false) else (F8 a0).bind fun Cs=>(EO Cs (fun Eo D8=>G4 Eo D8 a0)).bind fun DB=>(Fk a0 a1 DB).bind fun (CJ,CM,Ep)=>some (CJ,CM,Ep))
noncomputable def H_ (a0:List Int) (BF:List Int) (Cu:Int) (x:(Int)):Option (LR (Int) (Int)):=
 match x with
 |(Ch)=>((bif (decide (Ch<(BF.length:Int))) then (idx BF Ch).bind fun EP=>(idx a0 EP).bind fun C8=>some ((decide (Cu≤C8))) else some (false))).bind fun Ha=>(bif Ha then some (LR.next ((IntKind.i64.wrap (Ch+1)))) else some (LR.done (Ch)))
noncomputable def Ia (a0:List Int) (x:((List Int)×Int)):Option (LR ((List Int)×Int) ((List Int))):=
 match x with
 |(BF,BB)=>(bif (decide (BB<(a0.length:Int))) then (idx a0 BB).bind fun Cu=>(er (H_ a0 BF Cu) (0)).bind fun F9=>(dN BF 0 F9).bind fun EI=>(app 8 ([]:List Int) EI).bind fun Es=>(app 8 Es ([BB]:List Int)).bind fun I_=>(dN BF F9 (BF.length:Int)).bind fun KV=>(app 8 I_ KV).bind fun KW=>some (LR.next (KW,(IntKind.i64.wrap (BB+1)))) else some (LR.done (BF)))
noncomputable def Hb (a0:List Int) (a1:Int):Option (List Int×Int×Bool):=
 (Er a0 a1).bind fun BU=>(bif (!BU) then some ([],0,false) else (er (Ia a0) ([],0)).bind fun BE=>(Fl a0 a1 BE).bind fun Hc=>(EK a0 a1 Hc).bind fun Hd=>some (Hc,Hd,true))
noncomputable def Ib (a0:List Int) (a1:List Int) (rc:(List Int)→(List Int)→Option (Int×List Int)) (x:((List Int)×Int×Int)):Option (LR ((List Int)×Int×Int) (Int×(List Int))):=
 match x with
 |(BF,Ct,BN)=>(bif (decide (BN<(a1.length:Int))) then (idx BF BN).bind fun Cu=>(idx a0 0).bind fun D6=>(idx BF BN).bind fun _b31=>(dN a0 1 (a0.length:Int)).bind fun Cj=>(rc Cj (BF.set BN.toNat (IntKind.i64.wrap (Cu+D6)))).bind fun (Ic,Dl)=>((bif (decide (Ct<0)) then some (true) else some ((decide (Ic<Ct))))).bind fun Fm=>((bif Fm then some (Ic) else some (Ct))).bind fun EH=>(idx Dl BN).bind fun C8=>(idx a0 0).bind fun Ie=>(idx Dl BN).bind fun _b53=>some (LR.next ((Dl.set BN.toNat (IntKind.i64.wrap (C8-Ie))),EH,(IntKind.i64.wrap (BN+1)))) else some (LR.done (Ct,BF)))
noncomputable def He (rc:(List Int)→(List Int)→Option ((Int×List Int))) (a0:List Int) (a1:List Int):Option (Int×List Int):=
 (bif ((a0.length:Int)==0) then (EJ a1).bind fun Dd=>some (Dd,a1) else (er (Ib a0 a1 rc) (a1,-1,0)).bind fun (BB,BE)=>some (BB,BE))
noncomputable def EQ:Nat→(List Int)→(List Int)→Option ((Int×List Int))
 |0=>fun _ _=>none
 |n+1=>fun a0 a1=>He (EQ n) a0 a1
noncomputable def Ja (a0:List Int) (a1:List Int):Option (Int×List Int):=
 EQ 64 a0 a1
noncomputable def Hf (a0:List Int) (a1:Int):Option (Int×Bool):=
 (D4 a0 a1).bind fun BU=>(bif (!BU) then some (0,false) else (kR 8 a1 (0:Int)).bind fun BF=>(Ja a0 BF).bind fun (CY,_b12)=>some (CY,true))
noncomputable def If (a0:List Int) (x:(Int×Int)):Option (LR (Int×Int) (Int)):=
 match x with
 |(BG,B2)=>(bif (decide (B2<(a0.length:Int))) then (idx a0 B2).bind fun CE=>some (LR.next ((IntKind.i64.wrap (BG+CE)),(IntKind.i64.wrap (B2+1)))) else some (LR.done (BG)))
noncomputable def Ga (a0:List Int):Option (Int):=
 (er (If a0) (0,0)).bind fun B9=>some B9
noncomputable def Ig (a1:List Int) (x:(Int×Int)):Option (LR (Int×Int) (Int)):=
 match x with
 |(BG,B2)=>(bif (decide (B2<(a1.length:Int))) then (idx a1 B2).bind fun CE=>(EF BG CE).bind fun D3=>some (LR.next (D3,(IntKind.i64.wrap (B2+1)))) else some (LR.done (BG)))
noncomputable def Ih (a0:List Int) (a1:List Int) (rc:(List Int)→(List Int)→Int→Option (Int)) (x:(Int×Int)):Option (LR (Int×Int) (Int)):=
 match x with
 |(Cr,Ci)=>(bif (decide (Ci<(a1.length:Int))) then (app 8 ([]:List Int) a1).bind fun Hg=>(idx Hg Ci).bind fun Et=>(idx a0 0).bind fun CA=>(idx Hg Ci).bind fun _b58=>(dN a0 1 (a0.length:Int)).bind fun Ek=>(rc Ek (Hg.set Ci.toNat (IntKind.i64.wrap (Et+CA))) Cr).bind fun En=>some (LR.next (En,(IntKind.i64.wrap (Ci+1)))) else some (LR.done (Cr)))
noncomputable def Ii (rc:(List Int)→(List Int)→Int→Option (Int)) (a0:List Int) (a1:List Int) (a2:Int):Option (Int):=
 (er (Ig a1) (0,0)).bind fun B9=>(bif (decide (a2≤B9)) then some a2 else (bif ((a0.length:Int)==0) then some B9 else (er (Ih a0 a1 rc) (a2,0)).bind fun Cj=>some Cj))
noncomputable def Fo:Nat→(List Int)→(List Int)→Int→Option (Int)
 |0=>fun _ _ _=>none
 |n+1=>fun a0 a1 a2=>Ii (Fo n) a0 a1 a2
noncomputable def Jb (a0:List Int) (a1:List Int) (a2:Int):Option (Int):=
 Fo 64 a0 a1 a2
noncomputable def Hh (a0:List Int) (a1:Int):Option (Int×Bool):=
 (Er a0 a1).bind fun BU=>(bif (!BU) then some (0,false) else (kR 8 a1 (0:Int)).bind fun BF=>(Ga a0).bind fun Cy=>(Jb a0 BF (IntKind.i64.wrap (Cy+1))).bind fun CY=>some (CY,true))
noncomputable def Ij (a0:List Int) (x:(Int×Int)):Option (LR (Int×Int) (Int)):=
 match x with
 |(BG,B2)=>(bif (decide (B2<(a0.length:Int))) then (idx a0 B2).bind fun CE=>some (LR.next ((IntKind.i64.wrap (BG+CE)),(IntKind.i64.wrap (B2+1)))) else some (LR.done (BG)))
noncomputable def Ik (a0:List Int):Option (Int):=
 (er (Ij a0) (0,0)).bind fun B9=>some B9
noncomputable def Hi (a0:List Int) (a1:Int):Option (Int×Bool):=
 (D4 a0 a1).bind fun BU=>(bif (!BU) then some (0,false) else (app 8 ([0]:List Int) a0).bind fun BF=>(EJ BF).bind fun DS=>(Ik a0).bind fun DB=>(dv .i64 (IntKind.i64.wrap ((IntKind.i64.wrap (DB+a1))-1)) a1).bind fun BQ=>some ((if BQ>DS then BQ else DS),true))
noncomputable def Jc (a0:List Int) (x:(Int×Int)):Option (LR (Int×Int) (Int)):=
 match x with
 |(BN,BB)=>(bif (decide (BB<(a0.length:Int))) then (idx a0 BB).bind fun D5=>(EF BN D5).bind fun Cu=>some (LR.next (Cu,(IntKind.i64.wrap (BB+1)))) else some (LR.done (BN)))
noncomputable def Hj (a0:List Int) (a1:Int):Option (Int×Bool):=
 (Er a0 a1).bind fun BU=>(bif (!BU) then some (0,false) else (Ga a0).bind fun BK=>(dv .i64 (IntKind.i64.wrap ((IntKind.i64.wrap (BK+a1))-1)) a1).bind fun B_=>(er (Jc a0) (B_,0)).bind fun BE=>some (BE,true))
noncomputable def Hk (a0:List Int) (a1:List Int) (x:(Int)):Option (LR (Int) (LR Unit (Bool))):=
 match x with
 |(B9)=>(bif (decide (B9<(a0.length:Int))) then (idx a0 B9).bind fun D3=>(idx a1 B9).bind fun Fp=>(bif (D3 !=Fp) then some (LR.done (LR.done false)) else some (LR.next ((IntKind.i64.wrap (B9+1))))) else some (LR.done (LR.next ())))
noncomputable def Gb (a0:List Int) (a1:List Int):Option (Bool):=
 (bif ((a0.length:Int) !=(a1.length:Int)) then some false else (er (Hk a0 a1) (0)).bind fun y=>match y with|LR.next ()=>some true|LR.done z=>some z)
noncomputable def Hl (a0:List Int) (a1:List Int):Option (Bool):=
 (bif (decide (1048576<(IntKind.i64.wrap ((a0.length:Int)+(a1.length:Int))))) then some true else (GL a0).bind fun (BK,BD,Cs)=>(Fj BK BD Cs).bind fun (CJ,CM)=>(GV BK BD Cs).bind fun (Dq,CE)=>(GZ BK BD).bind fun (DR,BY,BZ)=>(G3 BK BD).bind fun (DC,GU,Hm)=>(G_ BK BD).bind fun (DV,BR,CF)=>(Hb BK BD).bind fun (EP,Fg,C8)=>(Hf BK BD).bind fun (BV,CA)=>(Hh BK BD).bind fun (Il,En)=>(Hi BK BD).bind fun (C2,C3)=>(Hj BK BD).bind fun (DU,DO)=>((bif (!(CM==CE)) then some (true) else (bif (CJ !=Dq) then some (true) else (bif (!(BZ==Hm)) then some (true) else (bif (BY !=GU) then some (true) else (Gb DR DC).bind fun Jd=>(bif (!Jd) then some (true) else (bif (!(CF==C8)) then some (true) else (bif (BR !=Fg) then some (true) else (Gb DV EP).bind fun Je=>(bif (!Je) then some (true) else (bif (!(CA==En)) then some (true) else (bif (BV !=Il) then some (true) else (bif (!(C3==DO)) then some (true) else (bif (C2 !=DU) then some (true) else (D4 BK BD).bind fun Im=>some ((!(Im==Hm)))))))))))))))).bind fun DP=>(bif DP then some false else ((bif BZ then (Fj BK BD DR).bind fun (Io,GK)=>(Fj BK BD DV).bind fun (KX,KY)=>((bif (!CF) then some (true) else (bif (!CA) then some (true) else (bif (!C3) then some (true) else (bif (!GK) then some (true) else (bif (Io !=BY) then some (true) else (bif (!KY) then some (true) else (bif (KX !=BR) then some (true) else (bif (decide (BV<C2)) then some (true) else (bif (decide (BY<BV)) then some (true) else (bif (decide (BR<BV)) then some (true) else (bif CM then some ((decide (CJ<BV))) else some (false))))))))))))).bind fun Hn=>(bif Hn then some (LR.done false) else ((bif (decide ((IntKind.i64.wrap ((IntKind.i64.wrap ((IntKind.i64.wrap (2*BD))-1))*BV))<(IntKind.i64.wrap (BD*BY)))) then some (true) else some ((decide ((IntKind.i64.wrap ((IntKind.i64.wrap ((IntKind.i64.wrap (4*BD))-1))*BV))<(IntKind.i64.wrap ((IntKind.i64.wrap (3*BD))*BR))))))).bind fun Ho=>(bif Ho then some (LR.done false) else some (LR.next ()))) else some (LR.next ()))).bind fun y=>match y with|LR.next ()=>some (decide (0≤(a1.length:Int)))|LR.done z=>some z))
end Go.DN
