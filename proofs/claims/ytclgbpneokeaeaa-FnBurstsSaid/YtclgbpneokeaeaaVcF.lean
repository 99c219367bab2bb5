import Derived.Test.YtclgbpneokeaeaaVaE
import Derived.Test.YtclgbpneokeaeaaVaG
open Go Go.VS
set_option maxRecDepth 8000
namespace Go.EI
structure Ds where
 Code:List Int
 At:Int
 DA:Int
noncomputable def FC (a0:Ds):Option (Int×Ds):=
 ((bif (decide (a0.At<(a0.Code.length:Int))) then (idx a0.Code a0.At).bind fun DK=>some ((IntKind.i64.wrap DK)) else some (0))).bind fun Dt=>(bif (decide ((IntKind.i64.wrap (a0.At+1))≤(a0.Code.length:Int))) then some (Dt,(⟨a0.Code,(IntKind.i64.wrap (a0.At+1)),(IntKind.u64.wrap ((IntKind.u64.wrap ((IntKind.u64.wrap (a0.DA*6364136223846793005))+(IntKind.u64.wrap Dt)))+1442695040888963407))⟩:Ds)) else some ((IntKind.i64.wrap (zS .u64 (uA .u64 (IntKind.u64.wrap ((IntKind.u64.wrap ((IntKind.u64.wrap (a0.DA*6364136223846793005))+(IntKind.u64.wrap Dt)))+1442695040888963407)) 40) 255)),(⟨a0.Code,(IntKind.i64.wrap (a0.At+1)),(IntKind.u64.wrap ((IntKind.u64.wrap ((IntKind.u64.wrap (a0.DA*6364136223846793005))+(IntKind.u64.wrap Dt)))+1442695040888963407))⟩:Ds)))
noncomputable def Eh (a0:Ds) (a1:Int):Option (Int×Ds):=
 (bif (decide (a1≤1)) then some (0,a0) else (FC a0).bind fun (Dn,Dq)=>((bif (decide (200<a1)) then (FC Dq).bind fun (I6,Fe)=>some ((IntKind.i64.wrap ((IntKind.i64.wrap (Dn*256))+I6)),Fe.Code,Fe.At,Fe.DA) else some (Dn,Dq.Code,Dq.At,Dq.DA))).bind fun (DN,D2,DV,Dv)=>(md DN a1).bind fun I7=>some (I7,(⟨D2,DV,Dv⟩:Ds)))
noncomputable def FD (a0:Ds) (a1:List Int):Option (Int×Ds):=
 (Eh a0 (a1.length:Int)).bind fun (DB,Ei)=>(idx a1 DB).bind fun DH=>some (DH,Ei)
noncomputable def FE (a0:Ds) (a1:Int):Option (Bool×Ds):=
 (Eh a0 a1).bind fun (DB,Ei)=>some ((DB==0),Ei)
noncomputable def F8 (a0:Int) (a1:Int):Option (Int):=
 (bif (decide (a1<a0)) then some a0 else some a1)
noncomputable def HK (FF:List Int) (x:((List Int)×Int×(List Int)×Int×Int)):Option (LR ((List Int)×Int×(List Int)×Int×Int) ((List Int)×(List Int)×Int×Int)):=
 match x with
 |(EW,D_,Ea,Ff,Fg)=>(bif (decide (D_<(FF.length:Int))) then (Eh (⟨Ea,Ff,Fg⟩:Ds) 26).bind fun (GP,GQ)=>(idx EW D_).bind fun _b54=>some (LR.next ((EW.set D_.toNat (IntKind.u8.wrap (IntKind.i64.wrap (97+GP)))),(IntKind.i64.wrap (D_+1)),GQ.Code,GQ.At,GQ.DA)) else some (LR.done (EW,Ea,Ff,Fg)))
noncomputable def Fh (a0:Ds):Option (List UInt8×Int×Ds):=
 (FD a0 ([0,1,2,3,4,6,12,13]:List Int)).bind fun (DH,Dn)=>(Eh Dn 6).bind fun (DK,Dw)=>(FE Dw 12).bind fun (Eo,Ep)=>((bif Eo then some ((IntKind.i64.wrap ((IntKind.i64.wrap (DH*DK))+1))) else some ((IntKind.i64.wrap (DH*DK))))).bind fun F9=>(F8 0 F9).bind fun Ga=>(jq 1 Ga (0:Int)).bind fun FF=>(eO (HK FF) (FF,0,Ep.Code,Ep.At,Ep.DA)).bind fun (D3,Gb,Gc,D0)=>some ((pN D3),DH,(⟨Gb,Gc,D0⟩:Ds))
noncomputable def FG (a0:List Int):Option (List UInt8×Int):=
 (Fh (⟨a0,0,0⟩:Ds)).bind fun (Dn,Dq,_b9)=>some (Dn,Dq)
noncomputable def EP (a0:Int) (a1:Int) (a2:Int):Option (Bool):=
 (bif (decide (a1≤a0)) then some (decide (a0≤a2)) else some false)
noncomputable def Fi (a0:Int) (a1:Int):Option (Bool):=
 (EP a0 0 120).bind fun b3=>(bif b3 then (EP a1 1 12).bind fun DB=>(bif DB then (md a0 a1).bind fun Dt=>some (Dt==0) else some false) else some false)
noncomputable def GR (a0:Int) (a1:Int) (a2:List UInt8):Option (Int):=
 (md a0 a1).bind fun x3=>(dv .i64 (a2.length:Int) a1).bind fun Dx=>(dv .i64 a0 a1).bind fun Dt=>some (IntKind.i64.wrap ((IntKind.i64.wrap (x3*Dx))+Dt))
noncomputable def Gd (a0:List UInt8) (g1:Int→Option Int) (Dt:List Int) (x:((List Int)×Int)):Option (LR ((List Int)×Int) ((List Int))):=
 match x with
 |(EX,Ej)=>(bif (decide (Ej<(Dt.length:Int))) then (g1 Ej).bind fun I8=>(idx a0 I8).bind fun GS=>(idx EX Ej).bind fun _b26=>some (LR.next ((EX.set Ej.toNat (GS.toNat:Int)),(IntKind.i64.wrap (Ej+1)))) else some (LR.done (EX)))
noncomputable def FH (a0:List UInt8) (g1:Int→Option Int):Option (List UInt8):=
 (jq 1 (a0.length:Int) (0:Int)).bind fun Dt=>(eO (Gd a0 g1 Dt) (Dt,0)).bind fun Ge=>some (pN Ge)
noncomputable def Gf (a0:List UInt8) (a1:Int):Option (List UInt8×Bool):=
 (Fi (a0.length:Int) a1).bind fun Dq=>(bif (!Dq) then some ([],false) else (FH a0 (fun HL=>GR HL a1 a0)).bind fun Dw=>some (Dw,true))
noncomputable def Ek (a0:Int) (a1:Int) (a2:Int):Option (Bool):=
 (bif (decide (a1≤a0)) then some (decide (a0≤a2)) else some false)
noncomputable def Fj (a0:Int) (a1:Int):Option (Bool):=
 (Ek a1 1 12).bind fun b3=>(bif b3 then (Ek a0 0 120).bind fun DB=>(bif DB then (md a0 a1).bind fun Dt=>some (Dt==0) else some false) else some false)
noncomputable def Gg (a0:List UInt8) (a1:Int) (Dy:Int) (DN:List Int) (x:((List Int)×Int)):Option (LR ((List Int)×Int) ((List Int))):=
 match x with
 |(Dv,Dz)=>(bif (decide (Dz<(DN.length:Int))) then (md Dz a1).bind fun D_=>(dv .i64 Dz a1).bind fun Ea=>(idx a0 (IntKind.i64.wrap ((IntKind.i64.wrap (D_*Dy))+Ea))).bind fun EC=>(idx Dv Dz).bind fun _b33=>some (LR.next ((Dv.set Dz.toNat (EC.toNat:Int)),(IntKind.i64.wrap (Dz+1)))) else some (LR.done (Dv)))
noncomputable def Gh (a0:List UInt8) (a1:Int):Option (List UInt8×Bool):=
 (Fj (a0.length:Int) a1).bind fun DB=>(bif (!DB) then some ([],false) else (dv .i64 (a0.length:Int) a1).bind fun Dy=>(jq 1 (a0.length:Int) (0:Int)).bind fun DN=>(eO (Gg a0 a1 Dy DN) (DN,0)).bind fun DC=>some ((pN DC),true))
noncomputable def GU (a0:Int) (a1:Int) (a2:Int):Option (Int):=
 (md a0 a1).bind fun x3=>(dv .i64 a0 a1).bind fun Dx=>some (IntKind.i64.wrap ((IntKind.i64.wrap (x3*a2))+Dx))
noncomputable def EJ (a0:List UInt8) (a1:Int):Option (List UInt8×Bool):=
 (Fi (a0.length:Int) a1).bind fun DH=>(bif (!DH) then some ([],false) else (dv .i64 (a0.length:Int) a1).bind fun Ej=>(FH a0 (fun HL=>GU HL Ej a1)).bind fun EY=>some (EY,true))
noncomputable def HM (a0:List Int) (x:(Int×Int)):Option (LR (Int×Int) (Int)):=
 match x with
 |(Dt,FI)=>(bif (decide (FI<(a0.length:Int))) then (idx a0 FI).bind fun Fe=>some (LR.next ((Int.tmod (IntKind.i64.wrap ((IntKind.i64.wrap (31*Dt))+(IntKind.i64.wrap Fe))) 1000003),(IntKind.i64.wrap (FI+1)))) else some (LR.done (Dt)))
noncomputable def EZ (a0:List Int):Option (Int):=
 (eO (HM a0) (0,0)).bind fun Dy=>some Dy
noncomputable def FJ (a0:Int) (a1:Int) (a2:Int):Option (Bool):=
 (EP a0 0 120).bind fun b3=>(bif b3 then (EP a1 0 a0).bind fun DB=>(bif DB then (EP a2 0 (IntKind.i64.wrap (a0-a1))).bind fun Ei=>some Ei else some false) else some false)
noncomputable def GV (a1:Int) (a2:Int) (x:((List Int)×Int)):Option (LR ((List Int)×Int) ((List Int))):=
 match x with
 |(D2,DV)=>(bif (decide (DV<a2)) then (idx D2 (IntKind.i64.wrap (a1+DV))).bind fun GW=>(idx D2 (IntKind.i64.wrap (a1+DV))).bind fun _b30=>some (LR.next ((D2.set (IntKind.i64.wrap (a1+DV)).toNat (zU .u8 GW 255)),(IntKind.i64.wrap (DV+1)))) else some (LR.done (D2)))
noncomputable def E0 (a0:List UInt8) (a1:Int) (a2:Int):Option (List UInt8×Bool):=
 (FJ (a0.length:Int) a1 a2).bind fun DB=>(bif (!DB) then some ([],false) else (pO a0).bind fun Dy=>(eO (GV a1 a2) (Dy,0)).bind fun Dv=>some ((pN Dv),true))
def slices_Sort_int (a0:List Int):Option (List Int):=
 wL a0
def slices_Compact_int (a0:List Int):Option (List Int):=
 wM a0
noncomputable def GX (a1:Int) (a2:Int) (a3:Int) (x:((List Int)×Int)):Option (LR ((List Int)×Int) ((List Int))):=
 match x with
 |(Dz,D1)=>(bif (decide (D1<a3)) then (md (IntKind.i64.wrap (a2+D1)) a1).bind fun D3=>(app 8 Dz ([D3]:List Int)).bind fun D0=>some (LR.next (D0,(IntKind.i64.wrap (D1+1)))) else some (LR.done (Dz)))
noncomputable def E1 (a0:Int) (a1:Int) (a2:Int) (a3:Int):Option (List Int×Bool):=
 ((Fi a0 a1).bind fun DO=>(bif (!DO) then some (true) else (FJ a0 a2 a3).bind fun DK=>some ((!DK)))).bind fun Dx=>(bif Dx then some ([],false) else (eO (GX a1 a2 a3) ([],0)).bind fun Du=>(slices_Sort_int Du).bind fun I9=>(slices_Compact_int I9).bind fun I_=>some (I_,true))
noncomputable def GY (a0:List Int) (a1:Int) (x:(Int)):Option (LR (Int) (LR Unit (Bool))):=
 match x with
 |(Dx)=>(bif (decide (Dx<(a0.length:Int))) then (idx a0 Dx).bind fun Ja=>(bif (Ja==a1) then some (LR.done (LR.done true)) else some (LR.next ((IntKind.i64.wrap (Dx+1))))) else some (LR.done (LR.next ())))
noncomputable def Gi (a0:List Int) (a1:Int):Option (Bool):=
 (eO (GY a0 a1) (0)).bind fun y=>match y with|LR.next ()=>some false|LR.done z=>some z
noncomputable def Gj (a0:List Int):Option (List UInt8×Int):=
 (FG a0).bind fun (DB,Ei)=>some (DB,Ei)
noncomputable def GZ (a0:List UInt8) (a1:Int) (Dy:Int) (DN:List Int) (x:((List Int)×Int)):Option (LR ((List Int)×Int) ((List Int))):=
 match x with
 |(Dv,Dz)=>(bif (decide (Dz<(DN.length:Int))) then (md Dz a1).bind fun D_=>(dv .i64 Dz a1).bind fun Ea=>(idx a0 Dz).bind fun EC=>(idx Dv (IntKind.i64.wrap ((IntKind.i64.wrap (D_*Dy))+Ea))).bind fun _b33=>some (LR.next ((Dv.set (IntKind.i64.wrap ((IntKind.i64.wrap (D_*Dy))+Ea)).toNat (EC.toNat:Int)),(IntKind.i64.wrap (Dz+1)))) else some (LR.done (Dv)))
noncomputable def Gk (a0:List UInt8) (a1:Int):Option (List UInt8×Bool):=
 (Fj (a0.length:Int) a1).bind fun DB=>(bif (!DB) then some ([],false) else (dv .i64 (a0.length:Int) a1).bind fun Dy=>(jq 1 (a0.length:Int) (0:Int)).bind fun DN=>(eO (GZ a0 a1 Dy DN) (DN,0)).bind fun DC=>some ((pN DC),true))
noncomputable def Gl (a0:List Int):Option (List UInt8×Int×Int):=
 (Fh (⟨a0,0,0⟩:Ds)).bind fun (Dn,_b8,DO)=>(Eh DO (IntKind.i64.wrap ((Dn.length:Int)+2))).bind fun (Er,EY)=>(Eh EY 6).bind fun (Eo,_b16)=>some (Dn,(IntKind.i64.wrap (Er-1)),Eo)
noncomputable def G0 (a1:Int) (a2:Int) (x:((List Int)×Int)):Option (LR ((List Int)×Int) ((List Int))):=
 match x with
 |(D1,Du)=>(bif (decide (Du<(IntKind.i64.wrap (a1+a2)))) then (idx D1 Du).bind fun Es=>(idx D1 Du).bind fun _b35=>some (LR.next ((D1.set Du.toNat (zU .u8 Es 255)),(IntKind.i64.wrap (Du+1)))) else some (LR.done (D1)))
noncomputable def Gm (a0:List UInt8) (a1:Int) (a2:Int):Option (List UInt8×Bool):=
 ((bif (decide (120<(a0.length:Int))) then some (true) else (Ek a1 0 (a0.length:Int)).bind fun DO=>(bif (!DO) then some (true) else (Ek a2 0 (IntKind.i64.wrap ((a0.length:Int)-a1))).bind fun DK=>some ((!DK))))).bind fun Dx=>(bif Dx then some ([],false) else (pO a0).bind fun DV=>(eO (G0 a1 a2) (DV,a1)).bind fun ED=>some ((pN ED),true))
noncomputable def Gn (a0:List Int):Option (Int×Int×Int×Int):=
 (Fh (⟨a0,0,0⟩:Ds)).bind fun (Dn,Dq,DO)=>(Eh DO (IntKind.i64.wrap ((Dn.length:Int)+2))).bind fun (Er,EY)=>(Eh EY 8).bind fun (Eo,_b16)=>some ((Dn.length:Int),Dq,Er,Eo)
noncomputable def G3 (a1:Int) (a2:Int) (a3:Int) (Du:Int) (x:(Bool×Int)):Option (LR (Bool×Int) (Bool)):=
 match x with
 |(Fk,E2)=>(bif (decide (E2<(IntKind.i64.wrap (a2+a3)))) then (((bif Fk then some (true) else (md E2 a1).bind fun G4=>some ((G4==Du)))).bind fun Fl=>some (Fl)).bind fun Gp=>some (LR.next (Gp,(IntKind.i64.wrap (E2+1)))) else some (LR.done (Fk)))
noncomputable def G5 (a1:Int) (a2:Int) (a3:Int) (x:((List Int)×Int)):Option (LR ((List Int)×Int) ((List Int))):=
 match x with
 |(DC,Du)=>(bif (decide (Du<a1)) then ((eO (G3 a1 a2 a3 Du) (false,a2)).bind fun Gq=>((bif Gq then (app 8 DC ([Du]:List Int)).bind fun Et=>some (Et) else some (DC))).bind fun Fm=>some (Fm)).bind fun D3=>some (LR.next (D3,(IntKind.i64.wrap (Du+1)))) else some (LR.done (DC)))
noncomputable def Gr (a0:Int) (a1:Int) (a2:Int) (a3:Int):Option (List Int×Bool):=
 ((Fj a0 a1).bind fun DO=>(bif (!DO) then some (true) else (Ek a2 0 a0).bind fun DK=>(bif (!DK) then some (true) else (Ek a3 0 (IntKind.i64.wrap (a0-a2))).bind fun Dw=>some ((!Dw))))).bind fun Dx=>(bif Dx then some ([],false) else (eO (G5 a1 a2 a3) ([],0)).bind fun ED=>some (ED,true))
noncomputable def Gs (a0:List Int) (a1:List Int) (x:(Int)):Option (LR (Int) (LR Unit (Bool))):=
 match x with
 |(Dy)=>(bif (decide (Dy<(a0.length:Int))) then (idx a0 Dy).bind fun Jb=>(idx a1 Dy).bind fun Ga=>(bif (Jb !=Ga) then some (LR.done (LR.done false)) else some (LR.next ((IntKind.i64.wrap (Dy+1))))) else some (LR.done (LR.next ())))
noncomputable def Gt (a0:List Int) (a1:List Int):Option (Bool):=
 (bif ((a0.length:Int) !=(a1.length:Int)) then some false else (eO (Gs a0 a1) (0)).bind fun y=>match y with|LR.next ()=>some true|LR.done z=>some z)
noncomputable def G6 (Dn:List UInt8) (DI:List UInt8) (DP:Int) (DR:Int) (x:(Int×Int)):Option (LR (Int×Int) (Int)):=
 match x with
 |(EK,EF)=>(bif (decide (EF<(IntKind.i64.wrap ((IntKind.i64.wrap (DR+1))*DP)))) then ((idx DI EF).bind fun Jc=>(idx Dn EF).bind fun Jd=>((bif ((Jc.toNat:Int) !=(Jd.toNat:Int)) then some ((IntKind.i64.wrap (EK+1))) else some (EK))).bind fun Gu=>some (Gu)).bind fun Gv=>some (LR.next (Gv,(IntKind.i64.wrap (EF+1)))) else some (LR.done (EK)))
noncomputable def Gw (Dn:List UInt8) (Dq:Int) (DI:List UInt8) (DW:List Int) (DP:Int) (x:(Int)):Option (LR (Int) (LR Unit (LR Unit (LR Unit (Bool))))):=
 match x with
 |(DR)=>(bif (decide (DR<Dq)) then (eO (G6 Dn DI DP DR) (0,(IntKind.i64.wrap (DR*DP)))).bind fun Fo=>((bif (decide (1<Fo)) then some (true) else (Gi DW DR).bind fun G7=>some ((!((Fo==1)==G7))))).bind fun Gx=>(bif Gx then some (LR.done (LR.done (LR.done (LR.done false)))) else some (LR.next ((IntKind.i64.wrap (DR+1))))) else some (LR.done (LR.next ())))
noncomputable def Gy (a0:List Int) (a1:List Int):Option (Bool):=
 (bif (decide (1048576<(IntKind.i64.wrap ((a0.length:Int)+(a1.length:Int))))) then some true else (FG a0).bind fun (Dn,Dq)=>(Gf Dn Dq).bind fun (Dw,Er)=>(Gh Dn Dq).bind fun (Eo,Ep)=>((bif (!(Er==Ep)) then some (true) else some ((!(Dw==Eo))))).bind fun Du=>(bif Du then some false else ((bif Er then (EJ Dw Dq).bind fun (Es,G8)=>((bif (!G8) then some (true) else some ((!(Es==Dn))))).bind fun D0=>(bif D0 then some (LR.done false) else ((bif (decide (0<(Dn.length:Int))) then (EZ a1).bind fun FK=>(md FK (Dn.length:Int)).bind fun Eb=>(EZ a1).bind fun Gz=>(md (IntKind.i64.wrap (Int.tdiv Gz 13)) (IntKind.i64.wrap (Dq+1))).bind fun Fp=>((bif (decide ((Dn.length:Int)<(IntKind.i64.wrap (Eb+Fp)))) then some ((IntKind.i64.wrap ((Dn.length:Int)-Eb))) else some (Fp))).bind fun Eu=>(E0 Dw Eb Eu).bind fun (G9,G_)=>(EJ G9 Dq).bind fun (DI,Ha)=>(E1 (Dn.length:Int) Dq Eb Eu).bind fun (DW,Hb)=>((bif (!G_) then some (true) else (bif (!Ha) then some (true) else (bif (!Hb) then some (true) else some (((DW.length:Int) !=Eu)))))).bind fun Et=>(bif Et then some (LR.done (LR.done false)) else (dv .i64 (Dn.length:Int) Dq).bind fun DP=>(eO (Gw Dn Dq DI DW DP) (0)).bind fun y=>match y with|LR.next ()=>some (LR.next ())|LR.done z=>some z) else some (LR.next ()))).bind fun y=>match y with|LR.next ()=>some (LR.next ())|LR.done z=>some z) else some (LR.next ()))).bind fun y=>match y with|LR.next ()=>(Gj a1).bind fun (HN,HO)=>(EJ HN HO).bind fun (Je,Jf)=>(Gk HN HO).bind fun (Jg,Jh)=>(Gl a1).bind fun (HP,HQ,HR)=>(E0 HP HQ HR).bind fun (Ji,Jj)=>(Gm HP HQ HR).bind fun (Jk,Jl)=>(Gn a1).bind fun (HS,HT,HU,HV)=>(E1 HS HT HU HV).bind fun (HW,Jm)=>(Gr HS HT HU HV).bind fun (HX,Jn)=>(bif (Jf==Jh) then (bif (Je==Jg) then (bif (Jj==Jl) then (bif (Ji==Jk) then (bif (Jm==Jn) then (Gt HW HX).bind fun HY=>some HY else some false) else some false) else some false) else some false) else some false)|LR.done z=>some z))
end Go.EI
