import Derived.Test.YtmbfhipfcjmhmaaGreatVaE
import Derived.Test.YtmbfhipfcjmhmaaGreatVaG
open Go Go.VS
set_option maxRecDepth 8000
namespace Go.JN
structure Span where
 Hk:Int
 To:Int
structure Hj where
 Id:Int
 Hh:Int
 Text:List UInt8
 Has:List Span
structure Ho where
 Hg:List Hj
 Told:List Int
structure Part where
 Id:Int
 At:Int
 Hh:Int
 Text:List UInt8
structure HE where
 Code:List Int
 At:Int
 Ib:Int
noncomputable def OJ (a0:HE):Option (Int×HE):=
 ((bif (decide (a0.At<(a0.Code.length:Int))) then (idx a0.Code a0.At).bind fun Jm=>some ((IntKind.i64.wrap Jm)) else some (0))).bind fun HI=>(bif (decide ((IntKind.i64.wrap (a0.At+1))≤(a0.Code.length:Int))) then some (HI,(⟨a0.Code,(IntKind.i64.wrap (a0.At+1)),(IntKind.u64.wrap ((IntKind.u64.wrap ((IntKind.u64.wrap (a0.Ib*6364136223846793005))+(IntKind.u64.wrap HI)))+1442695040888963407))⟩:HE)) else some ((IntKind.i64.wrap (CN .u64 (xb .u64 (IntKind.u64.wrap ((IntKind.u64.wrap ((IntKind.u64.wrap (a0.Ib*6364136223846793005))+(IntKind.u64.wrap HI)))+1442695040888963407)) 40) 255)),(⟨a0.Code,(IntKind.i64.wrap (a0.At+1)),(IntKind.u64.wrap ((IntKind.u64.wrap ((IntKind.u64.wrap (a0.Ib*6364136223846793005))+(IntKind.u64.wrap HI)))+1442695040888963407))⟩:HE)))
noncomputable def J_ (a0:HE) (a1:Int):Option (Int×HE):=
 (bif (decide (a1≤1)) then some (0,a0) else (OJ a0).bind fun (HT,MX)=>((bif (decide (200<a1)) then (OJ MX).bind fun (Io,HU)=>some ((IntKind.i64.wrap ((IntKind.i64.wrap (HT*256))+Io)),HU.Code,HU.At,HU.Ib) else some (HT,MX.Code,MX.At,MX.Ib))).bind fun (Jn,HX,H7,HF)=>(md Jn a1).bind fun MY=>some (MY,(⟨HX,H7,HF⟩:HE)))
noncomputable def PX (a0:HE) (a1:List (List UInt8)):Option (List UInt8×HE):=
 (J_ a0 (a1.length:Int)).bind fun (IG,Iz)=>(idx a1 IG).bind fun Ip=>some (Ip,Iz)
noncomputable def LZ (a0:HE) (a1:Int):Option (Bool×HE):=
 (J_ a0 a1).bind fun (IG,Iz)=>some ((IG==0),Iz)
noncomputable def MZ (a0:HE) (a1:List Int):Option (Int×HE):=
 (J_ a0 (a1.length:Int)).bind fun (IG,Iz)=>(idx a1 IG).bind fun Ip=>some (Ip,Iz)
noncomputable def OK (a0:HE):Option (List UInt8×HE):=
 (PX a0 ([[97],[98,108,111,99,107],[97,32,108,111,110,103,101,114,32,98,108,111,99,107,32,111,102,32,98,121,116,101,115],[0,0],[97,98,99,100],[101,120,97,99,116,108,121,32,101,105,103,104,116]]:List (List UInt8))).bind fun (Ip,HT)=>(LZ HT 30).bind fun (If,Iw)=>((bif If then (MZ Iw ([0,40,41]:List Int)).bind fun (Kq,Kr)=>(mU 1 Kq (0:Int)).bind fun Jg=>some ((rQ Jg),Kr.Code,Kr.At,Kr.Ib) else some (Ip,Iw.Code,Iw.At,Iw.Ib))).bind fun (H7,HF,HM,HN)=>some (H7,(⟨HF,HM,HN⟩:HE))
noncomputable def Ml (a0:Int) (a1:Int) (a2:Int):Option (Bool):=
 (bif (decide (a1≤a0)) then some (decide (a0≤a2)) else some false)
noncomputable def NG (a0:Int) (a1:Int):Option (Bool):=
 (Ml a0 0 1000).bind fun b3=>(bif b3 then (Ml a1 1 40).bind fun IG=>some IG else some false)
noncomputable def OL (a0:Int) (a1:Int):Option (Int):=
 (bif (decide (a0<a1)) then some a0 else some a1)
noncomputable def Ry (a0:Int) (a1:List UInt8) (x:((List Part)×Int)):Option (LR ((List Part)×Int) ((List Part))):=
 match x with
 |(Js,HX)=>(bif (decide (HX<(a1.length:Int))) then (OL (a1.length:Int) (IntKind.i64.wrap (HX+4))).bind fun KH=>(cY a1 HX KH).bind fun Jg=>(app 40 Js ([(⟨a0,HX,(a1.length:Int),Jg⟩:Part)]:List Part)).bind fun Ks=>some (LR.next (Ks,(IntKind.i64.wrap (HX+4)))) else some (LR.done (Js)))
noncomputable def PY (a0:Int) (a1:List UInt8):Option (List Part×Bool):=
 (NG a0 (a1.length:Int)).bind fun IG=>(bif (!IG) then some ([],false) else (fF (Ry a0 a1) ([],0)).bind fun H7=>some (H7,true))
noncomputable def Th (x:((List Part)×Int×(List Int)×Int×Int)):Option (LR ((List Part)×Int×(List Int)×Int×Int) ((List Part)×(List Int)×Int×Int)):=
 match x with
 |(Jy,Jn,HX,H7,HF)=>(bif (decide (0<Jn)) then (J_ (⟨HX,H7,HF⟩:HE) 5).bind fun (IV,Ix)=>(OK Ix).bind fun (JZ,Jc)=>(PY IV JZ).bind fun (KI,_b41)=>(app 40 Jy KI).bind fun IA=>some (LR.next (IA,(IntKind.i64.wrap (Jn-1)),Jc.Code,Jc.At,Jc.Ib)) else some (LR.done (Jy,HX,H7,HF)))
noncomputable def Ti (x:((List Part)×Int×(List Int)×Int×Int)):Option (LR ((List Part)×Int×(List Int)×Int×Int) ((List Part)×(List Int)×Int×Int)):=
 match x with
 |(J0,M0,Jt,Kt,M1)=>((bif (decide (0<M0)) then some ((decide (1<(J0.length:Int)))) else some (false))).bind fun PZ=>(bif PZ then (J_ (⟨Jt,Kt,M1⟩:HE) (J0.length:Int)).bind fun (P0,VO)=>(J_ VO (J0.length:Int)).bind fun (Rz,RA)=>(idx J0 P0).bind fun Ka=>(idx J0 Rz).bind fun M2=>(idx J0 P0).bind fun _b96=>(idx (J0.set P0.toNat M2) Rz).bind fun _b98=>some (LR.next (((J0.set P0.toNat M2).set Rz.toNat Ka),(IntKind.i64.wrap (M0-1)),RA.Code,RA.At,RA.Ib)) else some (LR.done (J0,Jt,Kt,M1)))
noncomputable def NH (a0:HE):Option (List Part×HE):=
 (J_ a0 4).bind fun (Ip,HT)=>(fF (Th) ([],(IntKind.i64.wrap (1+Ip)),HT.Code,HT.At,HT.Ib)).bind fun (HM,IB,Jo,HV)=>(J_ (⟨IB,Jo,HV⟩:HE) 8).bind fun (Ku,Mm)=>(fF (Ti) (HM,Ku,Mm.Code,Mm.At,Mm.Ib)).bind fun (Lu,OM,ON,OO)=>((bif (decide (0<(Lu.length:Int))) then (LZ (⟨OM,ON,OO⟩:HE) 3).bind fun (M3,RB)=>some (M3,RB.Code,RB.At,RB.Ib) else some (false,OM,ON,OO))).bind fun (P1,OP,L3,OQ)=>((bif P1 then (J_ (⟨OP,L3,OQ⟩:HE) (Lu.length:Int)).bind fun (VP,RC)=>(idx Lu VP).bind fun Tj=>(app 40 Lu ([Tj]:List Part)).bind fun VQ=>some (VQ,RC.Code,RC.At,RC.Ib) else some (Lu,OP,L3,OQ))).bind fun (Mn,Kb,OR,OS)=>((bif (decide (0<(Mn.length:Int))) then (LZ (⟨Kb,OR,OS⟩:HE) 6).bind fun (Tk,RD)=>some (Tk,RD.Code,RD.At,RD.Ib) else some (false,Kb,OR,OS))).bind fun (P2,L4,NI,NJ)=>((bif P2 then (cY Mn 1 (Mn.length:Int)).bind fun VR=>some (VR) else some (Mn))).bind fun Mo=>((bif (decide (0<(Mo.length:Int))) then (LZ (⟨L4,NI,NJ⟩:HE) 30).bind fun (M4,RE)=>some (M4,RE.Code,RE.At,RE.Ib) else some (false,L4,NI,NJ))).bind fun (P3,OT,OU,OV)=>((bif P3 then (MZ (⟨OT,OU,OV⟩:HE) ([-1,40]:List Int)).bind fun (RF,RG)=>(idx Mo 0).bind fun NK=>some ((Mo.set (0:Int).toNat (⟨NK.Id,RF,NK.Hh,NK.Text⟩:Part)),RG.Code,RG.At,RG.Ib) else some (Mo,OT,OU,OV))).bind fun (P4,P5,P6,P7)=>some (P4,(⟨P5,P6,P7⟩:HE))
noncomputable def P8 (a0:List Int):Option (List Part):=
 (NH (⟨a0,0,0⟩:HE)).bind fun (HT,_b8)=>some HT
noncomputable def Mp (a0:Int) (a1:Int) (a2:Int):Option (Bool):=
 (bif (decide (a1≤a0)) then some (decide (a0≤a2)) else some false)
noncomputable def NL (a0:Int) (a1:Int):Option (Bool):=
 (Mp a0 0 1000).bind fun b3=>(bif b3 then (Mp a1 1 40).bind fun IG=>some IG else some false)
noncomputable def OW (a0:Span):Option (Bool):=
 (bif (decide (0≤a0.Hk)) then (bif (decide (a0.Hk<a0.To)) then some (decide (a0.To≤1000000)) else some false) else some false)
noncomputable def P9 (a0:List Span) (x:(Int)):Option (LR (Int) (LR Unit (Bool))):=
 match x with
 |(HD)=>(bif (decide (HD<(a0.length:Int))) then (idx a0 HD).bind fun HU=>((OW HU).bind fun Lb=>(bif (!Lb) then some (true) else (bif (decide (0<HD)) then (idx a0 (IntKind.i64.wrap (HD-1))).bind fun Lc=>some ((decide (HU.Hk≤Lc.To))) else some (false)))).bind fun P_=>(bif P_ then some (LR.done (LR.done false)) else some (LR.next ((IntKind.i64.wrap (HD+1))))) else some (LR.done (LR.next ())))
noncomputable def OX (a0:List Span):Option (Bool):=
 (bif (decide (20<(a0.length:Int))) then some false else (fF (P9 a0) (0)).bind fun y=>match y with|LR.next ()=>some true|LR.done z=>some z)
noncomputable def Qa (a0:List Span) (a1:Int):Option (Bool):=
 (OX a0).bind fun b3=>(bif b3 then (bif ((a0.length:Int)==0) then some true else (idx a0 (IntKind.i64.wrap ((a0.length:Int)-1))).bind fun IG=>some (decide (IG.To≤a1))) else some false)
noncomputable def RH (a0:Span) (a1:Int):Option (Bool):=
 (bif (decide (a0.Hk≤a1)) then some (decide (a1<a0.To)) else some false)
noncomputable def Tl (a0:List Span) (g1:Span→Option Bool) (x:(Int)):Option (LR (Int) (LR Unit (Int))):=
 match x with
 |(HK)=>(bif (decide (HK<(a0.length:Int))) then (idx a0 HK).bind fun IE=>(g1 IE).bind fun Io=>(bif Io then some (LR.done (LR.done HK)) else some (LR.next ((IntKind.i64.wrap (HK+1))))) else some (LR.done (LR.next ())))
noncomputable def Qb (a0:List Span) (g1:Span→Option Bool):Option (Int):=
 (fF (Tl a0 g1) (0)).bind fun y=>match y with|LR.next ()=>some (-1)|LR.done z=>some z
noncomputable def Qc (a0:List Span) (g1:Span→Option Bool):Option (Bool):=
 (Qb a0 g1).bind fun b3=>some (decide (0≤b3))
noncomputable def OY (a0:List Span) (a1:Int):Option (Bool):=
 (Qc a0 (fun y0=>RH y0 a1)).bind fun Iz=>some Iz
noncomputable def Qd (a0:Hj) (x:(Int)):Option (LR (Int) (LR Unit (Bool))):=
 match x with
 |(HN)=>(bif (decide (HN<a0.Hh)) then ((idx a0.Text HN).bind fun NM=>(bif ((NM.toNat:Int) !=0) then (OY a0.Has HN).bind fun JZ=>some ((!JZ)) else some (false))).bind fun Ks=>(bif Ks then some (LR.done (LR.done false)) else some (LR.next ((IntKind.i64.wrap (HN+1))))) else some (LR.done (LR.next ())))
noncomputable def OZ (a0:Hj):Option (Bool):=
 ((NL a0.Id a0.Hh).bind fun If=>(bif (!If) then some (true) else (bif ((a0.Text.length:Int) !=a0.Hh) then some (true) else (Qa a0.Has a0.Hh).bind fun Iw=>some ((!Iw))))).bind fun HG=>(bif HG then some false else (fF (Qd a0) (0)).bind fun y=>match y with|LR.next ()=>some true|LR.done z=>some z)
noncomputable def Qe (a0:List Span) (x:(Int×Int)):Option (LR (Int×Int) (Int)):=
 match x with
 |(HI,HG)=>(bif (decide (HG<(a0.length:Int))) then (idx a0 HG).bind fun HU=>some (LR.next ((IntKind.i64.wrap (HI+(IntKind.i64.wrap (HU.To-HU.Hk)))),(IntKind.i64.wrap (HG+1)))) else some (LR.done (HI)))
noncomputable def NN (a0:List Span):Option (Int):=
 (fF (Qe a0) (0,0)).bind fun HD=>some HD
noncomputable def Lv (a0:Hj):Option (Bool):=
 (NN a0.Has).bind fun b3=>some (b3==a0.Hh)
noncomputable def RI (a0:List Int) (a1:Int) (x:(Int)):Option (LR (Int) (LR Unit (Int))):=
 match x with
 |(HK)=>(bif (decide (HK<(a0.length:Int))) then (idx a0 HK).bind fun IE=>(bif (a1==IE) then some (LR.done (LR.done HK)) else some (LR.next ((IntKind.i64.wrap (HK+1))))) else some (LR.done (LR.next ())))
noncomputable def RJ (a0:List Int) (a1:Int):Option (Int):=
 (fF (RI a0 a1) (0)).bind fun y=>match y with|LR.next ()=>some (-1)|LR.done z=>some z
noncomputable def NO (a0:List Int) (a1:Int):Option (Bool):=
 (RJ a0 a1).bind fun b3=>some (decide (0≤b3))
noncomputable def O0 (a0:Ho) (x:(Int)):Option (LR (Int) (LR Unit (Bool))):=
 match x with
 |(HF)=>(bif (decide (HF<(a0.Hg.length:Int))) then (idx a0.Hg HF).bind fun H8=>((OZ H8).bind fun JZ=>(bif (!JZ) then some (true) else (Lv H8).bind fun Jc=>(bif Jc then some (true) else (bif (decide (0<HF)) then (idx a0.Hg (IntKind.i64.wrap (HF-1))).bind fun JO=>(bif (decide (H8.Id≤JO.Id)) then some (true) else (NO a0.Told H8.Id).bind fun KI=>some (KI)) else (NO a0.Told H8.Id).bind fun Jh=>some (Jh))))).bind fun JP=>(bif JP then some (LR.done (LR.done false)) else some (LR.next ((IntKind.i64.wrap (HF+1))))) else some (LR.done (LR.next ())))
noncomputable def O1 (a0:Ho) (x:(Int)):Option (LR (Int) (LR Unit (Bool))):=
 match x with
 |(JQ)=>(bif (decide (JQ<(a0.Told.length:Int))) then (idx a0.Told JQ).bind fun Mq=>((Mp Mq 0 1000).bind fun NP=>(bif (!NP) then some (true) else (bif (decide (0<JQ)) then (idx a0.Told (IntKind.i64.wrap (JQ-1))).bind fun O2=>some ((decide (Mq≤O2))) else some (false)))).bind fun M5=>(bif M5 then some (LR.done (LR.done false)) else some (LR.next ((IntKind.i64.wrap (JQ+1))))) else some (LR.done (LR.next ())))
noncomputable def Kc (a0:Ho):Option (Bool):=
 ((bif (decide (10<(a0.Hg.length:Int))) then some (true) else some ((decide (100<(a0.Told.length:Int)))))).bind fun HG=>(bif HG then some false else (fF (O0 a0) (0)).bind fun y=>match y with|LR.next ()=>((fF (O1 a0) (0)).bind fun y=>match y with|LR.next ()=>some true|LR.done z=>some z)|LR.done z=>some z)
noncomputable def O3 (a0:Part):Option (Bool):=
 (NL a0.Id a0.Hh).bind fun Iz=>(bif Iz then (Mp (a0.Text.length:Int) 1 4).bind fun Ip=>(bif Ip then (Mp a0.At 0 (IntKind.i64.wrap (a0.Hh-(a0.Text.length:Int)))).bind fun HT=>some HT else some false) else some false)
noncomputable def Tm (a0:List Hj):Option (List Hj):=
 app 56 [] a0
noncomputable def Tn (a0:List Int):Option (List Int):=
 app 8 [] a0
noncomputable def NQ (a0:List Span):Option (List Span):=
 app 16 [] a0
noncomputable def RK (HT:List Hj) (x:((List Hj)×Int)):Option (LR ((List Hj)×Int) ((List Hj))):=
 match x with
 |(HV,IW)=>(bif (decide (IW<(HT.length:Int))) then (idx HV IW).bind fun Ix=>(NQ Ix.Has).bind fun JO=>(idx HV IW).bind fun Jh=>some (LR.next ((HV.set IW.toNat (⟨Jh.Id,Jh.Hh,Jh.Text,JO⟩:Hj)),(IntKind.i64.wrap (IW+1)))) else some (LR.done (HV)))
noncomputable def Qf (a0:Ho):Option (Ho):=
 (Tm a0.Hg).bind fun HT=>(Tn a0.Told).bind fun If=>(fF (RK HT) (HT,0)).bind fun Mr=>some (⟨Mr,If⟩:Ho)
noncomputable def RL (a0:List Hj) (a1:Int) (g2:Hj→Int→Option Int) (x:(Int×Int)):Option (LR (Int×Int) (Int)):=
 match x with
 |(HI,HG)=>(bif (decide (HI<HG)) then ((idx a0 (IntKind.i64.wrap (xb .u64 (IntKind.u64.wrap (IntKind.i64.wrap (HI+HG))) 1))).bind fun Lw=>(g2 Lw a1).bind fun KH=>((bif (decide (KH<0)) then some ((IntKind.i64.wrap ((IntKind.i64.wrap (xb .u64 (IntKind.u64.wrap (IntKind.i64.wrap (HI+HG))) 1))+1)),HG) else some (HI,(IntKind.i64.wrap (xb .u64 (IntKind.u64.wrap (IntKind.i64.wrap (HI+HG))) 1))))).bind fun (Jg,M6)=>some (Jg,M6)).bind fun (HV,IW)=>some (LR.next (HV,IW)) else some (LR.done (HI)))
noncomputable def Qg (a0:List Hj) (a1:Int) (g2:Hj→Int→Option Int):Option (Int×Bool):=
 (fF (RL a0 a1 g2) (0,(a0.length:Int))).bind fun HD=>(bif (decide (HD<(a0.length:Int))) then (idx a0 HD).bind fun JZ=>(g2 JZ a1).bind fun Jc=>some (HD,(Jc==0)) else some (HD,false))
noncomputable def NR (a0:Hj) (a1:Int):Option (Int):=
 some (IntKind.i64.wrap (a0.Id-a1))
def strings_Repeat (a0:List UInt8) (a1:Int):Option (List UInt8):=
 zi a0 a1
noncomputable def Qh (a0:Int) (a1:Int):Option (Hj):=
 (strings_Repeat ([0]) a1).bind fun Iz=>some (⟨a0,a1,Iz,[]⟩:Hj)
noncomputable def RM (a0:List Hj) (a1:Int) (a2:List Hj):Option (List Hj):=
 zk 56 a0 a1 a2
def VT (x:Span):List Int:=[x.Hk,x.To]
def VU:List Int→Span
 |[a,b]=>⟨a,b⟩
 |_=>⟨0,0⟩
noncomputable def Tp (a0:List Span):Option (List Span):=
 po 2 VT VU a0
noncomputable def Qi (HT:List Span) (x:((List Span)×Int)):Option (LR ((List Span)×Int) ((List Span))):=
 match x with
 |(HO,H7)=>(bif (decide (H7<(HT.length:Int))) then ((idx HT H7).bind fun Ix=>((bif (decide (0≤(IntKind.i64.wrap ((HO.length:Int)-1)))) then (idx HO (IntKind.i64.wrap ((HO.length:Int)-1))).bind fun Tq=>some ((decide (Ix.Hk≤Tq.To))) else some (false))).bind fun IM=>(bif IM then (idx HO (IntKind.i64.wrap ((HO.length:Int)-1))).bind fun JE=>(idx HO (IntKind.i64.wrap ((HO.length:Int)-1))).bind fun Ku=>some ((HO.set (IntKind.i64.wrap ((HO.length:Int)-1)).toNat (⟨Ku.Hk,(if Ix.To>JE.To then Ix.To else JE.To)⟩:Span))) else (app 16 HO ([Ix]:List Span)).bind fun Jt=>some (Jt))).bind fun Jg=>some (LR.next (Jg,(IntKind.i64.wrap (H7+1)))) else some (LR.done (HO)))
noncomputable def O4 (a0:List Span):Option (List Span):=
 (NQ a0).bind fun b3=>(Tp b3).bind fun HT=>(fF (Qi HT) ([],0)).bind fun HF=>some HF
noncomputable def O5 (a0:List Span):Option (List Span×Bool):=
 (bif (decide (20<(a0.length:Int))) then some ([],false) else some (a0,true))
noncomputable def Qj (a0:List Span) (a1:Span):Option (List Span×Int×Bool):=
 ((OX a0).bind fun If=>(bif (!If) then some (true) else (OW a1).bind fun Iw=>some ((!Iw)))).bind fun HG=>(bif HG then some ([],0,false) else (NQ a0).bind fun KJ=>(app 16 KJ ([a1]:List Span)).bind fun Mr=>(O4 Mr).bind fun Kq=>(O5 Kq).bind fun (II,Lb)=>(bif (!Lb) then some ([],0,false) else (NN II).bind fun JZ=>(NN a0).bind fun Jc=>some (II,(IntKind.i64.wrap (JZ-Jc)),true)))
noncomputable def Qk (a0:Hj) (a1:Part) (x:((List Int)×Int)):Option (LR ((List Int)×Int) ((List Int))):=
 match x with
 |(KK,J1)=>(bif (decide (J1<(a1.Text.length:Int))) then ((OY a0.Has (IntKind.i64.wrap (a1.At+J1))).bind fun Ly=>((bif (!Ly) then (idx a1.Text J1).bind fun Kd=>(idx KK (IntKind.i64.wrap (a1.At+J1))).bind fun _b62=>some ((KK.set (IntKind.i64.wrap (a1.At+J1)).toNat (Kd.toNat:Int))) else some (KK))).bind fun Jt=>some (Jt)).bind fun Ql=>some (LR.next (Ql,(IntKind.i64.wrap (J1+1)))) else some (LR.done (KK)))
noncomputable def O6 (a0:Hj) (a1:Part):Option (Hj×Int×Bool):=
 ((OZ a0).bind fun KJ=>(bif (!KJ) then some (true) else (O3 a1).bind fun Ms=>(bif (!Ms) then some (true) else (bif (a1.Id !=a0.Id) then some (true) else some ((a1.Hh !=a0.Hh)))))).bind fun HO=>(bif HO then some ((⟨0,0,[],[]⟩:Hj),0,false) else (Qj a0.Has (⟨a1.At,(IntKind.i64.wrap (a1.At+(a1.Text.length:Int)))⟩:Span)).bind fun (Io,HU,Ju)=>(bif (!Ju) then some ((⟨0,0,[],[]⟩:Hj),0,false) else (rR a0.Text).bind fun M6=>(fF (Qk a0 a1) (M6,0)).bind fun Jd=>some ((⟨a0.Id,a0.Hh,(rQ Jd),Io⟩:Hj),HU,true)))
noncomputable def O7 (a0:List Hj) (a1:Int) (a2:Int):Option (List Hj):=
 (cY a0 a1 a2).bind fun _x3=>(bif (a1==a2) then some a0 else (cY a0 0 a1).bind fun HO=>(cY a0 a2 (a0.length:Int)).bind fun HX=>(app 56 HO HX).bind fun HF=>some HF)
def slices_Sort_int (a0:List Int):Option (List Int):=
 zj a0
noncomputable def M7 (a0:Ho) (a1:Part):Option (Ho×List UInt8×Bool×Bool):=
 ((Kc a0).bind fun KJ=>(bif (!KJ) then some (true) else (O3 a1).bind fun Ms=>some ((!Ms)))).bind fun HO=>(bif HO then some ((⟨[],[]⟩:Ho),[],false,false) else (Qf a0).bind fun IE=>(Qg IE.Hg a1.Id NR).bind fun (H8,II)=>((NO a0.Told a1.Id).bind fun Jc=>(bif Jc then some (II,true) else (bif II then (idx IE.Hg H8).bind fun JO=>some (true,(JO.Hh !=a1.Hh)) else some (false,false)))).bind fun (JP,Qm)=>(bif Qm then some (IE,[],false,true) else ((bif (!JP) then (Qh a1.Id a1.Hh).bind fun Lz=>(RM IE.Hg H8 ([Lz]:List Hj)).bind fun Ly=>some (Ly) else some (IE.Hg))).bind fun IA=>(idx IA H8).bind fun Ji=>(O6 Ji a1).bind fun (Ih,_b63,Jj)=>(bif (!Jj) then some ((⟨[],[]⟩:Ho),[],false,false) else (idx IA H8).bind fun _b72=>(Lv Ih).bind fun RN=>((bif RN then (O7 (IA.set H8.toNat Ih) H8 (IntKind.i64.wrap (H8+1))).bind fun RO=>(app 8 IE.Told ([Ih.Id]:List Int)).bind fun RP=>(slices_Sort_int RP).bind fun O8=>some (RO,O8) else some ((IA.set H8.toNat Ih),IE.Told))).bind fun (Jz,Ld)=>(Kc (⟨Jz,Ld⟩:Ho)).bind fun Qn=>(bif (!Qn) then some ((⟨[],[]⟩:Ho),[],false,false) else (Lv Ih).bind fun RQ=>(bif RQ then some ((⟨Jz,Ld⟩:Ho),Ih.Text,true,true) else some ((⟨Jz,Ld⟩:Ho),[],false,true))))))
noncomputable def RR (a0:List Part) (x:((List (List UInt8))×Int×(List Hj)×(List Int))):Option (LR ((List (List UInt8))×Int×(List Hj)×(List Int)) (LR ((List (List UInt8))×(List Hj)×(List Int)) (Ho×List (List UInt8)×Bool))):=
 match x with
 |(HX,HM,HN,HV)=>(bif (decide (HM<(a0.length:Int))) then ((idx a0 HM).bind fun JE=>(M7 (⟨HN,HV⟩:Ho) JE).bind fun (Ly,Ts,VV,IN)=>(bif (!IN) then some (LR.done (LR.done (LR.done ((⟨[],[]⟩:Ho),[],false)))) else ((bif VV then (app 16 HX ([Ts]:List (List UInt8))).bind fun Qo=>some (Qo) else some (HX))).bind fun LA=>some (LR.next (LA,Ly.Hg,Ly.Told)))).bind fun y=>match y with|LR.next (LB,IM,IA)=>some (LR.next (LB,(IntKind.i64.wrap (HM+1)),IM,IA))|LR.done z=>some z else some (LR.done (LR.next (HX,HN,HV))))
noncomputable def M8 (a0:List Part):Option (Ho×List (List UInt8)×Bool):=
 (bif (decide (60<(a0.length:Int))) then some ((⟨[],[]⟩:Ho),[],false) else (fF (RR a0) ([],0,[],[])).bind fun y=>match y with|LR.next (Je,I_,Kv)=>some ((⟨I_,Kv⟩:Ho),Je,true)|LR.done z=>some z)
noncomputable def O9 (a0:Part):Option (Bool):=
 (NG a0.Id a0.Hh).bind fun Iz=>(bif Iz then (Ml (a0.Text.length:Int) 1 4).bind fun Ip=>(bif Ip then (Ml a0.At 0 (IntKind.i64.wrap (a0.Hh-(a0.Text.length:Int)))).bind fun HT=>some HT else some false) else some false)
noncomputable def RS (a0:List Int) (a1:Int) (x:(Int)):Option (LR (Int) (LR Unit (Bool))):=
 match x with
 |(HK)=>(bif (decide (HK<(a0.length:Int))) then (idx a0 HK).bind fun Ja=>(bif (Ja==a1) then some (LR.done (LR.done true)) else some (LR.next ((IntKind.i64.wrap (HK+1))))) else some (LR.done (LR.next ())))
noncomputable def O_ (a0:List Int) (a1:Int):Option (Bool):=
 (fF (RS a0 a1) (0)).bind fun y=>match y with|LR.next ()=>some false|LR.done z=>some z
noncomputable def Qp (a0:Int) (a1:Int):Option (Hj):=
 (mU 1 a1 (0:Int)).bind fun HD=>some (⟨a0,a1,(rQ HD),[]⟩:Hj)
noncomputable def Qq (a0:List Span) (a1:Int) (x:(Int)):Option (LR (Int) (LR Unit (Bool))):=
 match x with
 |(HK)=>(bif (decide (HK<(a0.length:Int))) then (idx a0 HK).bind fun Ja=>((bif (decide (Ja.Hk≤a1)) then some ((decide (a1<Ja.To))) else some (false))).bind fun Je=>(bif Je then some (LR.done (LR.done true)) else some (LR.next ((IntKind.i64.wrap (HK+1))))) else some (LR.done (LR.next ())))
noncomputable def Pa (a0:List Span) (a1:Int):Option (Bool):=
 (fF (Qq a0 a1) (0)).bind fun y=>match y with|LR.next ()=>some false|LR.done z=>some z
noncomputable def Qr (a0:Int) (a1:Int):Option (Int):=
 (bif (decide (a1<a0)) then some a0 else some a1)
noncomputable def Qs (a0:List Span) (a1:Span) (x:((List Span)×Int)):Option (LR ((List Span)×Int) ((List Span)×Int)):=
 match x with
 |(HD,HO)=>((bif (decide (HO<(a0.length:Int))) then (idx a0 HO).bind fun II=>some ((decide (II.To<a1.Hk))) else some (false))).bind fun I_=>(bif I_ then (idx a0 HO).bind fun KL=>(app 16 HD ([KL]:List Span)).bind fun J1=>some (LR.next (J1,(IntKind.i64.wrap (HO+1)))) else some (LR.done (HD,HO)))
noncomputable def Qt (a0:List Span) (x:(Int×Int×Int)):Option (LR (Int×Int×Int) (Int×Int×Int)):=
 match x with
 |(Jv,IM,JR)=>((bif (decide (Jv<(a0.length:Int))) then (idx a0 Jv).bind fun Ih=>some ((decide (Ih.Hk≤JR))) else some (false))).bind fun Kt=>(bif Kt then (idx a0 Jv).bind fun Mq=>(OL IM Mq.Hk).bind fun M9=>(idx a0 Jv).bind fun Tt=>(Qr JR Tt.To).bind fun Qu=>some (LR.next ((IntKind.i64.wrap (Jv+1)),M9,Qu)) else some (LR.done (Jv,IM,JR)))
noncomputable def Qv (a0:List Span) (a1:Span):Option (List Span):=
 (fF (Qs a0 a1) ([],0)).bind fun (Jn,H7)=>(fF (Qt a0) (H7,a1.Hk,a1.To)).bind fun (IA,Pb,Pc)=>(app 16 Jn ([(⟨Pb,Pc⟩:Span)]:List Span)).bind fun Tu=>(cY a0 IA (a0.length:Int)).bind fun VW=>(app 16 Tu VW).bind fun VX=>some VX
noncomputable def Qw (a0:Hj) (a1:Part) (x:((List Int)×Int×Nat)):Option (LR ((List Int)×Int×Nat) ((List Int)×Int)):=
 match x with
 |(HM,HN,IB)=>(bif (decide (IB<a1.Text.length)) then ((Pa a0.Has (IntKind.i64.wrap (a1.At+(IB:Int)))).bind fun Jc=>((bif (!Jc) then (idx a1.Text (IB:Int)).bind fun RT=>(idx HM (IntKind.i64.wrap (a1.At+(IB:Int)))).bind fun _b47=>some ((HM.set (IntKind.i64.wrap (a1.At+(IB:Int))).toNat (RT.toNat:Int)),(IntKind.i64.wrap (HN+1))) else some (HM,HN))).bind fun (Jw,LB)=>some (Jw,LB)).bind fun (Ks,JP)=>some (LR.next (Ks,JP,j7 a1.Text IB)) else some (LR.done (HM,HN)))
noncomputable def Qx (a0:Hj) (a1:Part):Option (Hj×Int×Bool):=
 (rR a0.Text).bind fun Js=>(fF (Qw a0 a1) (Js,0,0)).bind fun (Jo,HV)=>(Qv a0.Has (⟨a1.At,(IntKind.i64.wrap (a1.At+(a1.Text.length:Int)))⟩:Span)).bind fun Ku=>some ((⟨a0.Id,a0.Hh,(rQ Jo),Ku⟩:Hj),HV,(decide ((Ku.length:Int)≤20)))
noncomputable def VY (a0:List Span) (x:(Int×Int)):Option (LR (Int×Int) (Int)):=
 match x with
 |(HI,HG)=>(bif (decide (HG<(a0.length:Int))) then (idx a0 HG).bind fun HU=>some (LR.next ((IntKind.i64.wrap (HI+(IntKind.i64.wrap (HU.To-HU.Hk)))),(IntKind.i64.wrap (HG+1)))) else some (LR.done (HI)))
noncomputable def RU (a0:List Span):Option (Int):=
 (fF (VY a0) (0,0)).bind fun HD=>some HD
noncomputable def Pd (a0:Hj):Option (Bool):=
 (RU a0.Has).bind fun Iz=>some (Iz==a0.Hh)
noncomputable def RV (a0:List Int) (a1:Int) (x:(Int)):Option (LR (Int) (Int)):=
 match x with
 |(HK)=>((bif (decide (HK<(a0.length:Int))) then (idx a0 HK).bind fun HU=>some ((decide (HU<a1))) else some (false))).bind fun HN=>(bif HN then some (LR.next ((IntKind.i64.wrap (HK+1)))) else some (LR.done (HK)))
noncomputable def Qy (a0:List Int) (a1:Int):Option (List Int):=
 (fF (RV a0 a1) (0)).bind fun HI=>(cY a0 0 HI).bind fun Kv=>(app 8 ([]:List Int) Kv).bind fun Jg=>(app 8 Jg ([a1]:List Int)).bind fun KK=>(cY a0 HI (a0.length:Int)).bind fun M_=>(app 8 KK M_).bind fun Jw=>some Jw
noncomputable def RW (a0:Ho) (a1:Part) (x:(Int)):Option (LR (Int) (Int)):=
 match x with
 |(HF)=>((bif (decide (HF<(a0.Hg.length:Int))) then (idx a0.Hg HF).bind fun Lc=>some ((decide (Lc.Id<a1.Id))) else some (false))).bind fun Kv=>(bif Kv then some (LR.next ((IntKind.i64.wrap (HF+1)))) else some (LR.done (HF)))
noncomputable def NS (a0:Ho) (a1:Part):Option (Ho×List UInt8×Bool×Bool):=
 (O_ a0.Told a1.Id).bind fun Jm=>(bif Jm then some (a0,[],false,true) else (fF (RW a0 a1) (0)).bind fun HM=>((bif (decide (HM<(a0.Hg.length:Int))) then (idx a0.Hg HM).bind fun Jh=>some ((Jh.Id==a1.Id)) else some (false))).bind fun Jd=>(Qp a1.Id a1.Hh).bind fun JF=>((bif Jd then (idx a0.Hg HM).bind fun IN=>some (IN.Id,IN.Hh,IN.Text,IN.Has) else some (JF.Id,JF.Hh,JF.Text,JF.Has))).bind fun (Qz,JQ,QA,LC)=>(bif (JQ !=a1.Hh) then some (a0,[],false,true) else (Qx (⟨Qz,JQ,QA,LC⟩:Hj) a1).bind fun (Jj,_b65,M9)=>(bif (!M9) then some (a0,[],false,false) else (cY a0.Hg 0 HM).bind fun VZ=>(app 56 ([]:List Hj) VZ).bind fun Jz=>(cY a0.Hg HM (a0.Hg.length:Int)).bind fun Mt=>((bif Jd then (cY Mt 1 (Mt.length:Int)).bind fun QB=>some (QB) else some (Mt))).bind fun Pe=>(Pd Jj).bind fun NT=>(bif NT then (bif ((a0.Told.length:Int)==100) then some (a0,[],false,false) else (app 56 Jz Pe).bind fun V0=>(Qy a0.Told a1.Id).bind fun NU=>some ((⟨V0,NU⟩:Ho),Jj.Text,true,true)) else (app 56 Jz ([Jj]:List Hj)).bind fun L3=>(app 56 L3 Pe).bind fun QC=>some ((⟨QC,a0.Told⟩:Ho),[],false,(decide ((QC.length:Int)≤10)))))))
noncomputable def RX (a0:Ho) (x:(Int×(List Hj))):Option (LR (Int×(List Hj)) ((List Hj))):=
 match x with
 |(HM,HN)=>(bif (decide (HM<(a0.Hg.length:Int))) then (idx a0.Hg HM).bind fun IV=>(app 16 ([]:List Span) IV.Has).bind fun Jw=>(app 56 HN ([(⟨IV.Id,IV.Hh,IV.Text,Jw⟩:Hj)]:List Hj)).bind fun IA=>some (LR.next ((IntKind.i64.wrap (HM+1)),IA)) else some (LR.done (HN)))
noncomputable def NV (a0:Ho):Option (Ho):=
 (app 8 ([]:List Int) a0.Told).bind fun Jy=>(fF (RX a0) (0,[])).bind fun HV=>some (⟨HV,Jy⟩:Ho)
noncomputable def RY (a0:List Part) (x:((List (List UInt8))×Int×(List Hj)×(List Int))):Option (LR ((List (List UInt8))×Int×(List Hj)×(List Int)) (LR ((List (List UInt8))×(List Hj)×(List Int)) (Ho×List (List UInt8)×Bool))):=
 match x with
 |(HF,IB,Jo,HV)=>(bif (decide (IB<(a0.length:Int))) then ((idx a0 IB).bind fun LD=>(O9 LD).bind fun V1=>(bif (!V1) then some (LR.done (LR.done (LR.done ((⟨[],[]⟩:Ho),[],false)))) else (NS (⟨Jo,HV⟩:Ho) LD).bind fun (Ji,Tv,Kd,Ih)=>(bif (!Ih) then some (LR.done (LR.done (LR.done ((⟨[],[]⟩:Ho),[],false)))) else ((bif Kd then (app 16 HF ([Tv]:List (List UInt8))).bind fun Qo=>some (Qo) else some (HF))).bind fun LA=>some (LR.next (LA,Ji.Hg,Ji.Told))))).bind fun y=>match y with|LR.next (Jd,M_,Jw)=>some (LR.next (Jd,(IntKind.i64.wrap (IB+1)),M_,Jw))|LR.done z=>some z else some (LR.done (LR.next (HF,Jo,HV))))
noncomputable def Pf (a0:List Part):Option (Ho×List (List UInt8)×Bool):=
 (bif (decide (60<(a0.length:Int))) then some ((⟨[],[]⟩:Ho),[],false) else (fF (RY a0) ([],0,([]:List Hj),([]:List Int))).bind fun y=>match y with|LR.next (IW,Je,MY)=>(NV (⟨Je,MY⟩:Ho)).bind fun Pg=>some (Pg,IW,true)|LR.done z=>some z)
noncomputable def QD (a0:List (List UInt8)) (a1:List (List UInt8)) (x:(Int)):Option (LR (Int) (LR Unit (Bool))):=
 match x with
 |(HD)=>(bif (decide (HD<(a0.length:Int))) then (idx a0 HD).bind fun Ju=>(idx a1 HD).bind fun Jx=>(bif (!(Ju==Jx)) then some (LR.done (LR.done false)) else some (LR.next ((IntKind.i64.wrap (HD+1))))) else some (LR.done (LR.next ())))
noncomputable def Ph (a0:List (List UInt8)) (a1:List (List UInt8)):Option (Bool):=
 (bif ((a0.length:Int) !=(a1.length:Int)) then some false else (fF (QD a0 a1) (0)).bind fun y=>match y with|LR.next ()=>some true|LR.done z=>some z)
noncomputable def QE (a0:List Int) (a1:List Int) (x:(Int)):Option (LR (Int) (LR Unit (Bool))):=
 match x with
 |(HD)=>(bif (decide (HD<(a0.length:Int))) then (idx a0 HD).bind fun Ju=>(idx a1 HD).bind fun Jx=>(bif (Ju !=Jx) then some (LR.done (LR.done false)) else some (LR.next ((IntKind.i64.wrap (HD+1))))) else some (LR.done (LR.next ())))
noncomputable def QF (a0:List Int) (a1:List Int):Option (Bool):=
 (bif ((a0.length:Int) !=(a1.length:Int)) then some false else (fF (QE a0 a1) (0)).bind fun y=>match y with|LR.next ()=>some true|LR.done z=>some z)
noncomputable def QH (a0:List Span) (a1:List Span) (x:(Int)):Option (LR (Int) (LR Unit (Bool))):=
 match x with
 |(HD)=>(bif (decide (HD<(a0.length:Int))) then (idx a0 HD).bind fun Ju=>(idx a1 HD).bind fun Jx=>(bif (!((Ju.Hk==Jx.Hk)&&((Ju.To==Jx.To)&&true))) then some (LR.done (LR.done false)) else some (LR.next ((IntKind.i64.wrap (HD+1))))) else some (LR.done (LR.next ())))
noncomputable def QI (a0:List Span) (a1:List Span):Option (Bool):=
 (bif ((a0.length:Int) !=(a1.length:Int)) then some false else (fF (QH a0 a1) (0)).bind fun y=>match y with|LR.next ()=>some true|LR.done z=>some z)
noncomputable def QJ (a0:Hj) (a1:Hj):Option (Bool):=
 (bif (a0.Id==a1.Id) then (bif (a0.Hh==a1.Hh) then (bif (a0.Text==a1.Text) then (QI a0.Has a1.Has).bind fun HT=>some HT else some false) else some false) else some false)
noncomputable def QK (a0:Ho) (a1:Ho) (x:(Int)):Option (LR (Int) (LR Unit (Bool))):=
 match x with
 |(IB)=>(bif (decide (IB<(a0.Hg.length:Int))) then (idx a0.Hg IB).bind fun KL=>(idx a1.Hg IB).bind fun LF=>(QJ KL LF).bind fun IV=>(bif (!IV) then some (LR.done (LR.done false)) else some (LR.next ((IntKind.i64.wrap (IB+1))))) else some (LR.done (LR.next ())))
noncomputable def Na (a0:Ho) (a1:Ho):Option (Bool):=
 ((QF a0.Told a1.Told).bind fun Kw=>(bif (!Kw) then some (true) else some (((a0.Hg.length:Int) !=(a1.Hg.length:Int))))).bind fun Jy=>(bif Jy then some false else (fF (QK a0 a1) (0)).bind fun y=>match y with|LR.next ()=>some true|LR.done z=>some z)
noncomputable def Pj (a0:List Int):Option (Int×List UInt8):=
 (MZ (⟨a0,0,0⟩:HE) ([-1,0,7,1000,1001]:List Int)).bind fun (RZ,Jm)=>(OK Jm).bind fun (Iw,_b13)=>some (RZ,Iw)
noncomputable def R0 (a0:Int) (a1:List UInt8) (x:((List Part)×Int)):Option (LR ((List Part)×Int) ((List Part))):=
 match x with
 |(Js,HX)=>(bif (decide (HX<(a1.length:Int))) then (cY a1 HX (if (a1.length:Int)<(IntKind.i64.wrap (HX+4)) then (a1.length:Int) else (IntKind.i64.wrap (HX+4)))).bind fun LG=>(app 40 Js ([(⟨a0,HX,(a1.length:Int),LG⟩:Part)]:List Part)).bind fun Nb=>some (LR.next (Nb,(IntKind.i64.wrap (HX+4)))) else some (LR.done (Js)))
noncomputable def Pk (a0:Int) (a1:List UInt8):Option (List Part×Bool):=
 (NL a0 (a1.length:Int)).bind fun IG=>(bif (!IG) then some ([],false) else (fF (R0 a0 a1) ([],0)).bind fun H7=>some (H7,true))
noncomputable def R1 (a0:List Int) (x:(Int×Int)):Option (LR (Int×Int) (Int)):=
 match x with
 |(HI,HG)=>(bif (decide (HG<(a0.length:Int))) then (idx a0 HG).bind fun HU=>some (LR.next ((Int.tmod (IntKind.i64.wrap ((IntKind.i64.wrap (31*HI))+(IntKind.i64.wrap HU))) 1000003),(IntKind.i64.wrap (HG+1)))) else some (LR.done (HI)))
noncomputable def Pl (a0:List Int):Option (Int):=
 (fF (R1 a0) (0,0)).bind fun HD=>some HD
noncomputable def QL (a0:HE):Option (Ho×HE):=
 (NH a0).bind fun (Ip,HT)=>(Pf Ip).bind fun (If,_b12,Kw)=>((bif (!Kw) then some ([],([3]:List Int)) else some (If.Hg,If.Told))).bind fun (I_,LG)=>(LZ HT 20).bind fun (JO,KI)=>((bif JO then (J_ KI 6).bind fun (Ku,Mm)=>(app 8 LG ([Ku]:List Int)).bind fun Jt=>some (Mm.Code,Mm.At,Mm.Ib,Jt) else some (KI.Code,KI.At,KI.Ib,LG))).bind fun (Jv,IM,JR,IA)=>some ((⟨I_,IA⟩:Ho),(⟨Jv,IM,JR⟩:HE))
noncomputable def Pm (a0:List Int):Option (Ho×Part):=
 (QL (⟨a0,0,0⟩:HE)).bind fun (If,Iw)=>(NH Iw).bind fun (HU,_b22)=>(bif ((HU.length:Int)==0) then some (If,(⟨1,0,1,[120]⟩:Part)) else (idx HU 0).bind fun II=>some (If,II))
noncomputable def R2 (a0:Span):Option (Bool):=
 (bif (decide (0≤a0.Hk)) then (bif (decide (a0.Hk<a0.To)) then some (decide (a0.To≤1000000)) else some false) else some false)
noncomputable def QM (a0:List Span) (x:(Int)):Option (LR (Int) (LR Unit (Bool))):=
 match x with
 |(HK)=>(bif (decide (HK<(a0.length:Int))) then (idx a0 HK).bind fun Ja=>((R2 Ja).bind fun KH=>(bif (!KH) then some (true) else (bif (decide (0<HK)) then (idx a0 (IntKind.i64.wrap (HK-1))).bind fun H8=>some ((decide (Ja.Hk≤H8.To))) else some (false)))).bind fun Je=>(bif Je then some (LR.done (LR.done false)) else some (LR.next ((IntKind.i64.wrap (HK+1))))) else some (LR.done (LR.next ())))
noncomputable def QN (a0:List Span):Option (Bool):=
 (fF (QM a0) (0)).bind fun y=>match y with|LR.next ()=>some (decide ((a0.length:Int)≤20))|LR.done z=>some z
noncomputable def QO (a0:List Span) (a1:Int):Option (Bool):=
 (QN a0).bind fun b3=>(bif b3 then (bif ((a0.length:Int)==0) then some true else (idx a0 (IntKind.i64.wrap ((a0.length:Int)-1))).bind fun IG=>some (decide (IG.To≤a1))) else some false)
noncomputable def QP (a0:Hj) (x:(Int)):Option (LR (Int) (LR Unit (Bool))):=
 match x with
 |(HN)=>(bif (decide (HN<a0.Hh)) then ((idx a0.Text HN).bind fun Ix=>(bif ((Ix.toNat:Int) !=0) then (Pa a0.Has HN).bind fun NM=>some ((!NM)) else some (false))).bind fun Nb=>(bif Nb then some (LR.done (LR.done false)) else some (LR.next ((IntKind.i64.wrap (HN+1))))) else some (LR.done (LR.next ())))
noncomputable def QQ (a0:Hj):Option (Bool):=
 ((NG a0.Id a0.Hh).bind fun If=>(bif (!If) then some (true) else (bif ((a0.Text.length:Int) !=a0.Hh) then some (true) else (QO a0.Has a0.Hh).bind fun Iw=>some ((!Iw))))).bind fun HG=>(bif HG then some false else (fF (QP a0) (0)).bind fun y=>match y with|LR.next ()=>some true|LR.done z=>some z)
noncomputable def R3 (a0:List Int) (a1:Int) (x:(Int)):Option (LR (Int) (LR Unit (Bool))):=
 match x with
 |(HK)=>(bif (decide (HK<(a0.length:Int))) then (idx a0 HK).bind fun Ja=>((Ml Ja 0 (IntKind.i64.wrap (a1-1))).bind fun Kr=>(bif (!Kr) then some (true) else (bif (decide (0<HK)) then (idx a0 (IntKind.i64.wrap (HK-1))).bind fun Lw=>some ((decide (Ja≤Lw))) else some (false)))).bind fun IW=>(bif IW then some (LR.done (LR.done false)) else some (LR.next ((IntKind.i64.wrap (HK+1))))) else some (LR.done (LR.next ())))
noncomputable def QR (a0:List Int) (a1:Int):Option (Bool):=
 (fF (R3 a0 a1) (0)).bind fun y=>match y with|LR.next ()=>some true|LR.done z=>some z
noncomputable def Pn (a0:Ho) (x:(Int)):Option (LR (Int) (LR Unit (Bool))):=
 match x with
 |(HG)=>(bif (decide (HG<(a0.Hg.length:Int))) then (idx a0.Hg HG).bind fun Io=>((QQ Io).bind fun II=>(bif (!II) then some (true) else (Pd Io).bind fun Lb=>(bif Lb then some (true) else (O_ a0.Told Io.Id).bind fun Lc=>(bif Lc then some (true) else (bif (decide (0<HG)) then (idx a0.Hg (IntKind.i64.wrap (HG-1))).bind fun KL=>some ((decide (Io.Id≤KL.Id))) else some (false)))))).bind fun I_=>(bif I_ then some (LR.done (LR.done false)) else some (LR.next ((IntKind.i64.wrap (HG+1))))) else some (LR.done (LR.next ())))
noncomputable def Nc (a0:Ho):Option (Bool):=
 (fF (Pn a0) (0)).bind fun y=>match y with|LR.next ()=>(bif (decide ((a0.Hg.length:Int)≤10)) then (bif (decide ((a0.Told.length:Int)≤100)) then (QR a0.Told 1001).bind fun Jh=>some Jh else some false) else some false)|LR.done z=>some z
noncomputable def NW (a0:Ho) (a1:Part):Option (Ho×List UInt8×Bool×Bool):=
 ((Nc a0).bind fun KJ=>(bif (!KJ) then some (true) else (O9 a1).bind fun Ms=>some ((!Ms)))).bind fun HO=>(bif HO then some ((⟨[],[]⟩:Ho),[],false,false) else (NV a0).bind fun IE=>(NS IE a1).bind fun (Jx,Kq,Kr,Lw)=>(bif (!Lw) then some ((⟨[],[]⟩:Ho),[],false,false) else (NV Jx).bind fun LF=>some (LF,Kq,Kr,true)))
noncomputable def QS (Le:List Part) (NX:Int) (x:((List Part)×Int)):Option (LR ((List Part)×Int) ((List Part))):=
 match x with
 |(Kb,Po)=>(bif (decide (Po<(Le.length:Int))) then (md (IntKind.i64.wrap (Po+NX)) (Le.length:Int)).bind fun L4=>(idx Le L4).bind fun KM=>(app 40 Kb ([KM,KM]:List Part)).bind fun V2=>some (LR.next (V2,(IntKind.i64.wrap (Po+1)))) else some (LR.done (Kb)))
noncomputable def QT (a0:List Int) (a1:List Int):Option (Bool):=
 (bif (decide (1048576<(IntKind.i64.wrap ((a0.length:Int)+(a1.length:Int))))) then some true else (P8 a0).bind fun Ip=>(M8 Ip).bind fun (If,Iw,Kw)=>(Pf Ip).bind fun (Kq,Kr,Lw)=>((bif (!(Kw==Lw)) then some (true) else (Ph Iw Kr).bind fun Tw=>(bif (!Tw) then some (true) else (Na If Kq).bind fun JF=>some ((!JF))))).bind fun QU=>(bif QU then some false else ((bif Kw then ((Kc If).bind fun IN=>(bif (!IN) then some (true) else some (((If.Told.length:Int) !=(Iw.length:Int))))).bind fun LC=>(bif LC then some (LR.done false) else (app 40 ([]:List Part) Ip).bind fun Tx=>(app 40 Tx Ip).bind fun M5=>(M8 M5).bind fun (R4,NP,O2)=>((bif O2 then (bif (decide ((NP.length:Int)<(Iw.length:Int))) then some (true) else (cY NP 0 (Iw.length:Int)).bind fun Ty=>(Ph Ty Iw).bind fun Pg=>(bif (!Pg) then some (true) else (Kc R4).bind fun NT=>some ((!NT)))) else some (false))).bind fun QV=>(bif QV then some (LR.done false) else some (LR.next ()))) else some (LR.next ()))).bind fun y=>match y with|LR.next ()=>((Pj a0).bind fun (QW,Nd)=>(Pk QW Nd).bind fun (Le,R5)=>((bif R5 then (Pl a1).bind fun M3=>(md M3 (Le.length:Int)).bind fun NX=>(fF (QS Le NX) ([],0)).bind fun NY=>(M8 NY).bind fun (NZ,Pp,R6)=>((bif (!R6) then some (true) else (bif ((Pp.length:Int) !=1) then some (true) else (idx Pp 0).bind fun M4=>(bif (!(M4==Nd)) then some (true) else (bif (decide (0<(NZ.Hg.length:Int))) then some (true) else some (((NZ.Told.length:Int) !=1))))))).bind fun N0=>(bif N0 then some (LR.done false) else some (LR.next ())) else some (LR.next ()))).bind fun y=>match y with|LR.next ()=>(Pm a1).bind fun (J2,LH)=>(M7 J2 LH).bind fun (LI,Pq,Nf,Tz)=>(NW J2 LH).bind fun (Ng,Pr,Ps,V3)=>(bif (Tz==V3) then (bif (Nf==Ps) then (bif (Pq==Pr) then (Na LI Ng).bind fun N1=>(bif N1 then (Kc J2).bind fun N2=>(Nc J2).bind fun N3=>(bif (N2==N3) then (bif (!Tz) then some true else (Kc LI).bind fun TA=>some TA) else some false) else some false) else some false) else some false) else some false)|LR.done z=>some z)|LR.done z=>some z))
end Go.JN
