import Derived.Test.YtclgbpneokeaeaaVaE
import Derived.Test.YtclgbpneokeaeaaVaG
open Go Go.VS
set_option maxRecDepth 8000
namespace Go.GB
structure EW where
 Code:List Int
 At:Int
 Ft:Int
structure Span where
 Em:Int
 To:Int
structure EB where
 Next:Int
 Es:List Span
 Ep:List Int
noncomputable def J4 (a0:EW):Option (Int×EW):=
 ((bif (decide (a0.At<(a0.Code.length:Int))) then (idx a0.Code a0.At).bind fun Ht=>some ((IntKind.i64.wrap Ht)) else some (0))).bind fun ED=>(bif (decide ((IntKind.i64.wrap (a0.At+1))≤(a0.Code.length:Int))) then some (ED,(⟨a0.Code,(IntKind.i64.wrap (a0.At+1)),(IntKind.u64.wrap ((IntKind.u64.wrap ((IntKind.u64.wrap (a0.Ft*6364136223846793005))+(IntKind.u64.wrap ED)))+1442695040888963407))⟩:EW)) else some ((IntKind.i64.wrap (An .u64 (uR .u64 (IntKind.u64.wrap ((IntKind.u64.wrap ((IntKind.u64.wrap (a0.Ft*6364136223846793005))+(IntKind.u64.wrap ED)))+1442695040888963407)) 40) 255)),(⟨a0.Code,(IntKind.i64.wrap (a0.At+1)),(IntKind.u64.wrap ((IntKind.u64.wrap ((IntKind.u64.wrap (a0.Ft*6364136223846793005))+(IntKind.u64.wrap ED)))+1442695040888963407))⟩:EW)))
noncomputable def Hd (a0:EW) (a1:Int):Option (Int×EW):=
 (bif (decide (a1≤1)) then some (0,a0) else (J4 a0).bind fun (EF,EP)=>((bif (decide (200<a1)) then (J4 EP).bind fun (Gq,FE)=>some ((IntKind.i64.wrap ((IntKind.i64.wrap (EF*256))+Gq)),FE.Code,FE.At,FE.Ft) else some (EF,EP.Code,EP.At,EP.Ft))).bind fun (EJ,E6,EC,EX)=>(md EJ a1).bind fun Hu=>some (Hu,(⟨E6,EC,EX⟩:EW)))
noncomputable def IT (a0:EW) (a1:Int):Option (Bool×EW):=
 (Hd a0 a1).bind fun (EM,GW)=>some ((EM==0),GW)
noncomputable def J5 (a0:Int) (a1:Int):Option (Int):=
 (bif (decide (a0<a1)) then some a0 else some a1)
noncomputable def J6 (a0:EW) (a1:List Int):Option (Int×EW):=
 (Hd a0 (a1.length:Int)).bind fun (EM,GW)=>(idx a1 EM).bind fun GX=>some (GX,GW)
noncomputable def OK (a1:Int) (x:((List Int)×Int×(List Int)×Int×Int)):Option (LR ((List Int)×Int×(List Int)×Int×Int) ((List Int)×(List Int)×Int×Int)):=
 match x with
 |(ED,E7,ER,Et,EJ)=>(bif (decide (E7<a1)) then ((IT (⟨ER,Et,EJ⟩:EW) 12).bind fun (KN,He)=>((bif (!KN) then (app 8 ED ([E7]:List Int)).bind fun QB=>some (QB) else some (ED))).bind fun F1=>some (F1,He.Code,He.At,He.Ft)).bind fun (Gr,Fq,FF,GY)=>some (LR.next (Gr,(IntKind.i64.wrap (E7+1)),Fq,FF,GY)) else some (LR.done (ED,ER,Et,EJ)))
noncomputable def OL (x:((List Int)×Int×(List Int)×Int×Int)):Option (LR ((List Int)×Int×(List Int)×Int×Int) ((List Int)×(List Int)×Int×Int)):=
 match x with
 |(FG,IU,IV,IW,IX)=>((bif (decide (0<IU)) then some ((decide (1<(FG.length:Int)))) else some (false))).bind fun IY=>(bif IY then (Hd (⟨IV,IW,IX⟩:EW) (IntKind.i64.wrap ((FG.length:Int)-1))).bind fun (J7,QC)=>(Hd QC 4).bind fun (QD,Nd)=>(J5 (IntKind.i64.wrap ((FG.length:Int)-1)) (IntKind.i64.wrap ((IntKind.i64.wrap (J7+1))+QD))).bind fun GZ=>(idx FG J7).bind fun FV=>(idx FG GZ).bind fun Jo=>(idx FG J7).bind fun _b101=>(idx (FG.set J7.toNat Jo) GZ).bind fun _b103=>some (LR.next (((FG.set J7.toNat Jo).set GZ.toNat FV),(IntKind.i64.wrap (IU-1)),Nd.Code,Nd.At,Nd.Ft)) else some (LR.done (FG,IV,IW,IX)))
noncomputable def J8 (a0:EW) (a1:Int):Option (List Int×EW):=
 (eM (OK a1) ([],0,a0.Code,a0.At,a0.Ft)).bind fun (E6,EX,KO,Fl)=>(Hd (⟨EX,KO,Fl⟩:EW) 8).bind fun (IZ,HJ)=>(eM (OL) (E6,IZ,HJ.Code,HJ.At,HJ.Ft)).bind fun (Fb,J9,J_,Ka)=>((bif (decide (0<(Fb.length:Int))) then (IT (⟨J9,J_,Ka⟩:EW) 20).bind fun (OM,Nf)=>some (OM,Nf.Code,Nf.At,Nf.Ft) else some (false,J9,J_,Ka))).bind fun (GC,Kb,Kc,F7)=>((bif GC then (idx Fb (IntKind.i64.wrap ((Fb.length:Int)-1))).bind fun ON=>(J6 (⟨Kb,Kc,F7⟩:EW) ([-1,60,ON]:List Int)).bind fun (Jp,Ng)=>(idx Fb 0).bind fun _b135=>some ((Fb.set (0:Int).toNat Jp),Ng.Code,Ng.At,Ng.Ft) else some (Fb,Kb,Kc,F7))).bind fun (KP,Gs,KQ,KR)=>some (KP,(⟨Gs,KQ,KR⟩:EW))
noncomputable def KS (a0:List Int):Option (Int×List Int):=
 (Hd (⟨a0,0,0⟩:EW) 16).bind fun (EF,EP)=>(Hd EP 3).bind fun (KT,Iq)=>(J8 Iq EF).bind fun (GD,_b15)=>some ((IntKind.i64.wrap (EF+KT)),GD)
noncomputable def I1 (a0:Int) (a1:Int) (a2:Int):Option (Bool):=
 (bif (decide (a1≤a0)) then some (decide (a0≤a2)) else some false)
noncomputable def Nh (a0:Int):Option (EB×Bool):=
 (I1 a0 0 60).bind fun GX=>(bif (!GX) then some ((⟨0,[],[]⟩:EB),false) else some ((⟨a0,[],[]⟩:EB),true))
noncomputable def Ni (a0:List Int) (a1:Int) (x:(Int)):Option (LR (Int) (LR Unit (Int))):=
 match x with
 |(Ez)=>(bif (decide (Ez<(a0.length:Int))) then (idx a0 Ez).bind fun FK=>(bif (a1==FK) then some (LR.done (LR.done Ez)) else some (LR.next ((IntKind.i64.wrap (Ez+1))))) else some (LR.done (LR.next ())))
noncomputable def Nj (a0:List Int) (a1:Int):Option (Int):=
 (eM (Ni a0 a1) (0)).bind fun y=>match y with|LR.next ()=>some (-1)|LR.done z=>some z
noncomputable def Kd (a0:List Int) (a1:Int):Option (Bool):=
 (Nj a0 a1).bind fun b3=>some (decide (0≤b3))
noncomputable def KU (a0:List Int) (a1:Int) (x:(Int)):Option (LR (Int) (LR Unit (Bool))):=
 match x with
 |(Ez)=>(bif (decide (Ez<(a0.length:Int))) then (idx a0 Ez).bind fun EL=>((I1 EL 0 (IntKind.i64.wrap (a1-1))).bind fun Hf=>(bif (!Hf) then some (true) else (dU a0 0 Ez).bind fun HK=>(Kd HK EL).bind fun FH=>some (FH))).bind fun Fc=>(bif Fc then some (LR.done (LR.done false)) else some (LR.next ((IntKind.i64.wrap (Ez+1))))) else some (LR.done (LR.next ())))
noncomputable def Jq (a0:List Int) (a1:Int):Option (Bool):=
 (eM (KU a0 a1) (0)).bind fun y=>match y with|LR.next ()=>some true|LR.done z=>some z
noncomputable def KV (a0:Span):Option (Bool):=
 (bif (decide (0≤a0.Em)) then (bif (decide (a0.Em<a0.To)) then some (decide (a0.To≤1000000)) else some false) else some false)
noncomputable def KW (a0:List Span) (x:(Int)):Option (LR (Int) (LR Unit (Bool))):=
 match x with
 |(EZ)=>(bif (decide (EZ<(a0.length:Int))) then (idx a0 EZ).bind fun FE=>((KV FE).bind fun F2=>(bif (!F2) then some (true) else (bif (decide (0<EZ)) then (idx a0 (IntKind.i64.wrap (EZ-1))).bind fun Hv=>some ((decide (FE.Em≤Hv.To))) else some (false)))).bind fun KX=>(bif KX then some (LR.done (LR.done false)) else some (LR.next ((IntKind.i64.wrap (EZ+1))))) else some (LR.done (LR.next ())))
noncomputable def I2 (a0:List Span):Option (Bool):=
 (bif (decide (20<(a0.length:Int))) then some false else (eM (KW a0) (0)).bind fun y=>match y with|LR.next ()=>some true|LR.done z=>some z)
noncomputable def Ke (a0:List Span) (a1:Int):Option (Bool):=
 (I2 a0).bind fun b3=>(bif b3 then (bif ((a0.length:Int)==0) then some true else (idx a0 (IntKind.i64.wrap ((a0.length:Int)-1))).bind fun EM=>some (decide (EM.To≤a1))) else some false)
noncomputable def Nk (a0:Span) (a1:Int):Option (Bool):=
 (bif (decide (a0.Em≤a1)) then some (decide (a1<a0.To)) else some false)
noncomputable def OO (a0:List Span) (g1:Span→Option Bool) (x:(Int)):Option (LR (Int) (LR Unit (Int))):=
 match x with
 |(Ez)=>(bif (decide (Ez<(a0.length:Int))) then (idx a0 Ez).bind fun FK=>(g1 FK).bind fun Gq=>(bif Gq then some (LR.done (LR.done Ez)) else some (LR.next ((IntKind.i64.wrap (Ez+1))))) else some (LR.done (LR.next ())))
noncomputable def KY (a0:List Span) (g1:Span→Option Bool):Option (Int):=
 (eM (OO a0 g1) (0)).bind fun y=>match y with|LR.next ()=>some (-1)|LR.done z=>some z
noncomputable def KZ (a0:List Span) (g1:Span→Option Bool):Option (Bool):=
 (KY a0 g1).bind fun b3=>some (decide (0≤b3))
noncomputable def Ir (a0:List Span) (a1:Int):Option (Bool):=
 (KZ a0 (fun OP=>Nk OP a1)).bind fun GW=>some GW
noncomputable def Nl (a0:EB) (x:(Int)):Option (LR (Int) (LR Unit (Bool))):=
 match x with
 |(Fl)=>(bif (decide (Fl<(a0.Ep.length:Int))) then (idx a0.Ep Fl).bind fun F2=>((I1 F2 0 (IntKind.i64.wrap (a0.Next-1))).bind fun K_=>(bif (!K_) then some (true) else (Ir a0.Es F2).bind fun HL=>(bif HL then some (true) else (bif (decide (0<Fl)) then (idx a0.Ep (IntKind.i64.wrap (Fl-1))).bind fun KN=>some ((decide (F2≤KN))) else some (false))))).bind fun FF=>(bif FF then some (LR.done (LR.done false)) else some (LR.next ((IntKind.i64.wrap (Fl+1))))) else some (LR.done (LR.next ())))
noncomputable def Kf (a0:EB):Option (Bool):=
 ((I1 a0.Next 0 60).bind fun KT=>(bif (!KT) then some (true) else (Ke a0.Es a0.Next).bind fun Iq=>some ((!Iq)))).bind fun FW=>(bif FW then some false else (eM (Nl a0) (0)).bind fun y=>match y with|LR.next ()=>some true|LR.done z=>some z)
noncomputable def La (a1:Int):Option (List Span):=
 ((bif (decide (a1<0)) then none else some ())).bind fun _=>((bif (decide (0<(IntKind.i64.wrap (a1-(IntKind.i64.wrap (0-0)))))) then (iv 16 (IntKind.i64.wrap (a1-(IntKind.i64.wrap (0-0)))) ((⟨0,0⟩:Span):Span)).bind fun Fc=>(dU Fc 0 0).bind fun QE=>some (QE) else some ([]))).bind fun EJ=>some EJ
noncomputable def Lb (a0:List (List Span)) (x:(Int×Int)):Option (LR (Int×Int) (Int)):=
 match x with
 |(ED,FW)=>(bif (decide (FW<(a0.length:Int))) then ((idx a0 FW).bind fun Hf=>((bif (decide ((IntKind.i64.wrap (ED+(Hf.length:Int)))<0)) then none else some ())).bind fun _=>some ((IntKind.i64.wrap (ED+(Hf.length:Int))))).bind fun Fc=>some (LR.next (Fc,(IntKind.i64.wrap (FW+1)))) else some (LR.done (ED)))
noncomputable def Lc (a0:List (List Span)) (x:((List Span)×Int)):Option (LR ((List Span)×Int) ((List Span))):=
 match x with
 |(G0,Ga)=>(bif (decide (Ga<(a0.length:Int))) then (idx a0 Ga).bind fun HJ=>(app 16 G0 HJ).bind fun FG=>some (LR.next (FG,(IntKind.i64.wrap (Ga+1)))) else some (LR.done (G0)))
noncomputable def Ld (a0:List (List Span)):Option (List Span):=
 (eM (Lb a0) (0,0)).bind fun EZ=>(La EZ).bind fun Fz=>(eM (Lc a0) (Fz,0)).bind fun HM=>some HM
noncomputable def OQ (a0:List Span):Option (List Span):=
 app 16 [] a0
def QF (x:Span):List Int:=[x.Em,x.To]
def QH:List Int→Span
 |[a,b]=>⟨a,b⟩
 |_=>⟨0,0⟩
noncomputable def OR (a0:List Span):Option (List Span):=
 nI 2 QF QH a0
noncomputable def Le (EF:List Span) (x:((List Span)×Int)):Option (LR ((List Span)×Int) ((List Span))):=
 match x with
 |(Et,EC)=>(bif (decide (EC<(EF.length:Int))) then ((idx EF EC).bind fun Fz=>((bif (decide (0≤(IntKind.i64.wrap ((Et.length:Int)-1)))) then (idx Et (IntKind.i64.wrap ((Et.length:Int)-1))).bind fun QI=>some ((decide (Fz.Em≤QI.To))) else some (false))).bind fun GF=>(bif GF then (idx Et (IntKind.i64.wrap ((Et.length:Int)-1))).bind fun Gf=>(idx Et (IntKind.i64.wrap ((Et.length:Int)-1))).bind fun Nn=>some ((Et.set (IntKind.i64.wrap ((Et.length:Int)-1)).toNat (⟨Nn.Em,(if Fz.To>Gf.To then Fz.To else Gf.To)⟩:Span))) else (app 16 Et ([Fz]:List Span)).bind fun Lf=>some (Lf))).bind fun Fu=>some (LR.next (Fu,(IntKind.i64.wrap (EC+1)))) else some (LR.done (Et)))
noncomputable def Jr (a0:List Span):Option (List Span):=
 (OQ a0).bind fun b3=>(OR b3).bind fun EF=>(eM (Le EF) ([],0)).bind fun EX=>some EX
noncomputable def Js (a0:List Span):Option (List Span×Bool):=
 (bif (decide (20<(a0.length:Int))) then some (([]:List Span),false) else some (a0,true))
noncomputable def Lg (a0:List Span) (a1:List Span):Option (List Span×Bool):=
 ((I2 a0).bind fun Jt=>(bif (!Jt) then some (true) else (I2 a1).bind fun Ht=>some ((!Ht)))).bind fun Ez=>(bif Ez then some (([]:List Span),false) else (Ld ([a0,a1]:List (List Span))).bind fun Np=>(Jr Np).bind fun Gq=>(Js Gq).bind fun (Hf,Gt)=>some (Hf,Gt))
noncomputable def Nq (a0:List Int):Option (List Int):=
 app 8 [] a0
noncomputable def I3 (a0:Int) (a1:List Span):Option (Bool):=
 (Ir a1 a0).bind fun b3=>some b3
noncomputable def OS (a0:List Int) (g1:Int→Option Bool) (x:(Int)):Option (LR (Int) (LR Unit (Int))):=
 match x with
 |(Ez)=>(bif (decide (Ez<(a0.length:Int))) then (idx a0 Ez).bind fun FK=>(g1 FK).bind fun Gq=>(bif Gq then some (LR.done (LR.done Ez)) else some (LR.next ((IntKind.i64.wrap (Ez+1))))) else some (LR.done (LR.next ())))
noncomputable def Lh (a0:List Int) (g1:Int→Option Bool):Option (Int):=
 (eM (OS a0 g1) (0)).bind fun y=>match y with|LR.next ()=>some (-1)|LR.done z=>some z
noncomputable def Nr (a2:List Span) (x:((List Int)×Int×Int)):Option (LR ((List Int)×Int×Int) ((List Int)×Int)):=
 match x with
 |(ER,Et,EJ)=>(bif (decide (EJ<(ER.length:Int))) then ((idx ER EJ).bind fun Hw=>(I3 Hw a2).bind fun Fz=>((bif (!Fz) then (idx ER Et).bind fun _b43=>some ((ER.set Et.toNat Hw),(IntKind.i64.wrap (Et+1))) else some (ER,Et))).bind fun (FT,GG)=>some (FT,GG)).bind fun (HK,F3)=>some (LR.next (HK,F3,(IntKind.i64.wrap (EJ+1)))) else some (LR.done (ER,Et)))
noncomputable def Li (a0:List Int) (a2:List Span):Option (List Int):=
 (Lh a0 (fun OP=>I3 OP a2)).bind fun b3=>(bif (b3==(-1)) then some a0 else (eM (Nr a2) (a0,b3,(IntKind.i64.wrap (b3+1)))).bind fun (E6,EC)=>(dU E6 EC (E6.length:Int)).bind fun QJ=>(dU (iY E6 EC QJ (0:Int)) 0 EC).bind fun QK=>some QK)
noncomputable def Lj (a0:EB) (x:((List Int)×Int)):Option (LR ((List Int)×Int) ((List Int))):=
 match x with
 |(ED,E7)=>(bif (decide (E7<a0.Next)) then (((Ir a0.Es E7).bind fun Fz=>(bif (!Fz) then (Kd a0.Ep E7).bind fun Ju=>some ((!Ju)) else some (false))).bind fun F4=>((bif F4 then (app 8 ED ([E7]:List Int)).bind fun Gb=>some (Gb) else some (ED))).bind fun GG=>some (GG)).bind fun Hu=>some (LR.next (Hu,(IntKind.i64.wrap (E7+1)))) else some (LR.done (ED)))
noncomputable def I4 (a0:EB):Option (List Int):=
 (eM (Lj a0) ([],0)).bind fun ER=>some ER
def slices_Sort_int (a0:List Int):Option (List Int):=
 xg a0
noncomputable def Ns (a0:EB) (EL:List Span) (x:((List Int)×Int)):Option (LR ((List Int)×Int) ((List Int))):=
 match x with
 |(Fu,Fq)=>(bif (decide (Fq<a0.Next)) then (((Ir EL Fq).bind fun IZ=>(bif IZ then (Ir a0.Es Fq).bind fun HJ=>some ((!HJ)) else some (false))).bind fun Lk=>((bif Lk then (app 8 Fu ([Fq]:List Int)).bind fun Ll=>some (Ll) else some (Fu))).bind fun FG=>some (FG)).bind fun Gb=>some (LR.next (Gb,(IntKind.i64.wrap (Fq+1)))) else some (LR.done (Fu)))
noncomputable def Ln (GZ:Span) (FV:List Int) (x:((List Int)×Int)):Option (LR ((List Int)×Int) ((List Int))):=
 match x with
 |(GI,HX)=>(bif (decide (HX<(FV.length:Int))) then ((idx FV HX).bind fun Nt=>((bif (decide ((IntKind.i64.wrap (Nt+3))≤(IntKind.i64.wrap (GZ.To-1)))) then (app 8 GI ([Nt]:List Int)).bind fun I5=>some (I5) else some (GI))).bind fun HN=>some (HN)).bind fun Lo=>some (LR.next (Lo,(IntKind.i64.wrap (HX+1)))) else some (LR.done (GI)))
noncomputable def Lp (a0:EB) (a1:List Span):Option (EB×List Int×List Int×Bool):=
 ((Kf a0).bind fun Fv=>(bif (!Fv) then some (true) else (Ke a1 a0.Next).bind fun GD=>some ((!GD)))).bind fun E7=>(bif E7 then some ((⟨0,([]:List Span),([]:List Int)⟩:EB),[],[],false) else (Lg a0.Es a1).bind fun (EL,FK)=>(bif (!FK) then some ((⟨0,([]:List Span),([]:List Int)⟩:EB),[],[],false) else (eM (Ns a0 EL) ([],0)).bind fun FF=>(Nq a0.Ep).bind fun Kg=>(Li Kg EL).bind fun HY=>((bif (decide (0<(EL.length:Int))) then (idx EL (IntKind.i64.wrap ((EL.length:Int)-1))).bind fun GZ=>(I4 (⟨a0.Next,EL,HY⟩:EB)).bind fun FV=>(eM (Ln GZ FV) ([],0)).bind fun Lq=>some (Lq) else some ([]))).bind fun Kh=>(app 8 HY Kh).bind fun QL=>(slices_Sort_int QL).bind fun Nu=>some ((⟨a0.Next,EL,Nu⟩:EB),FF,Kh,true)))
def slices_Compact_int (a0:List Int):Option (List Int):=
 xh a0
noncomputable def Nv (a1:List Int) (x:((List Int)×Int×Int×(List Span)×(List Int))):Option (LR ((List Int)×Int×Int×(List Span)×(List Int)) (LR ((List Int)) (List Int×Bool))):=
 match x with
 |(Gg,F3,Fu,Gr,F4)=>(bif (decide (F3<(a1.length:Int))) then (idx a1 F3).bind fun Hg=>(Lp (⟨Fu,Gr,F4⟩:EB) ([(⟨Hg,(IntKind.i64.wrap (Hg+1))⟩:Span)]:List Span)).bind fun (Gu,_b52,QM,HZ)=>(bif (!HZ) then some (LR.done (LR.done ([],false))) else (app 8 Gg QM).bind fun Ll=>some (LR.next (Ll,(IntKind.i64.wrap (F3+1)),Gu.Next,Gu.Es,Gu.Ep))) else some (LR.done (LR.next (Gg))))
noncomputable def Lr (a0:Int) (a1:List Int):Option (List Int×Bool):=
 (Nh a0).bind fun (EM,GW)=>((bif (!GW) then some (true) else (Jq a1 a0).bind fun FK=>some ((!FK)))).bind fun EX=>(bif EX then some ([],false) else (eM (Nv a1) ([],0,EM.Next,EM.Es,EM.Ep)).bind fun y=>match y with|LR.next (Fq)=>(slices_Sort_int Fq).bind fun Kg=>(slices_Compact_int Kg).bind fun Jv=>some (Jv,true)|LR.done z=>some z)
noncomputable def Ki (a0:Int) (a1:Int) (a2:Int):Option (Bool):=
 (bif (decide (a1≤a0)) then some (decide (a0≤a2)) else some false)
noncomputable def Nw (a0:Int):Option (EB×Bool):=
 (Ki a0 0 60).bind fun GX=>(bif (!GX) then some ((⟨0,[],[]⟩:EB),false) else some ((⟨a0,[],[]⟩:EB),true))
noncomputable def Nx (a0:List Int) (a1:Int) (x:(Int)):Option (LR (Int) (LR Unit (Bool))):=
 match x with
 |(Ez)=>(bif (decide (Ez<(a0.length:Int))) then (idx a0 Ez).bind fun EL=>(bif (EL==a1) then some (LR.done (LR.done true)) else some (LR.next ((IntKind.i64.wrap (Ez+1))))) else some (LR.done (LR.next ())))
noncomputable def Kj (a0:List Int) (a1:Int):Option (Bool):=
 (eM (Nx a0 a1) (0)).bind fun y=>match y with|LR.next ()=>some false|LR.done z=>some z
noncomputable def Ls (a0:List Int) (a1:Int) (x:(Int)):Option (LR (Int) (LR Unit (Bool))):=
 match x with
 |(Ez)=>(bif (decide (Ez<(a0.length:Int))) then (idx a0 Ez).bind fun EL=>((Ki EL 0 (IntKind.i64.wrap (a1-1))).bind fun Hf=>(bif (!Hf) then some (true) else (dU a0 0 Ez).bind fun HK=>(Kj HK EL).bind fun FH=>some (FH))).bind fun Fc=>(bif Fc then some (LR.done (LR.done false)) else some (LR.next ((IntKind.i64.wrap (Ez+1))))) else some (LR.done (LR.next ())))
noncomputable def Jw (a0:List Int) (a1:Int):Option (Bool):=
 (eM (Ls a0 a1) (0)).bind fun y=>match y with|LR.next ()=>some true|LR.done z=>some z
noncomputable def Jx (a0:Int) (a1:Int):Option (Int):=
 (bif (decide (a1<a0)) then some a0 else some a1)
noncomputable def Lt (a0:List Span) (a1:Span) (x:((List Span)×Int)):Option (LR ((List Span)×Int) ((List Span)×Int)):=
 match x with
 |(EZ,Et)=>((bif (decide (Et<(a0.length:Int))) then (idx a0 Et).bind fun Gv=>some ((decide (Gv.To<a1.Em))) else some (false))).bind fun Gg=>(bif Gg then (idx a0 Et).bind fun Hw=>(app 16 EZ ([Hw]:List Span)).bind fun I6=>some (LR.next (I6,(IntKind.i64.wrap (Et+1)))) else some (LR.done (EZ,Et)))
noncomputable def Lu (a0:List Span) (x:(Int×Int×Int)):Option (LR (Int×Int×Int) (Int×Int×Int)):=
 match x with
 |(F1,GF,Ga)=>((bif (decide (F1<(a0.length:Int))) then (idx a0 F1).bind fun OT=>some ((decide (OT.Em≤Ga))) else some (false))).bind fun Lv=>(bif Lv then (idx a0 F1).bind fun OU=>(J5 GF OU.Em).bind fun Lw=>(idx a0 F1).bind fun OV=>(Jx Ga OV.To).bind fun Ly=>some (LR.next ((IntKind.i64.wrap (F1+1)),Lw,Ly)) else some (LR.done (F1,GF,Ga)))
noncomputable def Kk (a0:List Span) (a1:Span):Option (List Span):=
 (eM (Lt a0 a1) ([],0)).bind fun (EJ,EC)=>(eM (Lu a0) (EC,a1.Em,a1.To)).bind fun (HM,Kl,Gb)=>(app 16 EJ ([(⟨Kl,Gb⟩:Span)]:List Span)).bind fun Gh=>(dU a0 HM (a0.length:Int)).bind fun G3=>(app 16 Gh G3).bind fun IY=>some IY
noncomputable def Lz (a1:List Span) (x:((List Span)×Int)):Option (LR ((List Span)×Int) ((List Span))):=
 match x with
 |(ER,E6)=>(bif (decide (E6<(a1.length:Int))) then (idx a1 E6).bind fun Gi=>(Kk ER Gi).bind fun Hv=>some (LR.next (Hv,(IntKind.i64.wrap (E6+1)))) else some (LR.done (ER)))
noncomputable def LA (a0:List Span) (a1:List Span):Option (List Span):=
 (app 16 ([]:List Span) a0).bind fun Ez=>(eM (Lz a1) (Ez,0)).bind fun EC=>some EC
noncomputable def LB (a0:List Span) (a1:Int) (x:(Int)):Option (LR (Int) (LR Unit (Bool))):=
 match x with
 |(Ez)=>(bif (decide (Ez<(a0.length:Int))) then (idx a0 Ez).bind fun EL=>((bif (decide (EL.Em≤a1)) then some ((decide (a1<EL.To))) else some (false))).bind fun LC=>(bif LC then some (LR.done (LR.done true)) else some (LR.next ((IntKind.i64.wrap (Ez+1))))) else some (LR.done (LR.next ())))
noncomputable def Jy (a0:List Span) (a1:Int):Option (Bool):=
 (eM (LB a0 a1) (0)).bind fun y=>match y with|LR.next ()=>some false|LR.done z=>some z
noncomputable def Ny (a0:EB) (EF:List Span) (x:((List Int)×Int)):Option (LR ((List Int)×Int) ((List Int))):=
 match x with
 |(Fl,Gj)=>(bif (decide (Gj<a0.Next)) then (((Jy EF Gj).bind fun I7=>(bif I7 then (Jy a0.Es Gj).bind fun Hg=>some ((!Hg)) else some (false))).bind fun G0=>((bif G0 then (app 8 Fl ([Gj]:List Int)).bind fun Lf=>some (Lf) else some (Fl))).bind fun LD=>some (LD)).bind fun LF=>some (LR.next (LF,(IntKind.i64.wrap (Gj+1)))) else some (LR.done (Fl)))
noncomputable def Nz (a0:EB) (EF:List Span) (Fb:Int) (x:((List Int)×Int×(List Int))):Option (LR ((List Int)×Int×(List Int)) ((List Int)×(List Int))):=
 match x with
 |(Gh,Fx,G3)=>(bif (decide (Fx<a0.Next)) then ((Jy EF Fx).bind fun OW=>(bif OW then some (Gh,G3) else (Kj a0.Ep Fx).bind fun Jz=>((bif Jz then some (true,true) else some (false,(decide ((IntKind.i64.wrap (Fx+3))≤Fb))))).bind fun (F5,LG)=>((bif LG then (app 8 G3 ([Fx]:List Int)).bind fun QN=>some (QN) else some (G3))).bind fun JA=>((bif (!F5) then some ((decide ((IntKind.i64.wrap (Fx+3))≤Fb))) else some (false))).bind fun LH=>((bif LH then (app 8 Gh ([Fx]:List Int)).bind fun QO=>some (QO) else some (Gh))).bind fun LI=>some (LI,JA))).bind fun (LJ,GI)=>some (LR.next (LJ,(IntKind.i64.wrap (Fx+1)),GI)) else some (LR.done (Gh,G3)))
noncomputable def LK (a0:EB) (a1:List Span):Option (EB×List Int×List Int×Bool):=
 (LA a0.Es a1).bind fun EF=>(eM (Ny a0 EF) ([],0)).bind fun Fc=>((bif (decide (0<(EF.length:Int))) then (idx EF (IntKind.i64.wrap ((EF.length:Int)-1))).bind fun LL=>some ((IntKind.i64.wrap (LL.To-1))) else some (-1))).bind fun Fb=>(eM (Nz a0 EF Fb) ([],0,[])).bind fun (LM,Hy)=>some ((⟨a0.Next,EF,Hy⟩:EB),Fc,LM,(decide ((EF.length:Int)≤20)))
noncomputable def LN (Is:List Int) (x:((List Bool)×Int)):Option (LR ((List Bool)×Int) ((List Bool))):=
 match x with
 |(I8,Hy)=>(bif (decide (Hy<(Is.length:Int))) then (idx Is Hy).bind fun OX=>(idx I8 OX).bind fun _b100=>some (LR.next ((I8.set OX.toNat true),(IntKind.i64.wrap (Hy+1)))) else some (LR.done (I8)))
noncomputable def LO (a1:List Int) (x:((List Bool)×Int×Int×(List Span)×(List Int))):Option (LR ((List Bool)×Int×Int×(List Span)×(List Int)) (LR ((List Bool)) (List Int×Bool))):=
 match x with
 |(F3,Fu,Gr,F4,GY)=>(bif (decide (Fu<(a1.length:Int))) then (idx a1 Fu).bind fun Gf=>(LK (⟨Gr,F4,GY⟩:EB) ([(⟨Gf,(IntKind.i64.wrap (Gf+1))⟩:Span)]:List Span)).bind fun (G4,_b56,Is,IZ)=>(bif (!IZ) then some (LR.done (LR.done ([],false))) else (eM (LN Is) (F3,0)).bind fun LP=>some (LR.next (LP,(IntKind.i64.wrap (Fu+1)),G4.Next,G4.Es,G4.Ep))) else some (LR.done (LR.next (F3))))
noncomputable def NA (FT:List Bool) (x:((List Int)×Int)):Option (LR ((List Int)×Int) ((List Int))):=
 match x with
 |(GC,F7)=>(bif (decide (F7<(FT.length:Int))) then ((idx FT F7).bind fun Jp=>((bif Jp then (app 8 GC ([F7]:List Int)).bind fun QP=>some (QP) else some (GC))).bind fun I5=>some (I5)).bind fun HN=>some (LR.next (HN,(IntKind.i64.wrap (F7+1)))) else some (LR.done (GC)))
noncomputable def LQ (a0:Int) (a1:List Int):Option (List Int×Bool):=
 (Nw a0).bind fun (EM,GW)=>((bif (!GW) then some (true) else (Jw a1 a0).bind fun FK=>some ((!FK)))).bind fun EX=>(bif EX then some ([],false) else (iv 1 a0 (false:Bool)).bind fun Gg=>(eM (LO a1) (Gg,0,EM.Next,EM.Es,EM.Ep)).bind fun y=>match y with|LR.next (FT)=>(eM (NA FT) ([],0)).bind fun F5=>some (F5,true)|LR.done z=>some z)
noncomputable def NB (a0:List Int) (x:(Int×Int×Int)):Option (LR (Int×Int×Int) (Int)):=
 match x with
 |(ER,Et,EJ)=>(bif (decide (EJ<(a0.length:Int))) then (idx a0 EJ).bind fun Gt=>some (LR.next ((if (IntKind.i64.wrap ((if Gt>Et then Gt else Et)-Gt))>ER then (IntKind.i64.wrap ((if Gt>Et then Gt else Et)-Gt)) else ER),(if Gt>Et then Gt else Et),(IntKind.i64.wrap (EJ+1)))) else some (LR.done (ER)))
noncomputable def LS (a0:List Int):Option (Int×Bool):=
 (Jq a0 60).bind fun EM=>(bif (!EM) then some (0,false) else (eM (NB a0) (0,0,0)).bind fun E6=>some (E6,true))
noncomputable def NC (a0:List Int) (x:(Int×Int×Int)):Option (LR (Int×Int×Int) (Int)):=
 match x with
 |(Et,EJ,E6)=>(bif (decide (E6<(a0.length:Int))) then (idx a0 E6).bind fun FH=>(Jx Et (IntKind.i64.wrap (EJ-FH))).bind fun Gv=>(Jx EJ FH).bind fun F2=>some (LR.next (Gv,F2,(IntKind.i64.wrap (E6+1)))) else some (LR.done (Et)))
noncomputable def LU (a0:List Int):Option (Int×Bool):=
 (Jw a0 60).bind fun EM=>(bif (!EM) then some (0,false) else (eM (NC a0) (0,-1,0)).bind fun EC=>some (EC,true))
noncomputable def LV (a0:List Int) (a1:List Int) (x:(Int)):Option (LR (Int) (LR Unit (Bool))):=
 match x with
 |(EZ)=>(bif (decide (EZ<(a0.length:Int))) then (idx a0 EZ).bind fun Km=>(idx a1 EZ).bind fun Kn=>(bif (Km !=Kn) then some (LR.done (LR.done false)) else some (LR.next ((IntKind.i64.wrap (EZ+1))))) else some (LR.done (LR.next ())))
noncomputable def LW (a0:List Int) (a1:List Int):Option (Bool):=
 (bif ((a0.length:Int) !=(a1.length:Int)) then some false else (eM (LV a0 a1) (0)).bind fun y=>match y with|LR.next ()=>some true|LR.done z=>some z)
noncomputable def ND (a0:List Int) (a1:Int) (x:(Int)):Option (LR (Int) (LR Unit (Bool))):=
 match x with
 |(Ez)=>(bif (decide (Ez<(a0.length:Int))) then (idx a0 Ez).bind fun EL=>(bif (EL==a1) then some (LR.done (LR.done true)) else some (LR.next ((IntKind.i64.wrap (Ez+1))))) else some (LR.done (LR.next ())))
noncomputable def JB (a0:List Int) (a1:Int):Option (Bool):=
 (eM (ND a0 a1) (0)).bind fun y=>match y with|LR.next ()=>some false|LR.done z=>some z
noncomputable def OY (x:((List Int)×Int)):Option (LR ((List Int)×Int) ((List Int))):=
 match x with
 |(EC,Fl)=>(bif (decide (Fl<42)) then (app 8 EC ([Fl]:List Int)).bind fun GY=>some (LR.next (GY,(IntKind.i64.wrap (Fl+2)))) else some (LR.done (EC)))
noncomputable def LX (a0:List Int):Option (List Int):=
 (IT (⟨a0,0,0⟩:EW) 20).bind fun (EP,Jt)=>(bif EP then (eM (OY) ([],0)).bind fun LY=>some LY else (Hd Jt 16).bind fun (QQ,NE)=>(J8 NE QQ).bind fun (LZ,_b45)=>some LZ)
noncomputable def NF (a0:List Int) (x:((List Span)×Int)):Option (LR ((List Span)×Int) ((List Span))):=
 match x with
 |(Et,EC)=>(bif (decide (EC<(a0.length:Int))) then (idx a0 EC).bind fun Gv=>(app 16 Et ([(⟨Gv,(IntKind.i64.wrap (Gv+1))⟩:Span)]:List Span)).bind fun FF=>some (LR.next (FF,(IntKind.i64.wrap (EC+1)))) else some (LR.done (Et)))
noncomputable def L3 (a0:List Int):Option (List Span×Bool):=
 (Jq a0 60).bind fun EM=>(bif (!EM) then some (([]:List Span),false) else (eM (NF a0) ([],0)).bind fun EX=>(Jr EX).bind fun HL=>(Js HL).bind fun (L4,LZ)=>some (L4,LZ))
noncomputable def L5 (a0:List Span):Option (List Span×Bool):=
 (bif (decide (20<(a0.length:Int))) then some (([]:List Span),false) else some (a0,true))
noncomputable def NG (a0:List Int) (x:((List Span)×Int)):Option (LR ((List Span)×Int) ((List Span))):=
 match x with
 |(Et,EC)=>(bif (decide (EC<(a0.length:Int))) then (idx a0 EC).bind fun Gv=>(Kk Et (⟨Gv,(IntKind.i64.wrap (Gv+1))⟩:Span)).bind fun F2=>some (LR.next (F2,(IntKind.i64.wrap (EC+1)))) else some (LR.done (Et)))
noncomputable def L6 (a0:List Int):Option (List Span×Bool):=
 (Jw a0 60).bind fun EM=>(bif (!EM) then some (([]:List Span),false) else (eM (NG a0) ([],0)).bind fun EX=>(L5 EX).bind fun (K_,HL)=>some (K_,HL))
noncomputable def L7 (a0:List Span) (a1:List Span) (x:(Int)):Option (LR (Int) (LR Unit (Bool))):=
 match x with
 |(EZ)=>(bif (decide (EZ<(a0.length:Int))) then (idx a0 EZ).bind fun Km=>(idx a1 EZ).bind fun Kn=>(bif (!((Km.Em==Kn.Em)&&((Km.To==Kn.To)&&true))) then some (LR.done (LR.done false)) else some (LR.next ((IntKind.i64.wrap (EZ+1))))) else some (LR.done (LR.next ())))
noncomputable def Ko (a0:List Span) (a1:List Span):Option (Bool):=
 (bif ((a0.length:Int) !=(a1.length:Int)) then some false else (eM (L7 a0 a1) (0)).bind fun y=>match y with|LR.next ()=>some true|LR.done z=>some z)
noncomputable def L8 (a0:List Span) (x:(Int×Int)):Option (LR (Int×Int) (Int)):=
 match x with
 |(ED,FW)=>(bif (decide (FW<(a0.length:Int))) then (idx a0 FW).bind fun FE=>some (LR.next ((IntKind.i64.wrap (ED+(IntKind.i64.wrap (FE.To-FE.Em)))),(IntKind.i64.wrap (FW+1)))) else some (LR.done (ED)))
noncomputable def L9 (a0:List Span):Option (Int):=
 (eM (L8 a0) (0,0)).bind fun EZ=>some EZ
noncomputable def JC (a0:List Span):Option (Int×Bool):=
 (I2 a0).bind fun EM=>(bif (!EM) then some (0,false) else (L9 a0).bind fun EF=>some (EF,true))
noncomputable def L_ (EP:List Int) (Fv:List Int) (FH:Int) (x:(Int)):Option (LR (Int) (LR Unit (LR Unit (Bool)))):=
 match x with
 |(JD)=>(bif (decide (JD<(Fv.length:Int))) then (idx Fv JD).bind fun OZ=>((bif (decide (FH<3)) then (JB EP OZ).bind fun Jv=>some (Jv) else some (false))).bind fun Ma=>(bif Ma then some (LR.done (LR.done (LR.done false))) else some (LR.next ((IntKind.i64.wrap (JD+1))))) else some (LR.done (LR.next ())))
noncomputable def Mb (EP:List Int) (x:(Int×Int)):Option (LR (Int×Int) (Int)):=
 match x with
 |(Iu,H4)=>(bif (decide (H4<(EP.length:Int))) then ((idx EP H4).bind fun Jz=>((bif (decide (Iu<Jz)) then some (Jz) else some (Iu))).bind fun F5=>some (F5)).bind fun Mc=>some (LR.next (Mc,(IntKind.i64.wrap (H4+1)))) else some (LR.done (Iu)))
noncomputable def Md (EP:List Int) (Fv:List Int) (Hh:Int) (x:(Int)):Option (LR (Int) (LR Unit (LR Unit (Bool)))):=
 match x with
 |(Gs)=>(bif (decide ((IntKind.i64.wrap (Gs+3))≤Hh)) then ((JB EP Gs).bind fun O0=>(bif (!O0) then (JB Fv Gs).bind fun NH=>some ((!NH)) else some (false))).bind fun Me=>(bif Me then some (LR.done (LR.done (LR.done false))) else some (LR.next ((IntKind.i64.wrap (Gs+1))))) else some (LR.done (LR.next ())))
noncomputable def Mf (a0:List Int) (a1:List Int):Option (Bool):=
 (bif (decide (1048576<(IntKind.i64.wrap ((a0.length:Int)+(a1.length:Int))))) then some true else (KS a0).bind fun (EF,EP)=>(Lr EF EP).bind fun (Fv,GD)=>(LQ EF EP).bind fun (Gq,FE)=>(LS EP).bind fun (FH,Gi)=>(LU EP).bind fun (Hv,Hw)=>((bif (!(GD==FE)) then some (true) else (LW Fv Gq).bind fun He=>(bif (!He) then some (true) else (bif (!(Gi==Hw)) then some (true) else some ((FH !=Hv)))))).bind fun I6=>(bif I6 then some false else ((bif GD then (bif (!Gi) then some (LR.done false) else (eM (L_ EP Fv FH) (0)).bind fun y=>match y with|LR.next ()=>((eM (Mb EP) (-1,0)).bind fun Hh=>(eM (Md EP Fv Hh) (0)).bind fun y=>match y with|LR.next ()=>some (LR.next ())|LR.done z=>some z)|LR.done z=>some z) else some (LR.next ()))).bind fun y=>match y with|LR.next ()=>(LX a1).bind fun JE=>(L3 JE).bind fun (Kp,Kq)=>(L6 JE).bind fun (QR,QS)=>((bif (!(Kq==QS)) then some (true) else (Ko Kp QR).bind fun O1=>some ((!O1)))).bind fun Mg=>(bif Mg then some false else (bif Kq then (JC Kp).bind fun (QT,QU)=>(bif QU then some (QT==(JE.length:Int)) else some false) else some true))|LR.done z=>some z))
end Go.GB
