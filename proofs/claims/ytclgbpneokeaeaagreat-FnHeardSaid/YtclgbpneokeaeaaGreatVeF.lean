import Derived.Test.YtclgbpneokeaeaaGreatVaE
import Derived.Test.YtclgbpneokeaeaaGreatVaG
open Go Go.VS
set_option maxRecDepth 8000
namespace Go.GC
structure Span where
 En:Int
 To:Int
structure Et where
 Next:Int
 Em:List Span
 Ek:List Int
structure ED where
 Code:List Int
 At:Int
 ES:Int
noncomputable def KQ (a0:ED):Option (Int×ED):=
 ((bif (decide (a0.At<(a0.Code.length:Int))) then (idx a0.Code a0.At).bind fun FI=>some ((IntKind.i64.wrap FI)) else some (0))).bind fun EF=>(bif (decide ((IntKind.i64.wrap (a0.At+1))≤(a0.Code.length:Int))) then some (EF,(⟨a0.Code,(IntKind.i64.wrap (a0.At+1)),(IntKind.u64.wrap ((IntKind.u64.wrap ((IntKind.u64.wrap (a0.ES*6364136223846793005))+(IntKind.u64.wrap EF)))+1442695040888963407))⟩:ED)) else some ((IntKind.i64.wrap (Aj .u64 (uQ .u64 (IntKind.u64.wrap ((IntKind.u64.wrap ((IntKind.u64.wrap (a0.ES*6364136223846793005))+(IntKind.u64.wrap EF)))+1442695040888963407)) 40) 255)),(⟨a0.Code,(IntKind.i64.wrap (a0.At+1)),(IntKind.u64.wrap ((IntKind.u64.wrap ((IntKind.u64.wrap (a0.ES*6364136223846793005))+(IntKind.u64.wrap EF)))+1442695040888963407))⟩:ED)))
noncomputable def Gv (a0:ED) (a1:Int):Option (Int×ED):=
 (bif (decide (a1≤1)) then some (0,a0) else (KQ a0).bind fun (EA,Fo)=>((bif (decide (200<a1)) then (KQ Fo).bind fun (EW,ET)=>some ((IntKind.i64.wrap ((IntKind.i64.wrap (EA*256))+EW)),ET.Code,ET.At,ET.ES) else some (EA,Fo.Code,Fo.At,Fo.ES))).bind fun (EX,Fq,EU,E_)=>(md EX a1).bind fun HI=>some (HI,(⟨Fq,EU,E_⟩:ED)))
noncomputable def Jx (a0:Int) (a1:Int) (a2:Int):Option (Bool):=
 (bif (decide (a1≤a0)) then some (decide (a0≤a2)) else some false)
noncomputable def Jy (a0:Int):Option (Et×Bool):=
 (Jx a0 0 60).bind fun Fi=>(bif (!Fi) then some ((⟨0,[],[]⟩:Et),false) else some ((⟨a0,[],[]⟩:Et),true))
noncomputable def Hb (a0:ED) (a1:Int):Option (Bool×ED):=
 (Gv a0 a1).bind fun (F7,Hs)=>some ((F7==0),Hs)
noncomputable def KR (a0:Int) (a1:Int):Option (Int):=
 (bif (decide (a0<a1)) then some a0 else some a1)
noncomputable def J7 (a0:ED) (a1:List Int):Option (Int×ED):=
 (Gv a0 (a1.length:Int)).bind fun (F7,Hs)=>(idx a1 F7).bind fun Fi=>some (Fi,Hs)
noncomputable def PB (a1:Int) (x:((List Int)×Int×(List Int)×Int×Int)):Option (LR ((List Int)×Int×(List Int)×Int×Int) ((List Int)×(List Int)×Int×Int)):=
 match x with
 |(EF,EH,Fj,EB,EX)=>(bif (decide (EH<a1)) then ((Hb (⟨Fj,EB,EX⟩:ED) 12).bind fun (LQ,J8)=>((bif (!LQ) then (app 8 EF ([EH]:List Int)).bind fun LS=>some (LS) else some (EF))).bind fun FM=>some (FM,J8.Code,J8.At,J8.ES)).bind fun (FU,EY,Fm,FQ)=>some (LR.next (FU,(IntKind.i64.wrap (EH+1)),EY,Fm,FQ)) else some (LR.done (EF,Fj,EB,EX)))
noncomputable def PC (x:((List Int)×Int×(List Int)×Int×Int)):Option (LR ((List Int)×Int×(List Int)×Int×Int) ((List Int)×(List Int)×Int×Int)):=
 match x with
 |(Ft,Jz,JA,Ff,JB)=>((bif (decide (0<Jz)) then some ((decide (1<(Ft.length:Int)))) else some (false))).bind fun JC=>(bif JC then (Gv (⟨JA,Ff,JB⟩:ED) (IntKind.i64.wrap ((Ft.length:Int)-1))).bind fun (Gw,H4)=>(Gv H4 4).bind fun (LU,NS)=>(KR (IntKind.i64.wrap ((Ft.length:Int)-1)) (IntKind.i64.wrap ((IntKind.i64.wrap (Gw+1))+LU))).bind fun Hc=>(idx Ft Gw).bind fun F8=>(idx Ft Hc).bind fun J9=>(idx Ft Gw).bind fun _b101=>(idx (Ft.set Gw.toNat J9) Hc).bind fun _b103=>some (LR.next (((Ft.set Gw.toNat J9).set Hc.toNat F8),(IntKind.i64.wrap (Jz-1)),NS.Code,NS.At,NS.ES)) else some (LR.done (Ft,JA,Ff,JB)))
noncomputable def KS (a0:ED) (a1:Int):Option (List Int×ED):=
 (eM (PB a1) ([],0,a0.Code,a0.At,a0.ES)).bind fun (Fq,E_,H7,Ht)=>(Gv (⟨E_,H7,Ht⟩:ED) 8).bind fun (LV,H8)=>(eM (PC) (Fq,LV,H8.Code,H8.At,H8.ES)).bind fun (H9,KT,KU,KV)=>((bif (decide (0<(H9.length:Int))) then (Hb (⟨KT,KU,KV⟩:ED) 20).bind fun (PD,NT)=>some (PD,NT.Code,NT.At,NT.ES) else some (false,KT,KU,KV))).bind fun (H_,GZ,HJ,HK)=>((bif H_ then (idx H9 (IntKind.i64.wrap ((H9.length:Int)-1))).bind fun PE=>(J7 (⟨GZ,HJ,HK⟩:ED) ([-1,60,PE]:List Int)).bind fun (NU,NV)=>(idx H9 0).bind fun _b135=>some ((H9.set (0:Int).toNat NU),NV.Code,NV.At,NV.ES) else some (H9,GZ,HJ,HK))).bind fun (LW,LX,LY,LZ)=>some (LW,(⟨LX,LY,LZ⟩:ED))
noncomputable def NW (a0:Span):Option (Bool):=
 (bif (decide (0≤a0.En)) then (bif (decide (a0.En<a0.To)) then some (decide (a0.To≤1000000)) else some false) else some false)
noncomputable def L3 (a0:List Span) (x:(Int)):Option (LR (Int) (LR Unit (Bool))):=
 match x with
 |(Ey)=>(bif (decide (Ey<(a0.length:Int))) then (idx a0 Ey).bind fun Ez=>((NW Ez).bind fun KW=>(bif (!KW) then some (true) else (bif (decide (0<Ey)) then (idx a0 (IntKind.i64.wrap (Ey-1))).bind fun Hu=>some ((decide (Ez.En≤Hu.To))) else some (false)))).bind fun Gk=>(bif Gk then some (LR.done (LR.done false)) else some (LR.next ((IntKind.i64.wrap (Ey+1))))) else some (LR.done (LR.next ())))
noncomputable def L4 (a0:List Span):Option (Bool):=
 (eM (L3 a0) (0)).bind fun y=>match y with|LR.next ()=>some (decide ((a0.length:Int)≤20))|LR.done z=>some z
noncomputable def KX (a0:List Span) (a1:Int):Option (Bool):=
 (L4 a0).bind fun b3=>(bif b3 then (bif ((a0.length:Int)==0) then some true else (idx a0 (IntKind.i64.wrap ((a0.length:Int)-1))).bind fun F7=>some (decide (F7.To≤a1))) else some false)
noncomputable def NX (a0:List Int) (a1:Int) (x:(Int)):Option (LR (Int) (LR Unit (Bool))):=
 match x with
 |(Ey)=>(bif (decide (Ey<(a0.length:Int))) then (idx a0 Ey).bind fun Ez=>((Jx Ez 0 (IntKind.i64.wrap (a1-1))).bind fun GD=>(bif (!GD) then some (true) else (bif (decide (0<Ey)) then (idx a0 (IntKind.i64.wrap (Ey-1))).bind fun IB=>some ((decide (Ez≤IB))) else some (false)))).bind fun Gh=>(bif Gh then some (LR.done (LR.done false)) else some (LR.next ((IntKind.i64.wrap (Ey+1))))) else some (LR.done (LR.next ())))
noncomputable def L5 (a0:List Int) (a1:Int):Option (Bool):=
 (eM (NX a0 a1) (0)).bind fun y=>match y with|LR.next ()=>some true|LR.done z=>some z
noncomputable def L6 (a0:List Span) (a1:Int) (x:(Int)):Option (LR (Int) (LR Unit (Bool))):=
 match x with
 |(Ey)=>(bif (decide (Ey<(a0.length:Int))) then (idx a0 Ey).bind fun Ez=>((bif (decide (Ez.En≤a1)) then some ((decide (a1<Ez.To))) else some (false))).bind fun Gk=>(bif Gk then some (LR.done (LR.done true)) else some (LR.next ((IntKind.i64.wrap (Ey+1))))) else some (LR.done (LR.next ())))
noncomputable def IY (a0:List Span) (a1:Int):Option (Bool):=
 (eM (L6 a0 a1) (0)).bind fun y=>match y with|LR.next ()=>some false|LR.done z=>some z
noncomputable def NY (a0:Et) (x:(Int)):Option (LR (Int) (LR Unit (Bool))):=
 match x with
 |(F9)=>(bif (decide (F9<(a0.Ek.length:Int))) then (idx a0.Ek F9).bind fun G0=>(IY a0.Em G0).bind fun RI=>(bif RI then some (LR.done (LR.done false)) else some (LR.next ((IntKind.i64.wrap (F9+1))))) else some (LR.done (LR.next ())))
noncomputable def JD (a0:Et):Option (Bool):=
 ((Jx a0.Next 0 60).bind fun HM=>(bif (!HM) then some (true) else (KX a0.Em a0.Next).bind fun L7=>(bif (!L7) then some (true) else (L5 a0.Ek a0.Next).bind fun Hd=>some ((!Hd))))).bind fun FJ=>(bif FJ then some false else (eM (NY a0) (0)).bind fun y=>match y with|LR.next ()=>some true|LR.done z=>some z)
noncomputable def L8 (a0:Int) (a1:Int):Option (Int):=
 (bif (decide (a1<a0)) then some a0 else some a1)
noncomputable def L9 (a0:List Span) (a1:Span) (x:((List Span)×Int)):Option (LR ((List Span)×Int) ((List Span)×Int)):=
 match x with
 |(EO,EB)=>((bif (decide (EB<(a0.length:Int))) then (idx a0 EB).bind fun G3=>some ((decide (G3.To<a1.En))) else some (false))).bind fun L_=>(bif L_ then (idx a0 EB).bind fun HN=>(app 16 EO ([HN]:List Span)).bind fun IC=>some (LR.next (IC,(IntKind.i64.wrap (EB+1)))) else some (LR.done (EO,EB)))
noncomputable def Ma (a0:List Span) (x:(Int×Int×Int)):Option (LR (Int×Int×Int) (Int×Int×Int)):=
 match x with
 |(FM,FC,Gx)=>((bif (decide (FM<(a0.length:Int))) then (idx a0 FM).bind fun IZ=>some ((decide (IZ.En≤Gx))) else some (false))).bind fun GF=>(bif GF then (idx a0 FM).bind fun HO=>(KR FC HO.En).bind fun I0=>(idx a0 FM).bind fun PF=>(L8 Gx PF.To).bind fun I1=>some (LR.next ((IntKind.i64.wrap (FM+1)),I0,I1)) else some (LR.done (FM,FC,Gx)))
noncomputable def KY (a0:List Span) (a1:Span):Option (List Span):=
 (eM (L9 a0 a1) ([],0)).bind fun (EX,EU)=>(eM (Ma a0) (EU,a1.En,a1.To)).bind fun (Ia,HP,Gy)=>(app 16 EX ([(⟨HP,Gy⟩:Span)]:List Span)).bind fun Fk=>(dU a0 Ia (a0.length:Int)).bind fun JE=>(app 16 Fk JE).bind fun JC=>some JC
noncomputable def Mb (a1:List Span) (x:((List Span)×Int)):Option (LR ((List Span)×Int) ((List Span))):=
 match x with
 |(Fj,Fq)=>(bif (decide (Fq<(a1.length:Int))) then (idx a1 Fq).bind fun Hu=>(KY Fj Hu).bind fun G0=>some (LR.next (G0,(IntKind.i64.wrap (Fq+1)))) else some (LR.done (Fj)))
noncomputable def Mc (a0:List Span) (a1:List Span):Option (List Span):=
 (app 16 ([]:List Span) a0).bind fun Ey=>(eM (Mb a1) (Ey,0)).bind fun EU=>some EU
noncomputable def NZ (a0:List Int) (a1:Int) (x:(Int)):Option (LR (Int) (LR Unit (Bool))):=
 match x with
 |(Ey)=>(bif (decide (Ey<(a0.length:Int))) then (idx a0 Ey).bind fun Ez=>(bif (Ez==a1) then some (LR.done (LR.done true)) else some (LR.next ((IntKind.i64.wrap (Ey+1))))) else some (LR.done (LR.next ())))
noncomputable def J_ (a0:List Int) (a1:Int):Option (Bool):=
 (eM (NZ a0 a1) (0)).bind fun y=>match y with|LR.next ()=>some false|LR.done z=>some z
noncomputable def N0 (a0:Et) (EA:List Span) (x:((List Int)×Int)):Option (LR ((List Int)×Int) ((List Int))):=
 match x with
 |(E_,F9)=>(bif (decide (F9<a0.Next)) then (((IY EA F9).bind fun PG=>(bif PG then (IY a0.Em F9).bind fun Md=>some ((!Md)) else some (false))).bind fun FV=>((bif FV then (app 8 E_ ([F9]:List Int)).bind fun RJ=>some (RJ) else some (E_))).bind fun HP=>some (HP)).bind fun Fm=>some (LR.next (Fm,(IntKind.i64.wrap (F9+1)))) else some (LR.done (E_)))
noncomputable def N1 (a0:Et) (EA:List Span) (Ff:Int) (x:((List Int)×Int×(List Int))):Option (LR ((List Int)×Int×(List Int)) ((List Int)×(List Int))):=
 match x with
 |(Gi,Fk,Gl)=>(bif (decide (Fk<a0.Next)) then ((IY EA Fk).bind fun RK=>(bif RK then some (Gi,Gl) else (J_ a0.Ek Fk).bind fun RL=>((bif RL then some (true,true) else some (false,(decide ((IntKind.i64.wrap (Fk+3))≤Ff))))).bind fun (GZ,HJ)=>((bif HJ then (app 8 Gl ([Fk]:List Int)).bind fun RM=>some (RM) else some (Gl))).bind fun Ka=>((bif (!GZ) then some ((decide ((IntKind.i64.wrap (Fk+3))≤Ff))) else some (false))).bind fun Ib=>((bif Ib then (app 8 Gi ([Fk]:List Int)).bind fun RN=>some (RN) else some (Gi))).bind fun Me=>some (Me,Ka))).bind fun (Mf,Mg)=>some (LR.next (Mf,(IntKind.i64.wrap (Fk+1)),Mg)) else some (LR.done (Gi,Gl)))
noncomputable def Mh (a0:Et) (a1:List Span):Option (Et×List Int×List Int×Bool):=
 (Mc a0.Em a1).bind fun EA=>(eM (N0 a0 EA) ([],0)).bind fun Hv=>((bif (decide (0<(EA.length:Int))) then (idx EA (IntKind.i64.wrap ((EA.length:Int)-1))).bind fun I1=>some ((IntKind.i64.wrap (I1.To-1))) else some (-1))).bind fun Ff=>(eM (N1 a0 EA Ff) ([],0,[])).bind fun (JE,Mi)=>some ((⟨a0.Next,EA,Mi⟩:Et),Hv,JE,(decide ((EA.length:Int)≤20)))
noncomputable def KZ (a0:Et):Option (Et):=
 (app 16 ([]:List Span) a0.Em).bind fun EH=>(app 8 ([]:List Int) a0.Ek).bind fun Fq=>some (⟨a0.Next,EH,Fq⟩:Et)
noncomputable def K_ (a0:Et) (a1:List Span):Option (Et×List Int×List Int×Bool):=
 ((JD a0).bind fun Hd=>(bif (!Hd) then some (true) else (KX a1 a0.Next).bind fun La=>some ((!La)))).bind fun EH=>(bif EH then some ((⟨0,[],[]⟩:Et),[],[],false) else (Mh a0 a1).bind fun (Ez,FE,EW,ET)=>(bif (!ET) then some ((⟨0,[],[]⟩:Et),[],[],false) else (KZ Ez).bind fun Kb=>some (Kb,FE,EW,true)))
noncomputable def PH (Fi:Int) (ET:List Int) (x:(Int×(List Int)×Int×Int×Int×(List Span)×(List Int))):Option (LR (Int×(List Int)×Int×Int×Int×(List Span)×(List Int)) ((List Int)×Int×Int×Int×(List Span)×(List Int))):=
 match x with
 |(FN,GN,Hw,Fg,FU,FF,FQ)=>(bif (decide (FN<(ET.length:Int))) then ((idx ET FN).bind fun GP=>((Hb (⟨GN,Hw,Fg⟩:ED) 3).bind fun (Kc,ID)=>(bif Kc then some (true,ID.Code,ID.At,ID.ES) else (bif (decide (GP<0)) then some (true,ID.Code,ID.At,ID.ES) else some ((decide (Fi≤GP)),ID.Code,ID.At,ID.ES)))).bind fun (Fk,Gl,Kd,Ke)=>(bif Fk then some (Gl,Kd,Ke,FU,FF,FQ) else (K_ (⟨FU,FF,FQ⟩:Et) ([(⟨GP,(IntKind.i64.wrap (GP+1))⟩:Span)]:List Span)).bind fun (H4,_b90,_b91,LU)=>((bif LU then some (H4.Next,H4.Em,H4.Ek) else some (FU,FF,FQ))).bind fun (IE,H_,HK)=>some (Gl,Kd,Ke,IE,H_,HK))).bind fun (He,GF,Mj,Mk,Ft,Ff)=>some (LR.next ((IntKind.i64.wrap (FN+1)),He,GF,Mj,Mk,Ft,Ff)) else some (LR.done (GN,Hw,Fg,FU,FF,FQ)))
noncomputable def Lb (a0:ED):Option (Et×ED):=
 (Gv a0 16).bind fun (Fi,EA)=>(Jy Fi).bind fun (FI,_b11)=>(KS EA Fi).bind fun (ET,GQ)=>(eM (PH Fi ET) (0,GQ.Code,GQ.At,GQ.ES,FI.Next,FI.Em,FI.Ek)).bind fun (F1,Ga,FV,F2,FG,FC)=>(Hb (⟨F1,Ga,FV⟩:ED) 20).bind fun (Kf,I2)=>((bif Kf then (Gv I2 20).bind fun (Hf,I3)=>(app 8 FC ([Hf]:List Int)).bind fun RO=>some (I3.Code,I3.At,I3.ES,RO) else some (I2.Code,I2.At,I2.ES,FC))).bind fun (Ml,Ic,Mm,Ib)=>some ((⟨F2,FG,Ib⟩:Et),(⟨Ml,Ic,Mm⟩:ED))
noncomputable def Mn (a0:List Int) (a1:Int) (x:(Int)):Option (LR (Int) (LR Unit (Bool))):=
 match x with
 |(Ey)=>(bif (decide (Ey<(a0.length:Int))) then (idx a0 Ey).bind fun Ez=>((Jx Ez 0 (IntKind.i64.wrap (a1-1))).bind fun GD=>(bif (!GD) then some (true) else (dU a0 0 Ey).bind fun GN=>(J_ GN Ez).bind fun KW=>some (KW))).bind fun Gh=>(bif Gh then some (LR.done (LR.done false)) else some (LR.next ((IntKind.i64.wrap (Ey+1))))) else some (LR.done (LR.next ())))
noncomputable def Mo (a0:List Int) (a1:Int):Option (Bool):=
 (eM (Mn a0 a1) (0)).bind fun y=>match y with|LR.next ()=>some true|LR.done z=>some z
noncomputable def Mp (a0:List Span):Option (List Span×Bool):=
 (bif (decide (20<(a0.length:Int))) then some (([]:List Span),false) else some (a0,true))
noncomputable def N2 (a0:List Int) (x:((List Span)×Int)):Option (LR ((List Span)×Int) ((List Span))):=
 match x with
 |(EB,EU)=>(bif (decide (EU<(a0.length:Int))) then (idx a0 EU).bind fun G3=>(KY EB (⟨G3,(IntKind.i64.wrap (G3+1))⟩:Span)).bind fun GG=>some (LR.next (GG,(IntKind.i64.wrap (EU+1)))) else some (LR.done (EB)))
noncomputable def Mq (a0:List Int):Option (List Span×Bool):=
 (Mo a0 60).bind fun F7=>(bif (!F7) then some (([]:List Span),false) else (eM (N2 a0) ([],0)).bind fun E_=>(Mp E_).bind fun (Ie,HQ)=>some (Ie,HQ))
noncomputable def PI (x:((List Span)×Int×Int×(List Int)×Int×Int)):Option (LR ((List Span)×Int×Int×(List Int)×Int×Int) ((List Span)×(List Int)×Int×Int)):=
 match x with
 |(Fg,EY,Fm,FQ,Kg,IC)=>(bif (decide (0<EY)) then (Gv (⟨FQ,Kg,IC⟩:ED) 5).bind fun (Kh,RP)=>(app 16 Fg ([(⟨Fm,(IntKind.i64.wrap ((IntKind.i64.wrap (Fm+1))+Kh))⟩:Span)]:List Span)).bind fun Ft=>(Gv RP 4).bind fun (Ki,HO)=>some (LR.next (Ft,(IntKind.i64.wrap (EY-1)),(IntKind.i64.wrap ((IntKind.i64.wrap ((IntKind.i64.wrap ((IntKind.i64.wrap (Fm+1))+Kh))+1))+Ki)),HO.Code,HO.At,HO.ES)) else some (LR.done (Fg,FQ,Kg,IC)))
noncomputable def Mr (a0:ED):Option (List Span×ED):=
 (Gv a0 6).bind fun (Hs,Fi)=>(Hb Fi 20).bind fun (FI,HM)=>((bif FI then (Gv HM 3).bind fun (ET,GQ)=>some ((IntKind.i64.wrap (19+ET)),GQ.Code,GQ.At,GQ.ES) else some (Hs,HM.Code,HM.At,HM.ES))).bind fun (Fq,EU,E_,H7)=>(Gv (⟨EU,E_,H7⟩:ED) 4).bind fun (GD,IB)=>(eM (PI) ([],Fq,GD,IB.Code,IB.At,IB.ES)).bind fun (F1,FV,F2,FG)=>((bif (decide (0<(F1.length:Int))) then (Hb (⟨FV,F2,FG⟩:ED) 30).bind fun (Hy,N3)=>some (Hy,N3.Code,N3.At,N3.ES) else some (false,FV,F2,FG))).bind fun (Ms,Gi,Lc,Ld)=>((bif Ms then (idx F1 0).bind fun I4=>(idx F1 0).bind fun Gw=>some ((F1.set (0:Int).toNat (⟨Gw.En,(IntKind.i64.wrap (I4.To+3))⟩:Span))) else some (F1))).bind fun Mt=>some (Mt,(⟨Gi,Lc,Ld⟩:ED))
noncomputable def Mu (a0:List Int):Option (Et×List Span):=
 (Lb (⟨a0,0,0⟩:ED)).bind fun (E1,FI)=>(KS FI E1.Next).bind fun (FE,EW)=>(Mq FE).bind fun (I5,_b25)=>((bif (decide (2<(I5.length:Int))) then (Hb EW 2).bind fun (Ie,HQ)=>some (Ie,HQ.Code,HQ.At,HQ.ES) else some (false,EW.Code,EW.At,EW.ES))).bind fun (Fg,FU,FF,EY)=>((bif Fg then (Gv (⟨FU,FF,EY⟩:ED) 2).bind fun (RQ,N4)=>(dU I5 0 (IntKind.i64.wrap (1+RQ))).bind fun LS=>some (LS,N4.Code,N4.At,N4.ES) else some (I5,FU,FF,EY))).bind fun (F2,FG,FM,FC)=>(Hb (⟨FG,FM,FC⟩:ED) 12).bind fun (N5,Kh)=>((bif N5 then (Mr Kh).bind fun (JF,_b64)=>some (JF) else some (F2))).bind fun He=>some (E1,He)
noncomputable def Kj (a0:Int) (a1:Int) (a2:Int):Option (Bool):=
 (bif (decide (a1≤a0)) then some (decide (a0≤a2)) else some false)
noncomputable def Mw (a0:Span):Option (Bool):=
 (bif (decide (0≤a0.En)) then (bif (decide (a0.En<a0.To)) then some (decide (a0.To≤1000000)) else some false) else some false)
noncomputable def Mx (a0:List Span) (x:(Int)):Option (LR (Int) (LR Unit (Bool))):=
 match x with
 |(EO)=>(bif (decide (EO<(a0.length:Int))) then (idx a0 EO).bind fun ET=>((Mw ET).bind fun GG=>(bif (!GG) then some (true) else (bif (decide (0<EO)) then (idx a0 (IntKind.i64.wrap (EO-1))).bind fun G0=>some ((decide (ET.En≤G0.To))) else some (false)))).bind fun FN=>(bif FN then some (LR.done (LR.done false)) else some (LR.next ((IntKind.i64.wrap (EO+1))))) else some (LR.done (LR.next ())))
noncomputable def JG (a0:List Span):Option (Bool):=
 (bif (decide (20<(a0.length:Int))) then some false else (eM (Mx a0) (0)).bind fun y=>match y with|LR.next ()=>some true|LR.done z=>some z)
noncomputable def Le (a0:List Span) (a1:Int):Option (Bool):=
 (JG a0).bind fun b3=>(bif b3 then (bif ((a0.length:Int)==0) then some true else (idx a0 (IntKind.i64.wrap ((a0.length:Int)-1))).bind fun F7=>some (decide (F7.To≤a1))) else some false)
noncomputable def N6 (a0:Span) (a1:Int):Option (Bool):=
 (bif (decide (a0.En≤a1)) then some (decide (a1<a0.To)) else some false)
noncomputable def PJ (a0:List Span) (g1:Span→Option Bool) (x:(Int)):Option (LR (Int) (LR Unit (Int))):=
 match x with
 |(Ey)=>(bif (decide (Ey<(a0.length:Int))) then (idx a0 Ey).bind fun FE=>(g1 FE).bind fun EW=>(bif EW then some (LR.done (LR.done Ey)) else some (LR.next ((IntKind.i64.wrap (Ey+1))))) else some (LR.done (LR.next ())))
noncomputable def My (a0:List Span) (g1:Span→Option Bool):Option (Int):=
 (eM (PJ a0 g1) (0)).bind fun y=>match y with|LR.next ()=>some (-1)|LR.done z=>some z
noncomputable def Mz (a0:List Span) (g1:Span→Option Bool):Option (Bool):=
 (My a0 g1).bind fun b3=>some (decide (0≤b3))
noncomputable def I6 (a0:List Span) (a1:Int):Option (Bool):=
 (Mz a0 (fun PK=>N6 PK a1)).bind fun Hs=>some Hs
noncomputable def N7 (a0:Et) (x:(Int)):Option (LR (Int) (LR Unit (Bool))):=
 match x with
 |(Ht)=>(bif (decide (Ht<(a0.Ek.length:Int))) then (idx a0.Ek Ht).bind fun GG=>((Kj GG 0 (IntKind.i64.wrap (a0.Next-1))).bind fun Ie=>(bif (!Ie) then some (true) else (I6 a0.Em GG).bind fun HQ=>(bif HQ then some (true) else (bif (decide (0<Ht)) then (idx a0.Ek (IntKind.i64.wrap (Ht-1))).bind fun LQ=>some ((decide (GG≤LQ))) else some (false))))).bind fun Fm=>(bif Fm then some (LR.done (LR.done false)) else some (LR.next ((IntKind.i64.wrap (Ht+1))))) else some (LR.done (LR.next ())))
noncomputable def Hz (a0:Et):Option (Bool):=
 ((Kj a0.Next 0 60).bind fun HM=>(bif (!HM) then some (true) else (Le a0.Em a0.Next).bind fun L7=>some ((!L7)))).bind fun FJ=>(bif FJ then some false else (eM (N7 a0) (0)).bind fun y=>match y with|LR.next ()=>some true|LR.done z=>some z)
noncomputable def MA (a1:Int):Option (List Span):=
 ((bif (decide (a1<0)) then none else some ())).bind fun _=>((bif (decide (0<(IntKind.i64.wrap (a1-(IntKind.i64.wrap (0-0)))))) then (kn 16 (IntKind.i64.wrap (a1-(IntKind.i64.wrap (0-0)))) ((⟨0,0⟩:Span):Span)).bind fun Gh=>(dU Gh 0 0).bind fun RR=>some (RR) else some ([]))).bind fun EX=>some EX
noncomputable def MB (a0:List (List Span)) (x:(Int×Int)):Option (LR (Int×Int) (Int)):=
 match x with
 |(EF,FJ)=>(bif (decide (FJ<(a0.length:Int))) then ((idx a0 FJ).bind fun GD=>((bif (decide ((IntKind.i64.wrap (EF+(GD.length:Int)))<0)) then none else some ())).bind fun _=>some ((IntKind.i64.wrap (EF+(GD.length:Int))))).bind fun Gh=>some (LR.next (Gh,(IntKind.i64.wrap (FJ+1)))) else some (LR.done (EF)))
noncomputable def MC (a0:List (List Span)) (x:((List Span)×Int)):Option (LR ((List Span)×Int) ((List Span))):=
 match x with
 |(FG,Gx)=>(bif (decide (Gx<(a0.length:Int))) then (idx a0 Gx).bind fun H8=>(app 16 FG H8).bind fun Ft=>some (LR.next (Ft,(IntKind.i64.wrap (Gx+1)))) else some (LR.done (FG)))
noncomputable def MD (a0:List (List Span)):Option (List Span):=
 (eM (MB a0) (0,0)).bind fun EO=>(MA EO).bind fun Fx=>(eM (MC a0) (Fx,0)).bind fun Ia=>some Ia
noncomputable def ME (a0:List Span):Option (List Span):=
 app 16 [] a0
def RS (x:Span):List Int:=[x.En,x.To]
def RT:List Int→Span
 |[a,b]=>⟨a,b⟩
 |_=>⟨0,0⟩
noncomputable def PM (a0:List Span):Option (List Span):=
 nH 2 RS RT a0
noncomputable def MF (EA:List Span) (x:((List Span)×Int)):Option (LR ((List Span)×Int) ((List Span))):=
 match x with
 |(EB,EU)=>(bif (decide (EU<(EA.length:Int))) then ((idx EA EU).bind fun Fx=>((bif (decide (0≤(IntKind.i64.wrap ((EB.length:Int)-1)))) then (idx EB (IntKind.i64.wrap ((EB.length:Int)-1))).bind fun N8=>some ((decide (Fx.En≤N8.To))) else some (false))).bind fun FC=>(bif FC then (idx EB (IntKind.i64.wrap ((EB.length:Int)-1))).bind fun I7=>(idx EB (IntKind.i64.wrap ((EB.length:Int)-1))).bind fun JH=>some ((EB.set (IntKind.i64.wrap ((EB.length:Int)-1)).toNat (⟨JH.En,(if Fx.To>I7.To then Fx.To else I7.To)⟩:Span))) else (app 16 EB ([Fx]:List Span)).bind fun He=>some (He))).bind fun Fg=>some (LR.next (Fg,(IntKind.i64.wrap (EU+1)))) else some (LR.done (EB)))
noncomputable def Lf (a0:List Span):Option (List Span):=
 (ME a0).bind fun b3=>(PM b3).bind fun EA=>(eM (MF EA) ([],0)).bind fun E_=>some E_
noncomputable def Lg (a0:List Span):Option (List Span×Bool):=
 (bif (decide (20<(a0.length:Int))) then some (([]:List Span),false) else some (a0,true))
noncomputable def MH (a0:List Span) (a1:List Span):Option (List Span×Bool):=
 ((JG a0).bind fun E1=>(bif (!E1) then some (true) else (JG a1).bind fun FI=>some ((!FI)))).bind fun Ey=>(bif Ey then some (([]:List Span),false) else (MD ([a0,a1]:List (List Span))).bind fun Gb=>(Lf Gb).bind fun EW=>(Lg EW).bind fun (GD,IB)=>some (GD,IB))
noncomputable def Lh (a0:List Int):Option (List Int):=
 app 8 [] a0
noncomputable def JI (a0:Int) (a1:List Span):Option (Bool):=
 (I6 a1 a0).bind fun b3=>some b3
noncomputable def PN (a0:List Int) (g1:Int→Option Bool) (x:(Int)):Option (LR (Int) (LR Unit (Int))):=
 match x with
 |(Ey)=>(bif (decide (Ey<(a0.length:Int))) then (idx a0 Ey).bind fun FE=>(g1 FE).bind fun EW=>(bif EW then some (LR.done (LR.done Ey)) else some (LR.next ((IntKind.i64.wrap (Ey+1))))) else some (LR.done (LR.next ())))
noncomputable def MI (a0:List Int) (g1:Int→Option Bool):Option (Int):=
 (eM (PN a0 g1) (0)).bind fun y=>match y with|LR.next ()=>some (-1)|LR.done z=>some z
noncomputable def N9 (a2:List Span) (x:((List Int)×Int×Int)):Option (LR ((List Int)×Int×Int) ((List Int)×Int)):=
 match x with
 |(Fj,EB,EX)=>(bif (decide (EX<(Fj.length:Int))) then ((idx Fj EX).bind fun HN=>(JI HN a2).bind fun Fx=>((bif (!Fx) then (idx Fj EB).bind fun _b43=>some ((Fj.set EB.toNat HN),(IntKind.i64.wrap (EB+1))) else some (Fj,EB))).bind fun (F1,Ga)=>some (F1,Ga)).bind fun (GN,Hw)=>some (LR.next (GN,Hw,(IntKind.i64.wrap (EX+1)))) else some (LR.done (Fj,EB)))
noncomputable def MJ (a0:List Int) (a2:List Span):Option (List Int):=
 (MI a0 (fun PK=>JI PK a2)).bind fun b3=>(bif (b3==(-1)) then some a0 else (eM (N9 a2) (a0,b3,(IntKind.i64.wrap (b3+1)))).bind fun (Fq,EU)=>(dU Fq EU (Fq.length:Int)).bind fun RU=>(dU (iW Fq EU RU (0:Int)) 0 EU).bind fun RV=>some RV)
noncomputable def N_ (a0:List Int) (a1:Int) (x:(Int)):Option (LR (Int) (LR Unit (Int))):=
 match x with
 |(Ey)=>(bif (decide (Ey<(a0.length:Int))) then (idx a0 Ey).bind fun FE=>(bif (a1==FE) then some (LR.done (LR.done Ey)) else some (LR.next ((IntKind.i64.wrap (Ey+1))))) else some (LR.done (LR.next ())))
noncomputable def Oa (a0:List Int) (a1:Int):Option (Int):=
 (eM (N_ a0 a1) (0)).bind fun y=>match y with|LR.next ()=>some (-1)|LR.done z=>some z
noncomputable def MK (a0:List Int) (a1:Int):Option (Bool):=
 (Oa a0 a1).bind fun b3=>some (decide (0≤b3))
noncomputable def ML (a0:Et) (x:((List Int)×Int)):Option (LR ((List Int)×Int) ((List Int))):=
 match x with
 |(EF,EH)=>(bif (decide (EH<a0.Next)) then (((I6 a0.Em EH).bind fun Fx=>(bif (!Fx) then (MK a0.Ek EH).bind fun Hg=>some ((!Hg)) else some (false))).bind fun FF=>((bif FF then (app 8 EF ([EH]:List Int)).bind fun Gy=>some (Gy) else some (EF))).bind fun Ga=>some (Ga)).bind fun HI=>some (LR.next (HI,(IntKind.i64.wrap (EH+1)))) else some (LR.done (EF)))
noncomputable def I8 (a0:Et):Option (List Int):=
 (eM (ML a0) ([],0)).bind fun Fj=>some Fj
def slices_Sort_int (a0:List Int):Option (List Int):=
 xd a0
noncomputable def Ob (a0:Et) (Ez:List Span) (x:((List Int)×Int)):Option (LR ((List Int)×Int) ((List Int))):=
 match x with
 |(Fg,EY)=>(bif (decide (EY<a0.Next)) then (((I6 Ez EY).bind fun LV=>(bif LV then (I6 a0.Em EY).bind fun H8=>some ((!H8)) else some (false))).bind fun MN=>((bif MN then (app 8 Fg ([EY]:List Int)).bind fun RW=>some (RW) else some (Fg))).bind fun Ft=>some (Ft)).bind fun Gy=>some (LR.next (Gy,(IntKind.i64.wrap (EY+1)))) else some (LR.done (Fg)))
noncomputable def MO (Hc:Span) (F8:List Int) (x:((List Int)×Int)):Option (LR ((List Int)×Int) ((List Int))):=
 match x with
 |(I9,IF)=>(bif (decide (IF<(F8.length:Int))) then ((idx F8 IF).bind fun Kf=>((bif (decide ((IntKind.i64.wrap (Kf+3))≤(IntKind.i64.wrap (Hc.To-1)))) then (app 8 I9 ([Kf]:List Int)).bind fun RX=>some (RX) else some (I9))).bind fun Ic=>some (Ic)).bind fun MP=>some (LR.next (MP,(IntKind.i64.wrap (IF+1)))) else some (LR.done (I9)))
noncomputable def Kk (a0:Et) (a1:List Span):Option (Et×List Int×List Int×Bool):=
 ((Hz a0).bind fun Hd=>(bif (!Hd) then some (true) else (Le a1 a0.Next).bind fun La=>some ((!La)))).bind fun EH=>(bif EH then some ((⟨0,([]:List Span),([]:List Int)⟩:Et),[],[],false) else (MH a0.Em a1).bind fun (Ez,FE)=>(bif (!FE) then some ((⟨0,([]:List Span),([]:List Int)⟩:Et),[],[],false) else (eM (Ob a0 Ez) ([],0)).bind fun Fm=>(Lh a0.Ek).bind fun MQ=>(MJ MQ Ez).bind fun Hy=>((bif (decide (0<(Ez.length:Int))) then (idx Ez (IntKind.i64.wrap ((Ez.length:Int)-1))).bind fun Hc=>(I8 (⟨a0.Next,Ez,Hy⟩:Et)).bind fun F8=>(eM (MO Hc F8) ([],0)).bind fun MR=>some (MR) else some ([]))).bind fun Li=>(app 8 Hy Li).bind fun RY=>(slices_Sort_int RY).bind fun Oc=>some ((⟨a0.Next,Ez,Oc⟩:Et),Fm,Li,true)))
noncomputable def Kl (a0:Et):Option (List Int×Bool):=
 (Hz a0).bind fun Fi=>(bif (!Fi) then some ([],false) else (I8 a0).bind fun E1=>some (E1,true))
noncomputable def Od (a0:Et) (x:((List Int)×Int)):Option (LR ((List Int)×Int) ((List Int))):=
 match x with
 |(EO,EB)=>(bif (decide (EB<a0.Next)) then (((IY a0.Em EB).bind fun Hg=>(bif (!Hg) then (J_ a0.Ek EB).bind fun Ie=>some ((!Ie)) else some (false))).bind fun EY=>((bif EY then (app 8 EO ([EB]:List Int)).bind fun RZ=>some (RZ) else some (EO))).bind fun FV=>some (FV)).bind fun FN=>some (LR.next (FN,(IntKind.i64.wrap (EB+1)))) else some (LR.done (EO)))
noncomputable def MS (a0:Et):Option (List Int):=
 (eM (Od a0) ([],0)).bind fun EX=>some EX
noncomputable def MT (a0:Et):Option (List Int×Bool):=
 (JD a0).bind fun Fi=>(bif (!Fi) then some ([],false) else (MS a0).bind fun E1=>some (E1,true))
noncomputable def MU (a0:List Span) (a1:List Span) (x:(Int)):Option (LR (Int) (LR Unit (Bool))):=
 match x with
 |(EO)=>(bif (decide (EO<(a0.length:Int))) then (idx a0 EO).bind fun GQ=>(idx a1 EO).bind fun JJ=>(bif (!((GQ.En==JJ.En)&&((GQ.To==JJ.To)&&true))) then some (LR.done (LR.done false)) else some (LR.next ((IntKind.i64.wrap (EO+1))))) else some (LR.done (LR.next ())))
noncomputable def MV (a0:List Span) (a1:List Span):Option (Bool):=
 (bif ((a0.length:Int) !=(a1.length:Int)) then some false else (eM (MU a0 a1) (0)).bind fun y=>match y with|LR.next ()=>some true|LR.done z=>some z)
noncomputable def MW (a0:List Int) (a1:List Int) (x:(Int)):Option (LR (Int) (LR Unit (Bool))):=
 match x with
 |(EO)=>(bif (decide (EO<(a0.length:Int))) then (idx a0 EO).bind fun GQ=>(idx a1 EO).bind fun JJ=>(bif (GQ !=JJ) then some (LR.done (LR.done false)) else some (LR.next ((IntKind.i64.wrap (EO+1))))) else some (LR.done (LR.next ())))
noncomputable def JK (a0:List Int) (a1:List Int):Option (Bool):=
 (bif ((a0.length:Int) !=(a1.length:Int)) then some false else (eM (MW a0 a1) (0)).bind fun y=>match y with|LR.next ()=>some true|LR.done z=>some z)
noncomputable def If (a0:Et) (a1:Et):Option (Bool):=
 (bif (a0.Next==a1.Next) then (MV a0.Em a1.Em).bind fun EA=>(bif EA then (JK a0.Ek a1.Ek).bind fun Fo=>some Fo else some false) else some false)
noncomputable def MX (a0:List Span) (x:(Int×Int)):Option (LR (Int×Int) (Int)):=
 match x with
 |(EF,FJ)=>(bif (decide (FJ<(a0.length:Int))) then (idx a0 FJ).bind fun ET=>some (LR.next ((IntKind.i64.wrap (EF+(IntKind.i64.wrap (ET.To-ET.En)))),(IntKind.i64.wrap (FJ+1)))) else some (LR.done (EF)))
noncomputable def MY (a0:List Span):Option (Int):=
 (eM (MX a0) (0,0)).bind fun EO=>some EO
noncomputable def JL (a0:List Span):Option (Int×Bool):=
 (JG a0).bind fun F7=>(bif (!F7) then some (0,false) else (MY a0).bind fun EA=>some (EA,true))
noncomputable def Oe (a0:List Int) (a1:Int) (x:(Int)):Option (LR (Int) (LR Unit (Bool))):=
 match x with
 |(Ey)=>(bif (decide (Ey<(a0.length:Int))) then (idx a0 Ey).bind fun Ez=>(bif (Ez==a1) then some (LR.done (LR.done true)) else some (LR.next ((IntKind.i64.wrap (Ey+1))))) else some (LR.done (LR.next ())))
noncomputable def MZ (a0:List Int) (a1:Int):Option (Bool):=
 (eM (Oe a0 a1) (0)).bind fun y=>match y with|LR.next ()=>some false|LR.done z=>some z
noncomputable def M0 (a0:List Int):Option (Et):=
 (Lb (⟨a0,0,0⟩:ED)).bind fun (E1,FI)=>(Hb FI 20).bind fun (EW,_b21)=>((bif EW then some (60) else some (E1.Next))).bind fun Gk=>some (⟨Gk,E1.Em,E1.Ek⟩:Et)
noncomputable def M1 (a0:Et):Option (Et×Int×Bool):=
 ((Hz a0).bind fun Hd=>(bif (!Hd) then some (true) else some ((a0.Next==60)))).bind fun EH=>(bif EH then some ((⟨0,[],[]⟩:Et),0,false) else (ME a0.Em).bind fun Gb=>(Lh a0.Ek).bind fun EW=>some ((⟨(IntKind.i64.wrap (a0.Next+1)),Gb,EW⟩:Et),a0.Next,true))
noncomputable def M2 (a0:Et):Option (Et×Int×Bool):=
 ((JD a0).bind fun Hd=>(bif (!Hd) then some (true) else some ((a0.Next==60)))).bind fun EH=>(bif EH then some ((⟨0,[],[]⟩:Et),0,false) else (KZ a0).bind fun Gb=>some ((⟨(IntKind.i64.wrap (Gb.Next+1)),Gb.Em,Gb.Ek⟩:Et),a0.Next,true))
noncomputable def M3 (a0:List Int):Option (Int):=
 (J7 (⟨a0,0,0⟩:ED) ([-1,0,7,60,61]:List Int)).bind fun (E1,_b10)=>some E1
noncomputable def M4 (a0:Int):Option (Et×Bool):=
 (Kj a0 0 60).bind fun Fi=>(bif (!Fi) then some ((⟨0,[],[]⟩:Et),false) else some ((⟨a0,[],[]⟩:Et),true))
noncomputable def M5 (Hh:List Int) (I_:List Int) (x:(Int)):Option (LR (Int) (LR Unit (LR Unit (Bool)))):=
 match x with
 |(IE)=>(bif (decide (IE<(I_.length:Int))) then (idx I_ IE).bind fun PO=>(MZ Hh PO).bind fun I2=>(bif (!I2) then some (LR.done (LR.done (LR.done false))) else some (LR.next ((IntKind.i64.wrap (IE+1))))) else some (LR.done (LR.next ())))
noncomputable def M6 (a0:List Int) (a1:List Int):Option (Bool):=
 (bif (decide (1048576<(IntKind.i64.wrap ((a0.length:Int)+(a1.length:Int))))) then some true else (Mu a0).bind fun (EA,Fo)=>(Kk EA Fo).bind fun (Fp,Ez,FE,EW)=>(K_ EA Fo).bind fun (G3,GG,G0,HN)=>(Kl EA).bind fun (Hh,Lj)=>(MT EA).bind fun (PP,JH)=>((bif (!(EW==HN)) then some (true) else (If Fp G3).bind fun IZ=>(bif (!IZ) then some (true) else (JK Ez GG).bind fun JF=>(bif (!JF) then some (true) else (JK FE G0).bind fun Ki=>(bif (!Ki) then some (true) else (bif (!(Lj==JH)) then some (true) else (JK Hh PP).bind fun HO=>(bif (!HO) then some (true) else (Hz EA).bind fun I0=>some ((!(I0==JH)))))))))).bind fun GF=>(bif GF then some false else ((bif EW then (Kl Fp).bind fun (JM,Og)=>(JL Fp.Em).bind fun (Ja,Kc)=>(JL EA.Em).bind fun (I4,Lk)=>((Hz Fp).bind fun Oh=>(bif (!Oh) then some (true) else (bif (!Og) then some (true) else (bif (!Kc) then some (true) else (bif (!Lk) then some (true) else (bif (Ja !=(IntKind.i64.wrap (I4+(Ez.length:Int)))) then some (true) else some (((IntKind.i64.wrap ((IntKind.i64.wrap (Ja+(Fp.Ek.length:Int)))+(JM.length:Int))) !=Fp.Next)))))))).bind fun Km=>(bif Km then some (LR.done false) else (app 8 ([]:List Int) FE).bind fun M7=>(app 8 M7 JM).bind fun I_=>(eM (M5 Hh I_) (0)).bind fun y=>match y with|LR.next ()=>(Kk Fp Fo).bind fun (Hf,I3,M8,Oi)=>((bif (!Oi) then some (true) else (If Hf Fp).bind fun Oj=>(bif (!Oj) then some (true) else (bif (decide (0<(I3.length:Int))) then some (true) else some ((decide (0<(M8.length:Int)))))))).bind fun Kn=>(bif Kn then some (LR.done false) else some (LR.next ()))|LR.done z=>some z) else some (LR.next ()))).bind fun y=>match y with|LR.next ()=>(M0 a1).bind fun HR=>(M1 HR).bind fun (Ig,PQ,PR)=>(M2 HR).bind fun (Ko,R0,R1)=>(M3 a1).bind fun PS=>(M4 PS).bind fun (Kp,R2)=>(Jy PS).bind fun (Kq,R3)=>(bif (PR==R1) then (bif (PQ==R0) then (If Ig Ko).bind fun M9=>(bif M9 then (bif (R2==R3) then (If Kp Kq).bind fun M_=>(bif M_ then (bif (!PR) then some true else (Hz Ig).bind fun Na=>(bif Na then some (PQ==HR.Next) else some false)) else some false) else some false) else some false) else some false) else some false)|LR.done z=>some z))
end Go.GC
