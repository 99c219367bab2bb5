import Derived.Test.YtmmomohapflagaaVaE
open Go Go.VS
set_option maxRecDepth 8000
namespace Go.Gq
structure Hello where
 Kind:Int
 X:Int
 Y:Int
structure C5 where
 C0:Int
 CY:Int
 X:Int
 Y:Int
 C1:Int
 CZ:Int
 CW:Int
 CX:Int
 C2:List Hello
 C3:List Hello
 C4:List Hello
structure Dc where
 Kind:Int
 K:Int
structure Du where
 Code:List Int
 Ds:Int
 Dw:Int
noncomputable def KE (a0:Du):Option (Int×Du):=
 ((bif (decide (a0.Ds<(a0.Code.length:Int))) then (idx a0.Code a0.Ds).bind fun DP=>some ((IntKind.i64.wrap DP)) else some (0))).bind fun EL=>(bif (decide ((IntKind.i64.wrap (a0.Ds+1))≤(a0.Code.length:Int))) then some (EL,(⟨a0.Code,(IntKind.i64.wrap (a0.Ds+1)),(IntKind.u64.wrap ((IntKind.u64.wrap ((IntKind.u64.wrap (a0.Dw*6364136223846793005))+(IntKind.u64.wrap EL)))+1442695040888963407))⟩:Du)) else some ((IntKind.i64.wrap (y6 .u64 (tY .u64 (IntKind.u64.wrap ((IntKind.u64.wrap ((IntKind.u64.wrap (a0.Dw*6364136223846793005))+(IntKind.u64.wrap EL)))+1442695040888963407)) 40) 255)),(⟨a0.Code,(IntKind.i64.wrap (a0.Ds+1)),(IntKind.u64.wrap ((IntKind.u64.wrap ((IntKind.u64.wrap (a0.Dw*6364136223846793005))+(IntKind.u64.wrap EL)))+1442695040888963407))⟩:Du)))
noncomputable def Fa (a0:Du) (a1:Int):Option (Int×Du):=
 (bif (decide (a1≤1)) then some (0,a0) else (KE a0).bind fun (C9,Dr)=>((bif (decide (200<a1)) then (KE Dr).bind fun (Fj,De)=>some ((IntKind.i64.wrap ((IntKind.i64.wrap (C9*256))+Fj)),De.Code,De.Ds,De.Dw) else some (C9,Dr.Code,Dr.Ds,Dr.Dw))).bind fun (FY,Ei,Gr,EF)=>(md FY a1).bind fun Ed=>some (Ed,(⟨Ei,Gr,EF⟩:Du)))
noncomputable def Jd (a0:Du) (a1:Int):Option (Bool×Du):=
 (Fa a0 a1).bind fun (HH,DQ)=>some ((HH==0),DQ)
noncomputable def JU (a0:Du) (a1:List Int):Option (Int×Du):=
 (Fa a0 (a1.length:Int)).bind fun (HH,DQ)=>(idx a1 HH).bind fun Fb=>some (Fb,DQ)
noncomputable def Ha (a0:Int) (a1:Int) (a2:Int):Option (Bool):=
 (bif (decide (a1≤a0)) then some (decide (a0≤a2)) else some false)
noncomputable def Ok (x:((List Dc)×Int×(List Int)×Int×Int)):Option (LR ((List Dc)×Int×(List Int)×Int×Int) ((List Dc)×(List Int)×Int×Int)):=
 match x with
 |(DL,D5,D8,DS,DU)=>(bif (decide (0<D5)) then (JU (⟨D8,DS,DU⟩:Du) ([1,2,2,2,2,2,2,3,4,4,5,6]:List Int)).bind fun (HI,L5)=>(Ha HI 2 4).bind fun JV=>((bif JV then (Fa L5 4).bind fun (KF,Je)=>some (Je.Code,Je.Ds,Je.Dw,KF) else some (L5.Code,L5.Ds,L5.Dw,0))).bind fun (EU,DR,EY,Ej)=>((bif (HI==6) then (Fa (⟨EU,DR,EY⟩:Du) 2).bind fun (KG,Fz)=>some (Fz.Code,Fz.Ds,Fz.Dw,KG) else some (EU,DR,EY,Ej))).bind fun (Et,Fo,FA,DV)=>(app 16 DL ([(⟨HI,DV⟩:Dc)]:List Dc)).bind fun Jf=>some (LR.next (Jf,(IntKind.i64.wrap (D5-1)),Et,Fo,FA)) else some (LR.done (DL,D8,DS,DU)))
noncomputable def KH (a0:Du):Option (List Dc×Du):=
 (Fa a0 30).bind fun (DQ,Fb)=>(Jd Fb 12).bind fun (DP,C_)=>((bif DP then (Fa C_ 3).bind fun (De,DK)=>some ((IntKind.i64.wrap (119+De)),DK.Code,DK.Ds,DK.Dw) else some (DQ,C_.Code,C_.Ds,C_.Dw))).bind fun (Ei,Gr,EF,L6)=>(eT (Ok) ([],Ei,Gr,EF,L6)).bind fun (DM,EG,Ee,Dt)=>((bif (decide (0<(DM.length:Int))) then (Jd (⟨EG,Ee,Dt⟩:Du) 20).bind fun (Sb,F0)=>some (Sb,F0.Code,F0.Ds,F0.Dw) else some (false,EG,Ee,Dt))).bind fun (L7,Hb,Hc,Hd)=>((bif L7 then (Fa (⟨Hb,Hc,Hd⟩:Du) 8).bind fun (DW,D9)=>(Fa D9 4).bind fun (Ol,Om)=>(idx DM 0).bind fun _b117=>some ((DM.set (0:Int).toNat (⟨DW,(IntKind.i64.wrap (Ol-1))⟩:Dc)),Om.Code,Om.Ds,Om.Dw) else some (DM,Hb,Hc,Hd))).bind fun (Gs,HJ,HK,ID)=>some (Gs,(⟨HJ,HK,ID⟩:Du))
noncomputable def IE:Option (C5):=
 some (⟨0,0,0,0,0,0,100,0,[],[],[]⟩:C5)
noncomputable def He (a0:C5):Option (C5):=
 (app 24 ([]:List Hello) a0.C2).bind fun L8=>(app 24 ([]:List Hello) a0.C3).bind fun Gr=>(app 24 ([]:List Hello) a0.C4).bind fun Ef=>some (⟨a0.C0,a0.CY,a0.X,a0.Y,a0.C1,a0.CZ,a0.CW,a0.CX,L8,Gr,Ef⟩:C5)
noncomputable def Jg (a0:C5) (a1:Hello):Option (C5):=
 ((bif (decide ((a0.C2.length:Int)<30)) then (app 24 a0.C2 ([a1]:List Hello)).bind fun IF=>some (IF) else some (a0.C2))).bind fun Jh=>some (⟨a0.C0,a0.CY,a0.X,a0.Y,a0.C1,a0.CZ,a0.CW,a0.CX,Jh,a0.C3,a0.C4⟩:C5)
noncomputable def On (a0:C5):Option (C5):=
 some (⟨a0.C0,0,a0.X,0,0,a0.CZ,a0.CW,a0.CX,a0.C2,a0.C3,a0.C4⟩:C5)
noncomputable def KI (a0:List Hello) (a1:Int) (a2:Int):Option (List Hello):=
 (bif ((a0.length:Int)==300) then some a0 else (app 24 a0 ([(⟨3,a1,a2⟩:Hello)]:List Hello)).bind fun L8=>some L8)
noncomputable def L9 (a0:C5) (a1:Hello):Option (C5):=
 (bif (a1.Kind==1) then ((bif (a0.CY==2) then some (true) else some ((a0.CX==1000)))).bind fun EF=>(bif EF then some a0 else (Jg (⟨a0.C0,1,a0.X,(IntKind.i64.wrap (a0.CX+1)),a1.X,a0.CZ,a0.CW,(IntKind.i64.wrap (a0.CX+1)),a0.C2,a0.C3,a0.C4⟩:C5) (⟨2,a1.X,(IntKind.i64.wrap (a0.CX+1))⟩:Hello)).bind fun DB=>some DB) else (bif (a1.Kind==2) then ((bif (a0.C0==1) then some ((a0.X==a1.X)) else some (false))).bind fun Dt=>((bif Dt then (KI a0.C3 a1.X a1.Y).bind fun Dv=>some (2,a1.Y,Dv) else some (a0.C0,a0.CZ,a0.C3))).bind fun (FB,EH,GL)=>((bif (FB==2) then (bif (a0.X==a1.X) then some ((EH==a1.Y)) else some (false)) else some (false))).bind fun FC=>(bif FC then (Jg (⟨FB,a0.CY,a0.X,a0.Y,a0.C1,EH,a0.CW,a0.CX,a0.C2,GL,a0.C4⟩:C5) (⟨3,a1.X,a1.Y⟩:Hello)).bind fun EM=>some EM else some (⟨FB,a0.CY,a0.X,a0.Y,a0.C1,EH,a0.CW,a0.CX,a0.C2,GL,a0.C4⟩:C5)) else ((bif (a0.CY==1) then (bif (a0.C1==a1.X) then some ((a0.Y==a1.Y)) else some (false)) else some (false))).bind fun Et=>((bif Et then (KI a0.C4 a1.X a1.Y).bind fun GM=>some (2,GM) else some (a0.CY,a0.C4))).bind fun (D0,EV)=>some (⟨a0.C0,D0,a0.X,a0.Y,a0.C1,a0.CZ,a0.CW,a0.CX,a0.C2,a0.C3,EV⟩:C5)))
noncomputable def HL (a0:C5) (a1:Dc):Option (C5×Bool):=
 (bif (a1.Kind==1) then ((bif (a1.K !=0) then some (true) else some ((a0.CW==1000)))).bind fun EF=>(bif EF then some (a0,false) else (Jg (⟨1,a0.CY,(IntKind.i64.wrap (a0.CW+1)),a0.Y,a0.C1,0,(IntKind.i64.wrap (a0.CW+1)),a0.CX,a0.C2,a0.C3,a0.C4⟩:C5) (⟨1,(IntKind.i64.wrap (a0.CW+1)),0⟩:Hello)).bind fun DB=>some (DB,true)) else (bif (a1.Kind==5) then ((bif (a1.K !=0) then some (true) else some ((a0.CY !=1)))).bind fun Dt=>(bif Dt then some (a0,false) else (On a0).bind fun Eg=>some (Eg,true)) else (bif (a1.Kind==6) then (bif (a1.K==0) then some ((⟨0,a0.CY,0,a0.Y,a0.C1,0,a0.CW,a0.CX,a0.C2,a0.C3,a0.C4⟩:C5),true) else (bif (a1.K==1) then (On a0).bind fun Fp=>some (Fp,true) else some (a0,false))) else ((bif (decide (a1.K<0)) then some (true) else (bif (decide ((a0.C2.length:Int)≤a1.K)) then some (true) else (Ha a1.Kind 2 4).bind fun Qd=>some ((!Qd))))).bind fun Fq=>(bif Fq then some (a0,false) else (idx a0.C2 a1.K).bind fun GN=>(bif (a1.Kind==4) then (bif ((a0.C2.length:Int)==30) then some (a0,false) else (Jg a0 GN).bind fun FN=>some (FN,true)) else (eu a0.C2 0 a1.K).bind fun Ji=>(app 24 ([]:List Hello) Ji).bind fun IG=>(eu a0.C2 (IntKind.i64.wrap (a1.K+1)) (a0.C2.length:Int)).bind fun Gs=>(app 24 IG Gs).bind fun ID=>(bif (a1.Kind==2) then (L9 (⟨a0.C0,a0.CY,a0.X,a0.Y,a0.C1,a0.CZ,a0.CW,a0.CX,ID,a0.C3,a0.C4⟩:C5) GN).bind fun DW=>some (DW,true) else some ((⟨a0.C0,a0.CY,a0.X,a0.Y,a0.C1,a0.CZ,a0.CW,a0.CX,ID,a0.C3,a0.C4⟩:C5),true)))))))
noncomputable def KJ (a0:List Dc) (x:((List Bool)×Int×Int×Int×Int×Int×Int×Int×Int×Int×(List Hello)×(List Hello)×(List Hello))):Option (LR ((List Bool)×Int×Int×Int×Int×Int×Int×Int×Int×Int×(List Hello)×(List Hello)×(List Hello)) ((List Bool)×Int×Int×Int×Int×Int×Int×Int×Int×(List Hello)×(List Hello)×(List Hello))):=
 match x with
 |(En,Ed,DL,D1,Eu,D5,D8,DS,DU,DM,EZ,Dt,FD)=>(bif (decide (Ed<(a0.length:Int))) then (idx a0 Ed).bind fun KK=>(He (⟨DL,D1,Eu,D5,D8,DS,DU,DM,EZ,Dt,FD⟩:C5)).bind fun F1=>(HL F1 KK).bind fun (DI,GM)=>((bif GM then some (DI.C0,DI.CY,DI.X,DI.Y,DI.C1,DI.CZ,DI.CW,DI.CX,DI.C2,DI.C3,DI.C4) else some (DL,D1,Eu,D5,D8,DS,DU,DM,EZ,Dt,FD))).bind fun (HM,L_,IG,Ma,Mb,Mc,Gs,HJ,HK,D6,HN)=>(app 1 En ([GM]:List Bool)).bind fun Jj=>some (LR.next (Jj,(IntKind.i64.wrap (Ed+1)),HM,L_,IG,Ma,Mb,Mc,Gs,HJ,HK,D6,HN)) else some (LR.done (En,DL,D1,Eu,D5,D8,DS,DU,DM,EZ,Dt,FD)))
noncomputable def Md (a0:List Dc):Option (C5×List Bool×Bool):=
 (bif (decide (120<(a0.length:Int))) then some ((⟨0,0,0,0,0,0,0,0,[],[],[]⟩:C5),[],false) else (IE).bind fun Dr=>(eT (KJ a0) ([],0,Dr.C0,Dr.CY,Dr.X,Dr.Y,Dr.C1,Dr.CZ,Dr.CW,Dr.CX,Dr.C2,Dr.C3,Dr.C4)).bind fun (EH,GP,Fc,GQ,E2,Gt,Gu,Gv,Gw,Fs,Ft,Hf)=>(He (⟨GP,Fc,GQ,E2,Gt,Gu,Gv,Gw,Fs,Ft,Hf⟩:C5)).bind fun D_=>some (D_,EH,true))
noncomputable def JW (a0:Du):Option (C5×Du):=
 (KH a0).bind fun (Fb,C9)=>(Md Fb).bind fun (C_,_b12,FE)=>((bif (!FE) then (IE).bind fun Dv=>some (Dv.C0,Dv.CY,Dv.X,Dv.Y,Dv.C1,Dv.CZ,Dv.CW,Dv.CX,Dv.C2,Dv.C3,Dv.C4) else some (C_.C0,C_.CY,C_.X,C_.Y,C_.C1,C_.CZ,C_.CW,C_.CX,C_.C2,C_.C3,C_.C4))).bind fun (DU,DM,EZ,EG,Ee,Dt,F2,Fe,FD,EH,Fc)=>(Fa C9 30).bind fun (Oo,EM)=>(((bif (Oo==0) then (JU EM ([0,1000,1001]:List Int)).bind fun (JX,JY)=>some (JY.Code,JY.Ds,JY.Dw,DM,JX,FD) else ((bif (Oo==1) then (Fa EM 4).bind fun (JZ,F3)=>some (F3.Code,F3.Ds,F3.Dw,JZ,FD) else ((bif (Oo==2) then (Fa EM 3).bind fun (Qe,Sc)=>(Fa Sc 103).bind fun (Qf,Sd)=>(Fa Sd 3).bind fun (Qg,D_)=>(app 24 FD ([(⟨(IntKind.i64.wrap (1+Qe)),Qf,Qg⟩:Hello)]:List Hello)).bind fun Se=>some (D_.Code,D_.Ds,D_.Dw,Se) else some (EM.Code,EM.Ds,EM.Dw,FD))).bind fun (D6,Me,Mf,HN)=>some (D6,Me,Mf,DM,HN))).bind fun (Hb,Hc,Hd,Ji,HM)=>some (Hb,Hc,Hd,Ji,F2,HM))).bind fun (DV,FF,D0,EV,E6,F4)=>some (DV,FF,D0,EV,E6,F4)).bind fun (EI,DX,Fu,Gx,Ev,FO)=>some ((⟨DU,Gx,EZ,EG,Ee,Dt,Ev,Fe,FO,EH,Fc⟩:C5),(⟨EI,DX,Fu⟩:Du))
noncomputable def Mg (a0:List Int):Option (C5×Dc):=
 (JW (⟨a0,0,0⟩:Du)).bind fun (C_,IH)=>(KH IH).bind fun (EW,_b24)=>(bif ((EW.length:Int)==0) then some (C_,(⟨1,0⟩:Dc)) else (idx EW 0).bind fun Jk=>some (C_,Jk))
noncomputable def Mh (a0:List Hello):Option (List Hello):=
 app 24 [] a0
noncomputable def KL (a0:C5):Option (C5):=
 (Mh a0.C2).bind fun C9=>(Mh a0.C3).bind fun C_=>(Mh a0.C4).bind fun Qh=>some (⟨a0.C0,a0.CY,a0.X,a0.Y,a0.C1,a0.CZ,a0.CW,a0.CX,C9,C_,Qh⟩:C5)
noncomputable def Hg (a0:Int) (a1:Int) (a2:Int):Option (Bool):=
 (bif (decide (a1≤a0)) then some (decide (a0≤a2)) else some false)
noncomputable def Hh (a0:C5) (a1:Int) (a2:Int):Option (Bool):=
 (Hg a1 1 a0.CW).bind fun b3=>(bif b3 then (Hg a2 1 a0.CX).bind fun HH=>some HH else some false)
noncomputable def Mi (a1:Int):Option (List Hello):=
 ((bif (decide (a1<0)) then none else some ())).bind fun _=>((bif (decide (0<(IntKind.i64.wrap (a1-(IntKind.i64.wrap (0-0)))))) then (jW 24 (IntKind.i64.wrap (a1-(IntKind.i64.wrap (0-0)))) ((⟨0,0,0⟩:Hello):Hello)).bind fun En=>(eu En 0 0).bind fun F5=>some (F5) else some ([]))).bind fun FY=>some FY
noncomputable def KM (a0:List (List Hello)) (x:(Int×Int)):Option (LR (Int×Int) (Int)):=
 match x with
 |(EL,Ew)=>(bif (decide (Ew<(a0.length:Int))) then ((idx a0 Ew).bind fun DB=>((bif (decide ((IntKind.i64.wrap (EL+(DB.length:Int)))<0)) then none else some ())).bind fun _=>some ((IntKind.i64.wrap (EL+(DB.length:Int))))).bind fun En=>some (LR.next (En,(IntKind.i64.wrap (Ew+1)))) else some (LR.done (EL)))
noncomputable def KN (a0:List (List Hello)) (x:((List Hello)×Int)):Option (LR ((List Hello)×Int) ((List Hello))):=
 match x with
 |(FB,GP)=>(bif (decide (GP<(a0.length:Int))) then (idx a0 GP).bind fun Sf=>(app 24 FB Sf).bind fun DR=>some (LR.next (DR,(IntKind.i64.wrap (GP+1)))) else some (LR.done (FB)))
noncomputable def Mj (a0:List (List Hello)):Option (List Hello):=
 (eT (KM a0) (0,0)).bind fun Gy=>(Mi Gy).bind fun Gc=>(eT (KN a0) (Gc,0)).bind fun Fc=>some Fc
noncomputable def Jl (a0:C5) (a1:Hello):Option (Bool):=
 (bif (a1.Kind==1) then (Hg a1.X 1 a0.CW).bind fun C9=>(bif C9 then some (a1.Y==0) else some false) else (bif (a1.Kind==2) then (Hh a0 a1.X a1.Y).bind fun Db=>some Db else (bif (a1.Kind==3) then (Hh a0 a1.X a1.Y).bind fun DP=>some DP else some false)))
noncomputable def Oq (a0:Hello) (a1:C5):Option (Bool):=
 (Jl a1 a0).bind fun DQ=>some (!DQ)
noncomputable def Qi (a0:List Hello) (g1:Hello→Option Bool) (x:(Int)):Option (LR (Int) (LR Unit (Int))):=
 match x with
 |(II)=>(bif (decide (II<(a0.length:Int))) then (idx a0 II).bind fun Ot=>(g1 Ot).bind fun Fj=>(bif Fj then some (LR.done (LR.done II)) else some (LR.next ((IntKind.i64.wrap (II+1))))) else some (LR.done (LR.next ())))
noncomputable def Mk (a0:List Hello) (g1:Hello→Option Bool):Option (Int):=
 (eT (Qi a0 g1) (0)).bind fun y=>match y with|LR.next ()=>some (-1)|LR.done z=>some z
noncomputable def KO (a0:List Hello) (g1:Hello→Option Bool):Option (Bool):=
 (Mk a0 g1).bind fun b3=>some (decide (0≤b3))
noncomputable def KP (a0:Hello) (a1:C5):Option (Bool):=
 (bif (a0.Kind !=3) then some true else (Jl a1 a0).bind fun DQ=>some (!DQ))
noncomputable def GR (a0:C5):Option (Bool):=
 ((Hg a0.CW 0 1000).bind fun C_=>(bif (!C_) then some (true) else (Hg a0.CX 0 1000).bind fun IH=>(bif (!IH) then some (true) else (bif (decide (30<(a0.C2.length:Int))) then some (true) else (bif (decide (300<(a0.C3.length:Int))) then some (true) else some ((decide (300<(a0.C4.length:Int))))))))).bind fun Ew=>(bif Ew then some false else (((bif (a0.C0==0) then ((bif (a0.X==0) then some ((a0.CZ==0)) else some (false))).bind fun D8=>some (D8) else ((bif (a0.C0==1) then ((Hg a0.X 1 a0.CW).bind fun Gd=>(bif Gd then some ((a0.CZ==0)) else some (false))).bind fun Jm=>some (Jm) else ((bif (a0.C0==2) then (Hh a0 a0.X a0.CZ).bind fun Dv=>some (Dv) else some (false))).bind fun E2=>some (E2))).bind fun Ee=>some (Ee))).bind fun Ed=>some (Ed)).bind fun Ef=>(((bif (a0.CY==0) then ((bif (a0.C1==0) then some ((a0.Y==0)) else some (false))).bind fun DX=>some (DX) else ((bif (a0.CY==1) then some ((a0.CY==1)) else some ((a0.CY==2)))).bind fun Et=>((bif Et then (Hh a0 a0.C1 a0.Y).bind fun Fz=>some (Fz) else some (false))).bind fun D0=>some (D0))).bind fun DR=>some (DR)).bind fun Hf=>(Mj ([a0.C3,a0.C4]:List (List Hello))).bind fun GM=>(bif Ef then (bif Hf then (KO a0.C2 (fun Qj=>Oq Qj a0)).bind fun JY=>(bif (!JY) then (KO GM (fun Qj=>KP Qj a0)).bind fun Qk=>some (!Qk) else some false) else some false) else some false))
noncomputable def Jn (a0:C5) (a1:Hello):Option (C5):=
 (bif (decide ((a0.C2.length:Int)<30)) then (app 24 a0.C2 ([a1]:List Hello)).bind fun Gy=>some (⟨a0.C0,a0.CY,a0.X,a0.Y,a0.C1,a0.CZ,a0.CW,a0.CX,Gy,a0.C3,a0.C4⟩:C5) else some a0)
noncomputable def Ml (a0:List Hello) (a1:Int) (a2:Int):Option (List Hello):=
 (eu a0 a1 a2).bind fun _x3=>(bif (a1==a2) then some a0 else (eu a0 0 a1).bind fun Jh=>(eu a0 a2 (a0.length:Int)).bind fun Ei=>(app 24 Jh Ei).bind fun EF=>some EF)
noncomputable def Mm (a0:C5) (a1:Hello):Option (C5):=
 (bif (a1.Kind==1) then ((bif (a0.CY !=2) then some ((decide (a0.CX<1000))) else some (false))).bind fun FY=>(bif FY then (Jn (⟨a0.C0,1,a0.X,(IntKind.i64.wrap (a0.CX+1)),a1.X,a0.CZ,a0.CW,(IntKind.i64.wrap (a0.CX+1)),a0.C2,a0.C3,a0.C4⟩:C5) (⟨2,a1.X,(IntKind.i64.wrap (a0.CX+1))⟩:Hello)).bind fun Sg=>some Sg else some a0) else (bif (a1.Kind==2) then ((bif (a0.C0==1) then some ((a0.X==a1.X)) else some (false))).bind fun D1=>(bif D1 then (app 24 a0.C3 ([(⟨3,a1.X,a1.Y⟩:Hello)]:List Hello)).bind fun Ee=>(Jn (⟨2,a0.CY,a0.X,a0.Y,a0.C1,a1.Y,a0.CW,a0.CX,a0.C2,Ee,a0.C4⟩:C5) (⟨3,a1.X,a1.Y⟩:Hello)).bind fun Jo=>some Jo else ((bif (a0.C0==2) then (bif (a0.X==a1.X) then some ((a0.CZ==a1.Y)) else some (false)) else some (false))).bind fun GL=>(bif GL then (Jn a0 (⟨3,a1.X,a1.Y⟩:Hello)).bind fun Si=>some Si else some a0)) else (bif (a1.Kind==3) then ((bif (a0.CY==1) then (bif (a0.C1==a1.X) then some ((a0.Y==a1.Y)) else some (false)) else some (false))).bind fun Ft=>(bif Ft then (app 24 a0.C4 ([(⟨3,a1.X,a1.Y⟩:Hello)]:List Hello)).bind fun EY=>some (⟨a0.C0,2,a0.X,a0.Y,a0.C1,a0.CZ,a0.CW,a0.CX,a0.C2,a0.C3,EY⟩:C5) else some a0) else some a0)))
noncomputable def Jp (a0:C5) (a1:Dc):Option (Bool×C5):=
 (((bif (a1.Kind==1) then some ((a1.Kind==1)) else some ((a1.Kind==5)))).bind fun Ei=>((bif Ei then (bif (a1.K !=0) then some (LR.done (LR.done (false,a0))) else some (LR.next ())) else ((bif (a1.Kind==2) then some ((a1.Kind==2)) else ((bif (a1.Kind==3) then some ((a1.Kind==3)) else some ((a1.Kind==4)))).bind fun Dt=>some (Dt))).bind fun DS=>((bif DS then (Hg a1.K 0 (IntKind.i64.wrap ((a0.C2.length:Int)-1))).bind fun F6=>(bif (!F6) then some (LR.done (LR.done (LR.done (false,a0)))) else some (LR.next ())) else some (LR.next ()))).bind fun y=>match y with|LR.next ()=>some (LR.next ())|LR.done z=>some z)).bind fun y=>match y with|LR.next ()=>some (LR.next ())|LR.done z=>some z).bind fun y=>match y with|LR.next ()=>((((bif (a1.Kind==1) then (bif (a0.CW==1000) then some (LR.done (LR.done (false,a0))) else (Jn (⟨1,a0.CY,(IntKind.i64.wrap (a0.CW+1)),a0.Y,a0.C1,0,(IntKind.i64.wrap (a0.CW+1)),a0.CX,a0.C2,a0.C3,a0.C4⟩:C5) (⟨1,(IntKind.i64.wrap (a0.CW+1)),0⟩:Hello)).bind fun F0=>some (LR.next (F0.C0,F0.CY,F0.X,F0.Y,F0.C1,F0.CZ,F0.CW,F0.CX,F0.C2,F0.C3,F0.C4))) else ((bif (a1.Kind==2) then some ((a1.Kind==2)) else some ((a1.Kind==3)))).bind fun D6=>((bif D6 then (idx a0.C2 a1.K).bind fun GS=>(Ml a0.C2 a1.K (IntKind.i64.wrap (a1.K+1))).bind fun Ql=>((bif (a1.Kind==2) then (Mm (⟨a0.C0,a0.CY,a0.X,a0.Y,a0.C1,a0.CZ,a0.CW,a0.CX,Ql,a0.C3,a0.C4⟩:C5) GS).bind fun Hi=>some (Hi.C0,Hi.CY,Hi.X,Hi.Y,Hi.C1,Hi.CZ,Hi.CW,Hi.CX,Hi.C2,Hi.C3,Hi.C4) else some (a0.C0,a0.CY,a0.X,a0.Y,a0.C1,a0.CZ,a0.CW,a0.CX,Ql,a0.C3,a0.C4))).bind fun (Mn,Mo,Mp,Mq,Mr,Ms,Mt,Mu,Mw,Mx,My)=>some (LR.next (Mn,Mo,Mp,Mq,Mr,Ms,Mt,Mu,Mw,Mx,My)) else ((bif (a1.Kind==4) then (bif ((a0.C2.length:Int)==30) then some (LR.done (LR.done (LR.done (LR.done (false,a0))))) else (idx a0.C2 a1.K).bind fun Qm=>(app 24 a0.C2 ([Qm]:List Hello)).bind fun Sj=>some (LR.next (a0.C0,a0.CY,a0.X,a0.Y,a0.C1,a0.CZ,Sj))) else ((bif (a1.Kind==5) then (bif (a0.CY !=1) then some (LR.done (LR.done (LR.done (LR.done (LR.done (false,a0)))))) else some (LR.next (a0.C0,0,a0.X,0,0,a0.CZ))) else ((bif (a1.Kind==6) then (((bif (a1.K==0) then some (LR.next (0,a0.CY,0,a0.Y,a0.C1,0)) else (bif (a1.K==1) then some (LR.next (a0.C0,0,a0.X,0,0,a0.CZ)) else some (LR.done (LR.done (LR.done (LR.done (LR.done (LR.done (LR.done (LR.done (false,a0)))))))))))).bind fun y=>match y with|LR.next (Mz,MA,MB,MC,MD,ME)=>some (LR.next (Mz,MA,MB,MC,MD,ME))|LR.done z=>some z).bind fun y=>match y with|LR.next (MF,MH,MI,MJ,MK,ML)=>some (LR.next (MF,MH,MI,MJ,MK,ML))|LR.done z=>some z else some (LR.done (LR.done (LR.done (LR.done (LR.done (LR.done (false,a0))))))))).bind fun y=>match y with|LR.next (MN,MO,MP,MQ,MR,MS)=>some (LR.next (MN,MO,MP,MQ,MR,MS))|LR.done z=>some z)).bind fun y=>match y with|LR.next (MT,MU,MV,MW,MX,MY)=>some (LR.next (MT,MU,MV,MW,MX,MY,a0.C2))|LR.done z=>some z)).bind fun y=>match y with|LR.next (MZ,M0,M1,M2,M3,M4,M5)=>some (LR.next (MZ,M0,M1,M2,M3,M4,a0.CW,a0.CX,M5,a0.C3,a0.C4))|LR.done z=>some z)).bind fun y=>match y with|LR.next (M6,M7,M8,M9,M_,Na,Nb,Jj,Nc,Nd,Nf)=>some (LR.next (M6,M7,M8,M9,M_,Na,Nb,Jj,Nc,Nd,Nf))|LR.done z=>some z)).bind fun y=>match y with|LR.next (FA,DV,FF,D0,EV,E6,F4,Ng,HO,Jf,Nh)=>some (LR.next (FA,DV,FF,D0,EV,E6,F4,Ng,HO,Jf,Nh))|LR.done z=>some z).bind fun y=>match y with|LR.next (FC,Ff,Gz,EU,DR,EY,Ej,Fk,EI,Fu,Ev)=>(bif (decide ((Fu.length:Int)≤300)) then some ((decide ((Ev.length:Int)≤300)),(⟨FC,Ff,Gz,EU,DR,EY,Ej,Fk,EI,Fu,Ev⟩:C5)) else some (false,(⟨FC,Ff,Gz,EU,DR,EY,Ej,Fk,EI,Fu,Ev⟩:C5)))|LR.done z=>some z)|LR.done z=>some z
noncomputable def KQ (a0:C5) (a1:Dc):Option (C5×Bool):=
 (KL a0).bind fun Db=>((GR a0).bind fun Ni=>(bif (!Ni) then some (true,Db.C0,Db.CY,Db.X,Db.Y,Db.C1,Db.CZ,Db.CW,Db.CX,Db.C2,Db.C3,Db.C4) else (Jp Db a1).bind fun (Sk,Eg)=>some ((!Sk),Eg.C0,Eg.CY,Eg.X,Eg.Y,Eg.C1,Eg.CZ,Eg.CW,Eg.CX,Eg.C2,Eg.C3,Eg.C4))).bind fun (En,F5,GA,Ed,DL,D1,Eu,D5,D8,DS,DM,EG)=>(bif En then some ((⟨0,0,0,0,0,0,0,0,[],[],[]⟩:C5),false) else some ((⟨F5,GA,Ed,DL,D1,Eu,D5,D8,DS,DM,EG⟩:C5),true))
noncomputable def Ig (a0:Int) (a1:Int) (a2:Bool):Option (Bool):=
 (bif a2 then some (a0==0) else (Ha a0 1 a1).bind fun Fb=>some Fb)
noncomputable def KR (a0:C5) (a1:Hello):Option (Bool):=
 (Ha a1.Kind 1 3).bind fun C9=>(bif C9 then (Ig a1.X a0.CW false).bind fun Dr=>(bif Dr then (Ig a1.Y a0.CX (a1.Kind==1)).bind fun Db=>some Db else some false) else some false)
noncomputable def Ou (a0:C5) (x:(Int)):Option (LR (Int) (LR Unit (Bool))):=
 match x with
 |(DU)=>(bif (decide (DU<(a0.C2.length:Int))) then (idx a0.C2 DU).bind fun Gd=>(KR a0 Gd).bind fun Sl=>(bif (!Sl) then some (LR.done (LR.done false)) else some (LR.next ((IntKind.i64.wrap (DU+1))))) else some (LR.done (LR.next ())))
noncomputable def Ov (a0:C5) (Ej:List Hello) (x:(Int)):Option (LR (Int) (LR Unit (Bool))):=
 match x with
 |(DX)=>(bif (decide (DX<(Ej.length:Int))) then (idx Ej DX).bind fun IJ=>((bif (IJ.Kind !=3) then some (true) else (KR a0 IJ).bind fun Nj=>some ((!Nj)))).bind fun HP=>(bif HP then some (LR.done (LR.done false)) else some (LR.next ((IntKind.i64.wrap (DX+1))))) else some (LR.done (LR.next ())))
noncomputable def HQ (a0:C5):Option (Bool):=
 ((Ha a0.C0 0 2).bind fun C_=>(bif (!C_) then some (true) else (Ha a0.CY 0 2).bind fun IH=>(bif (!IH) then some (true) else (Ha a0.CW 0 1000).bind fun FE=>(bif (!FE) then some (true) else (Ha a0.CX 0 1000).bind fun Sm=>(bif (!Sm) then some (true) else (bif (decide (30<(a0.C2.length:Int))) then some (true) else (bif (decide (300<(a0.C3.length:Int))) then some (true) else some ((decide (300<(a0.C4.length:Int))))))))))).bind fun Ew=>(bif Ew then some false else ((Ig a0.X a0.CW (a0.C0==0)).bind fun EW=>(bif (!EW) then some (true) else (Ig a0.CZ a0.CX (decide (a0.C0<2))).bind fun Eh=>(bif (!Eh) then some (true) else (Ig a0.C1 a0.CW (a0.CY==0)).bind fun DB=>(bif (!DB) then some (true) else (Ig a0.Y a0.CX (a0.CY==0)).bind fun Qn=>some ((!Qn)))))).bind fun Ef=>(bif Ef then some false else (eT (Ou a0) (0)).bind fun y=>match y with|LR.next ()=>((app 24 ([]:List Hello) a0.C3).bind fun EU=>(app 24 EU a0.C4).bind fun Ej=>(eT (Ov a0 Ej) (0)).bind fun y=>match y with|LR.next ()=>some true|LR.done z=>some z)|LR.done z=>some z))
noncomputable def KS (a0:C5) (a1:Dc):Option (C5×Bool):=
 (HQ a0).bind fun DP=>(bif (!DP) then some ((⟨0,0,0,0,0,0,0,0,[],[],[]⟩:C5),false) else (He a0).bind fun FE=>(HL FE a1).bind fun (Eh,DB)=>(bif (!DB) then some ((⟨0,0,0,0,0,0,0,0,[],[],[]⟩:C5),false) else (He Eh).bind fun Eo=>some (Eo,true)))
noncomputable def Ox (a0:List Hello) (a1:List Hello) (x:(Int)):Option (LR (Int) (LR Unit (Bool))):=
 match x with
 |(Gy)=>(bif (decide (Gy<(a0.length:Int))) then (idx a0 Gy).bind fun DK=>(idx a1 Gy).bind fun EW=>(bif (!((DK.Kind==EW.Kind)&&((DK.X==EW.X)&&((DK.Y==EW.Y)&&true)))) then some (LR.done (LR.done false)) else some (LR.next ((IntKind.i64.wrap (Gy+1))))) else some (LR.done (LR.next ())))
noncomputable def IK (a0:List Hello) (a1:List Hello):Option (Bool):=
 (bif ((a0.length:Int) !=(a1.length:Int)) then some false else (eT (Ox a0 a1) (0)).bind fun y=>match y with|LR.next ()=>some true|LR.done z=>some z)
noncomputable def IL (a0:C5) (a1:C5):Option (Bool):=
 (bif (a0.C0==a1.C0) then (bif (a0.CY==a1.CY) then (bif (a0.X==a1.X) then (bif (a0.Y==a1.Y) then (bif (a0.C1==a1.C1) then (bif (a0.CZ==a1.CZ) then (bif (a0.CW==a1.CW) then (bif (a0.CX==a1.CX) then (IK a0.C2 a1.C2).bind fun C9=>(bif C9 then (IK a0.C3 a1.C3).bind fun Dr=>(bif Dr then (IK a0.C4 a1.C4).bind fun Db=>some Db else some false) else some false) else some false) else some false) else some false) else some false) else some false) else some false) else some false) else some false)
noncomputable def Oy (a0:List Int):Option (C5):=
 (JW (⟨a0,0,0⟩:Du)).bind fun (Db,_b10)=>some Db
noncomputable def KT (a0:List Int):Option (C5):=
 (Oy a0).bind fun DQ=>some DQ
noncomputable def IM (x:(Int×Int×Int×Int×Int×Int×Int×Int×Int×(List Hello)×(List Hello)×(List Hello))):Option (LR (Int×Int×Int×Int×Int×Int×Int×Int×Int×(List Hello)×(List Hello)×(List Hello)) (LR (Int×Int×Int×Int×Int×Int×Int×Int×(List Hello)×(List Hello)×(List Hello)) (C5×Bool))):=
 match x with
 |(FC,Ff,Gz,EU,DR,EY,Ej,Fk,EI,DX,Ev,Fq)=>(bif (decide (FC<(([(⟨1,0⟩:Dc),(⟨2,0⟩:Dc),(⟨2,0⟩:Dc),(⟨2,0⟩:Dc)]:List Dc).length:Int))) then (idx ([(⟨1,0⟩:Dc),(⟨2,0⟩:Dc),(⟨2,0⟩:Dc),(⟨2,0⟩:Dc)]:List Dc) FC).bind fun HR=>(Jp (⟨Ff,Gz,EU,DR,EY,Ej,Fk,EI,DX,Ev,Fq⟩:C5) HR).bind fun (JZ,F3)=>(bif (!JZ) then some (LR.done (LR.done ((⟨0,0,0,0,0,0,0,0,[],[],[]⟩:C5),false))) else some (LR.next ((IntKind.i64.wrap (FC+1)),F3.C0,F3.CY,F3.X,F3.Y,F3.C1,F3.CZ,F3.CW,F3.CX,F3.C2,F3.C3,F3.C4))) else some (LR.done (LR.next (Ff,Gz,EU,DR,EY,Ej,Fk,EI,DX,Ev,Fq))))
noncomputable def KU (a0:C5):Option (C5×Bool):=
 (KL a0).bind fun C9=>((GR a0).bind fun Jo=>(bif (!Jo) then some (true,C9.C0,C9.CY,C9.X,C9.Y,C9.C1,C9.CZ,C9.CW,C9.CX,C9.C2,C9.C3,C9.C4) else (Jp C9 (⟨6,0⟩:Dc)).bind fun (Ni,Gl)=>(bif (!Ni) then some (true,Gl.C0,Gl.CY,Gl.X,Gl.Y,Gl.C1,Gl.CZ,Gl.CW,Gl.CX,Gl.C2,Gl.C3,Gl.C4) else (Jp Gl (⟨6,1⟩:Dc)).bind fun (F6,Hj)=>some ((!F6),Hj.C0,Hj.CY,Hj.X,Hj.Y,Hj.C1,Hj.CZ,Hj.CW,Hj.CX,Hj.C2,Hj.C3,Hj.C4)))).bind fun (Ef,IF,En,F5,GA,Ed,DL,D1,Eu,_x27,DS,DM)=>(bif Ef then some ((⟨0,0,0,0,0,0,0,0,[],[],[]⟩:C5),false) else (eT (IM) (0,IF,En,F5,GA,Ed,DL,D1,Eu,[],DS,DM)).bind fun y=>match y with|LR.next (Et,Fo,FA,DV,FF,D0,EV,E6,F4,HO,HP)=>some ((⟨Et,Fo,FA,DV,FF,D0,EV,E6,F4,HO,HP⟩:C5),true)|LR.done z=>some z)
noncomputable def IN (x:(Int×Int×Int×Int×Int×Int×Int×Int×Int×(List Hello)×(List Hello)×(List Hello))):Option (LR (Int×Int×Int×Int×Int×Int×Int×Int×Int×(List Hello)×(List Hello)×(List Hello)) (LR (Int×Int×Int×Int×Int×Int×Int×Int×(List Hello)×(List Hello)×(List Hello)) (C5×Bool))):=
 match x with
 |(GQ,E2,Gt,Gu,Gv,Gw,Fs,J0,Ft,J1,Ff,DR)=>(bif (decide (GQ<(([1,2,2,2]:List Int).length:Int))) then (idx ([1,2,2,2]:List Int) GQ).bind fun JX=>(HL (⟨E2,Gt,Gu,Gv,Gw,Fs,J0,Ft,J1,Ff,DR⟩:C5) (⟨JX,0⟩:Dc)).bind fun (DJ,Sn)=>(bif (!Sn) then some (LR.done (LR.done ((⟨0,0,0,0,0,0,0,0,[],[],[]⟩:C5),false))) else some (LR.next ((IntKind.i64.wrap (GQ+1)),DJ.C0,DJ.CY,DJ.X,DJ.Y,DJ.C1,DJ.CZ,DJ.CW,DJ.CX,DJ.C2,DJ.C3,DJ.C4))) else some (LR.done (LR.next (E2,Gt,Gu,Gv,Gw,Fs,J0,Ft,J1,Ff,DR))))
noncomputable def KV (a0:C5):Option (C5×Bool):=
 (HQ a0).bind fun Dr=>(bif (!Dr) then some ((⟨0,0,0,0,0,0,0,0,[],[],[]⟩:C5),false) else (He a0).bind fun C_=>(HL C_ (⟨6,0⟩:Dc)).bind fun (DK,_b23)=>(HL DK (⟨6,1⟩:Dc)).bind fun (DY,_b33)=>(eT (IN) (0,DY.C0,DY.CY,DY.X,DY.Y,DY.C1,DY.CZ,DY.CW,DY.CX,[],DY.C3,DY.C4)).bind fun y=>match y with|LR.next (Fk,EI,DX,Fu,Gx,Ev,FO,Fq,KW,Fo,DV)=>(He (⟨Fk,EI,DX,Fu,Gx,Ev,FO,Fq,KW,Fo,DV⟩:C5)).bind fun D2=>some (D2,true)|LR.done z=>some z)
noncomputable def KX (a0:C5):Option (Bool×Bool):=
 (GR a0).bind fun Fb=>(bif (!Fb) then some (false,false) else (bif (a0.C0==2) then (bif (a0.CY==2) then (bif (a0.X==a0.C1) then some ((a0.Y==a0.CZ),true) else some (false,true)) else some (false,true)) else some (false,true)))
noncomputable def KY (a0:C5):Option (Bool×Bool):=
 (HQ a0).bind fun Fb=>(bif (!Fb) then some (false,false) else (bif (a0.C0==2) then (bif (a0.CY==2) then (bif (a0.X==a0.C1) then some ((a0.Y==a0.CZ),true) else some (false,true)) else some (false,true)) else some (false,true)))
noncomputable def KZ (a0:List Int):Option (List Hello×Hello):=
 (JW (⟨a0,0,0⟩:Du)).bind fun (Db,DP)=>((bif (decide (0<(Db.C3.length:Int))) then (Jd DP 2).bind fun (Qo,Oz)=>some (Qo,Oz.Code,Oz.Ds,Oz.Dw) else some (false,DP.Code,DP.Ds,DP.Dw))).bind fun (DL,D1,Eu,D5)=>((bif DL then (Fa (⟨D1,Eu,D5⟩:Du) (Db.C3.length:Int)).bind fun (So,_b44)=>(idx Db.C3 So).bind fun F6=>some (F6.Kind,F6.X,F6.Y) else some (3,101,1))).bind fun (Dt,F2,Fe)=>some (Db.C3,(⟨Dt,F2,Fe⟩:Hello))
noncomputable def OA (a0:List Hello) (a1:Hello) (x:(Int)):Option (LR (Int) (LR Unit (Int))):=
 match x with
 |(Ew)=>(bif (decide (Ew<(a0.length:Int))) then (idx a0 Ew).bind fun De=>(bif ((a1.Kind==De.Kind)&&((a1.X==De.X)&&((a1.Y==De.Y)&&true))) then some (LR.done (LR.done Ew)) else some (LR.next ((IntKind.i64.wrap (Ew+1))))) else some (LR.done (LR.next ())))
noncomputable def OB (a0:List Hello) (a1:Hello):Option (Int):=
 (eT (OA a0 a1) (0)).bind fun y=>match y with|LR.next ()=>some (-1)|LR.done z=>some z
noncomputable def Nk (a0:List Hello) (a1:Hello):Option (Bool):=
 (OB a0 a1).bind fun DQ=>some (decide (0≤DQ))
noncomputable def Jq (a0:List Hello) (a1:Hello):Option (Bool×Bool):=
 (bif (decide (300<(a0.length:Int))) then some (false,false) else (Nk a0 a1).bind fun Dr=>some (Dr,true))
noncomputable def OC (a0:List Hello) (a1:Hello) (x:(Int)):Option (LR (Int) (LR Unit (Bool×Bool))):=
 match x with
 |(OD)=>(bif (decide (OD<(a0.length:Int))) then (idx a0 OD).bind fun EW=>(bif ((a1.Kind==EW.Kind)&&((a1.X==EW.X)&&((a1.Y==EW.Y)&&true))) then some (LR.done (LR.done (true,true))) else some (LR.next ((IntKind.i64.wrap (OD+1))))) else some (LR.done (LR.next ())))
noncomputable def K_ (a0:List Hello) (a1:Hello):Option (Bool×Bool):=
 (bif (decide (300<(a0.length:Int))) then some (false,false) else (eT (OC a0 a1) (0)).bind fun y=>match y with|LR.next ()=>some (false,true)|LR.done z=>some z)
noncomputable def Nl:Option (C5):=
 some (⟨0,0,0,0,0,0,100,0,[],[],[]⟩:C5)
noncomputable def Nm (a0:List Int) (a1:List Int):Option (Bool):=
 (bif (decide (1048576<(IntKind.i64.wrap ((a0.length:Int)+(a1.length:Int))))) then some true else (Mg a0).bind fun (C9,Dr)=>(KQ C9 Dr).bind fun (De,DK)=>(KS C9 Dr).bind fun (Ey,Jo)=>((bif (!(DK==Jo)) then some (true) else (IL De Ey).bind fun Qp=>(bif (!Qp) then some (true) else (GR C9).bind fun OE=>(HQ C9).bind fun JV=>some ((!(OE==JV)))))).bind fun Fs=>(bif Fs then some false else ((bif DK then ((GR De).bind fun F1=>(bif (!F1) then some (true) else (bif (decide (De.CW<C9.CW)) then some (true) else (bif (decide (De.CX<C9.CX)) then some (true) else (bif (decide ((De.C3.length:Int)<(C9.C3.length:Int))) then some (true) else (bif (decide ((De.C4.length:Int)<(C9.C4.length:Int))) then some (true) else (eu De.C3 0 (C9.C3.length:Int)).bind fun DV=>(IK DV C9.C3).bind fun GN=>(bif (!GN) then some (true) else (eu De.C4 0 (C9.C4.length:Int)).bind fun E6=>(IK E6 C9.C4).bind fun Fz=>some ((!Fz))))))))).bind fun FO=>(bif FO then some (LR.done false) else some (LR.next ())) else some (LR.next ()))).bind fun y=>match y with|LR.next ()=>(KT a1).bind fun Dk=>(KU Dk).bind fun (Ep,HR)=>(KV Dk).bind fun (D9,D2)=>(KX Dk).bind fun (OF,OG)=>(KY Dk).bind fun (OH,GS)=>(KZ a1).bind fun (Jr,FP)=>(Jq Jr FP).bind fun (OI,OJ)=>(K_ Jr FP).bind fun (OK,OL)=>(Nl).bind fun Er=>(bif (HR==D2) then (IL Ep D9).bind fun Nn=>(bif Nn then (bif (OG==GS) then (bif (OF==OH) then (bif (OJ==OL) then (bif (OI==OK) then (IE).bind fun EO=>(IL Er EO).bind fun Np=>some Np else some false) else some false) else some false) else some false) else some false) else some false)|LR.done z=>some z))
end Go.Gq
