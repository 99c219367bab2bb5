import Derived.Test.YtclgbpneokeaeaaVaE
import Derived.Test.YtclgbpneokeaeaaVaG
open Go Go.VS
set_option maxRecDepth 8000
namespace Go.Hm
structure Part where
 Id:Int
 At:Int
 Fw:Int
 Text:List UInt8
structure Span where
 Fz:Int
 To:Int
structure FD where
 Id:Int
 Fw:Int
 Text:List UInt8
 Has:List Span
structure FK where
 Code:List Int
 At:Int
 F2:Int
noncomputable def J3 (a0:FK):Option (Int×FK):=
 ((bif (decide (a0.At<(a0.Code.length:Int))) then (idx a0.Code a0.At).bind fun Gm=>some ((IntKind.i64.wrap Gm)) else some (0))).bind fun FQ=>(bif (decide ((IntKind.i64.wrap (a0.At+1))≤(a0.Code.length:Int))) then some (FQ,(⟨a0.Code,(IntKind.i64.wrap (a0.At+1)),(IntKind.u64.wrap ((IntKind.u64.wrap ((IntKind.u64.wrap (a0.F2*6364136223846793005))+(IntKind.u64.wrap FQ)))+1442695040888963407))⟩:FK)) else some ((IntKind.i64.wrap (Bw .u64 (vD .u64 (IntKind.u64.wrap ((IntKind.u64.wrap ((IntKind.u64.wrap (a0.F2*6364136223846793005))+(IntKind.u64.wrap FQ)))+1442695040888963407)) 40) 255)),(⟨a0.Code,(IntKind.i64.wrap (a0.At+1)),(IntKind.u64.wrap ((IntKind.u64.wrap ((IntKind.u64.wrap (a0.F2*6364136223846793005))+(IntKind.u64.wrap FQ)))+1442695040888963407))⟩:FK)))
noncomputable def Ij (a0:FK) (a1:Int):Option (Int×FK):=
 (bif (decide (a1≤1)) then some (0,a0) else (J3 a0).bind fun (FT,F0)=>((bif (decide (200<a1)) then (J3 F0).bind fun (Gt,FL)=>some ((IntKind.i64.wrap ((IntKind.i64.wrap (FT*256))+Gt)),FL.Code,FL.At,FL.F2) else some (FT,F0.Code,F0.At,F0.F2))).bind fun (Hn,Gv,FY,G_)=>(md Hn a1).bind fun I3=>some (I3,(⟨Gv,FY,G_⟩:FK)))
noncomputable def Iw (a0:FK) (a1:List Int):Option (Int×FK):=
 (Ij a0 (a1.length:Int)).bind fun (Gk,FP)=>(idx a1 Gk).bind fun F7=>some (F7,FP)
noncomputable def I4 (a0:FK) (a1:List (List UInt8)):Option (List UInt8×FK):=
 (Ij a0 (a1.length:Int)).bind fun (Gk,FP)=>(idx a1 Gk).bind fun F7=>some (F7,FP)
noncomputable def Ix (a0:FK) (a1:Int):Option (Bool×FK):=
 (Ij a0 a1).bind fun (Gk,FP)=>some ((Gk==0),FP)
noncomputable def J4 (a0:FK):Option (List UInt8×FK):=
 (I4 a0 ([[97],[98,108,111,99,107],[97,32,108,111,110,103,101,114,32,98,108,111,99,107,32,111,102,32,98,121,116,101,115],[0,0],[97,98,99,100],[101,120,97,99,116,108,121,32,101,105,103,104,116]]:List (List UInt8))).bind fun (F7,FT)=>(Ix FT 30).bind fun (FE,F8)=>((bif FE then (Iw F8 ([0,40,41]:List Int)).bind fun (J5,J6)=>(l6 1 J5 (0:Int)).bind fun HL=>some ((qF HL),J6.Code,J6.At,J6.F2) else some (F7,F8.Code,F8.At,F8.F2))).bind fun (FY,G_,Hf,Ge)=>some (FY,(⟨G_,Hf,Ge⟩:FK))
noncomputable def KG (a0:List Int):Option (Int×List UInt8):=
 (Iw (⟨a0,0,0⟩:FK) ([-1,0,7,1000,1001]:List Int)).bind fun (FN,Gm)=>(J4 Gm).bind fun (F8,_b13)=>some (FN,F8)
noncomputable def I5 (a0:Int) (a1:Int) (a2:Int):Option (Bool):=
 (bif (decide (a1≤a0)) then some (decide (a0≤a2)) else some false)
noncomputable def I6 (a0:Int) (a1:Int):Option (Bool):=
 (I5 a0 0 1000).bind fun b3=>(bif b3 then (I5 a1 1 40).bind fun Gk=>some Gk else some false)
noncomputable def Mw (a0:Int) (a1:List UInt8) (x:((List Part)×Int)):Option (LR ((List Part)×Int) ((List Part))):=
 match x with
 |(GV,Gv)=>(bif (decide (Gv<(a1.length:Int))) then (gZ a1 Gv (if (a1.length:Int)<(IntKind.i64.wrap (Gv+4)) then (a1.length:Int) else (IntKind.i64.wrap (Gv+4)))).bind fun NN=>(app 40 GV ([(⟨a0,Gv,(a1.length:Int),NN⟩:Part)]:List Part)).bind fun I7=>some (LR.next (I7,(IntKind.i64.wrap (Gv+4)))) else some (LR.done (GV)))
noncomputable def KH (a0:Int) (a1:List UInt8):Option (List Part×Bool):=
 (I6 a0 (a1.length:Int)).bind fun Gk=>(bif (!Gk) then some ([],false) else (eZ (Mw a0 a1) ([],0)).bind fun FY=>some (FY,true))
noncomputable def I8 (a0:Int) (a1:Int) (a2:Int):Option (Bool):=
 (bif (decide (a1≤a0)) then some (decide (a0≤a2)) else some false)
noncomputable def I9 (a0:Int) (a1:Int):Option (Bool):=
 (I8 a0 0 1000).bind fun b3=>(bif b3 then (I8 a1 1 40).bind fun Gk=>some Gk else some false)
noncomputable def J7 (a0:Int) (a1:Int):Option (Int):=
 (bif (decide (a0<a1)) then some a0 else some a1)
noncomputable def Mx (a0:Int) (a1:List UInt8) (x:((List Part)×Int)):Option (LR ((List Part)×Int) ((List Part))):=
 match x with
 |(GV,Gv)=>(bif (decide (Gv<(a1.length:Int))) then (J7 (a1.length:Int) (IntKind.i64.wrap (Gv+4))).bind fun JC=>(gZ a1 Gv JC).bind fun HL=>(app 40 GV ([(⟨a0,Gv,(a1.length:Int),HL⟩:Part)]:List Part)).bind fun Gn=>some (LR.next (Gn,(IntKind.i64.wrap (Gv+4)))) else some (LR.done (GV)))
noncomputable def JD (a0:Int) (a1:List UInt8):Option (List Part×Bool):=
 (I9 a0 (a1.length:Int)).bind fun Gk=>(bif (!Gk) then some ([],false) else (eZ (Mx a0 a1) ([],0)).bind fun FY=>some (FY,true))
def strings_Repeat (a0:List UInt8) (a1:Int):Option (List UInt8):=
 xX a0 a1
noncomputable def KI (a0:Int) (a1:Int):Option (FD):=
 (strings_Repeat ([0]) a1).bind fun FP=>some (⟨a0,a1,FP,[]⟩:FD)
noncomputable def JE (a0:Int) (a1:Int):Option (FD×Bool):=
 (I6 a0 a1).bind fun F7=>(bif (!F7) then some ((⟨0,0,[],[]⟩:FD),false) else (KI a0 a1).bind fun FN=>some (FN,true))
noncomputable def My (a0:List Int) (x:(Int×Int)):Option (LR (Int×Int) (Int)):=
 match x with
 |(FQ,FU)=>(bif (decide (FU<(a0.length:Int))) then (idx a0 FU).bind fun FL=>some (LR.next ((Int.tmod (IntKind.i64.wrap ((IntKind.i64.wrap (31*FQ))+(IntKind.i64.wrap FL))) 1000003),(IntKind.i64.wrap (FU+1)))) else some (LR.done (FQ)))
noncomputable def KJ (a0:List Int):Option (Int):=
 (eZ (My a0) (0,0)).bind fun FM=>some FM
noncomputable def J8 (a0:Span):Option (Bool):=
 (bif (decide (0≤a0.Fz)) then (bif (decide (a0.Fz<a0.To)) then some (decide (a0.To≤1000000)) else some false) else some false)
noncomputable def KK (a0:List Span) (x:(Int)):Option (LR (Int) (LR Unit (Bool))):=
 match x with
 |(FM)=>(bif (decide (FM<(a0.length:Int))) then (idx a0 FM).bind fun FL=>((J8 FL).bind fun Iy=>(bif (!Iy) then some (true) else (bif (decide (0<FM)) then (idx a0 (IntKind.i64.wrap (FM-1))).bind fun I_=>some ((decide (FL.Fz≤I_.To))) else some (false)))).bind fun KL=>(bif KL then some (LR.done (LR.done false)) else some (LR.next ((IntKind.i64.wrap (FM+1))))) else some (LR.done (LR.next ())))
noncomputable def J9 (a0:List Span):Option (Bool):=
 (bif (decide (20<(a0.length:Int))) then some false else (eZ (KK a0) (0)).bind fun y=>match y with|LR.next ()=>some true|LR.done z=>some z)
noncomputable def KM (a0:List Span) (a1:Int):Option (Bool):=
 (J9 a0).bind fun b3=>(bif b3 then (bif ((a0.length:Int)==0) then some true else (idx a0 (IntKind.i64.wrap ((a0.length:Int)-1))).bind fun Gk=>some (decide (Gk.To≤a1))) else some false)
noncomputable def Mz (a0:Span) (a1:Int):Option (Bool):=
 (bif (decide (a0.Fz≤a1)) then some (decide (a1<a0.To)) else some false)
noncomputable def NO (a0:List Span) (g1:Span→Option Bool) (x:(Int)):Option (LR (Int) (LR Unit (Int))):=
 match x with
 |(Gx)=>(bif (decide (Gx<(a0.length:Int))) then (idx a0 Gx).bind fun Ja=>(g1 Ja).bind fun Gt=>(bif Gt then some (LR.done (LR.done Gx)) else some (LR.next ((IntKind.i64.wrap (Gx+1))))) else some (LR.done (LR.next ())))
noncomputable def KN (a0:List Span) (g1:Span→Option Bool):Option (Int):=
 (eZ (NO a0 g1) (0)).bind fun y=>match y with|LR.next ()=>some (-1)|LR.done z=>some z
noncomputable def KO (a0:List Span) (g1:Span→Option Bool):Option (Bool):=
 (KN a0 g1).bind fun b3=>some (decide (0≤b3))
noncomputable def J_ (a0:List Span) (a1:Int):Option (Bool):=
 (KO a0 (fun RG=>Mz RG a1)).bind fun FP=>some FP
noncomputable def KP (a0:FD) (x:(Int)):Option (LR (Int) (LR Unit (Bool))):=
 match x with
 |(Ge)=>(bif (decide (Ge<a0.Fw)) then ((idx a0.Text Ge).bind fun KQ=>(bif ((KQ.toNat:Int) !=0) then (J_ a0.Has Ge).bind fun Ka=>some ((!Ka)) else some (false))).bind fun Gn=>(bif Gn then some (LR.done (LR.done false)) else some (LR.next ((IntKind.i64.wrap (Ge+1))))) else some (LR.done (LR.next ())))
noncomputable def Iz (a0:FD):Option (Bool):=
 ((I6 a0.Id a0.Fw).bind fun FE=>(bif (!FE) then some (true) else (bif ((a0.Text.length:Int) !=a0.Fw) then some (true) else (KM a0.Has a0.Fw).bind fun F8=>some ((!F8))))).bind fun FU=>(bif FU then some false else (eZ (KP a0) (0)).bind fun y=>match y with|LR.next ()=>some true|LR.done z=>some z)
noncomputable def KR (a0:List Span) (x:(Int×Int)):Option (LR (Int×Int) (Int)):=
 match x with
 |(FQ,FU)=>(bif (decide (FU<(a0.length:Int))) then (idx a0 FU).bind fun FL=>some (LR.next ((IntKind.i64.wrap (FQ+(IntKind.i64.wrap (FL.To-FL.Fz)))),(IntKind.i64.wrap (FU+1)))) else some (LR.done (FQ)))
noncomputable def JF (a0:List Span):Option (Int):=
 (eZ (KR a0) (0,0)).bind fun FM=>some FM
noncomputable def MA (a0:FD):Option (Bool):=
 (JF a0.Has).bind fun b3=>some (b3==a0.Fw)
noncomputable def Jb (a0:FD):Option (Bool×Bool):=
 (Iz a0).bind fun F7=>(bif (!F7) then some (false,false) else (MA a0).bind fun FN=>some (FN,true))
noncomputable def KS (a0:Part):Option (Bool):=
 (I6 a0.Id a0.Fw).bind fun FP=>(bif FP then (I5 (a0.Text.length:Int) 1 4).bind fun F7=>(bif F7 then (I5 a0.At 0 (IntKind.i64.wrap (a0.Fw-(a0.Text.length:Int)))).bind fun FT=>some FT else some false) else some false)
noncomputable def KT (a0:List Span):Option (List Span):=
 app 16 [] a0
def Pd (x:Span):List Int:=[x.Fz,x.To]
def Pe:List Int→Span
 |[a,b]=>⟨a,b⟩
 |_=>⟨0,0⟩
noncomputable def NP (a0:List Span):Option (List Span):=
 oa 2 Pd Pe a0
noncomputable def KU (FT:List Span) (x:((List Span)×Int)):Option (LR ((List Span)×Int) ((List Span))):=
 match x with
 |(FO,FY)=>(bif (decide (FY<(FT.length:Int))) then ((idx FT FY).bind fun F1=>((bif (decide (0≤(IntKind.i64.wrap ((FO.length:Int)-1)))) then (idx FO (IntKind.i64.wrap ((FO.length:Int)-1))).bind fun NQ=>some ((decide (F1.Fz≤NQ.To))) else some (false))).bind fun Gz=>(bif Gz then (idx FO (IntKind.i64.wrap ((FO.length:Int)-1))).bind fun JG=>(idx FO (IntKind.i64.wrap ((FO.length:Int)-1))).bind fun JH=>some ((FO.set (IntKind.i64.wrap ((FO.length:Int)-1)).toNat (⟨JH.Fz,(if F1.To>JG.To then F1.To else JG.To)⟩:Span))) else (app 16 FO ([F1]:List Span)).bind fun Jc=>some (Jc))).bind fun HL=>some (LR.next (HL,(IntKind.i64.wrap (FY+1)))) else some (LR.done (FO)))
noncomputable def Kb (a0:List Span):Option (List Span):=
 (KT a0).bind fun b3=>(NP b3).bind fun FT=>(eZ (KU FT) ([],0)).bind fun G_=>some G_
noncomputable def Kc (a0:List Span):Option (List Span×Bool):=
 (bif (decide (20<(a0.length:Int))) then some ([],false) else some (a0,true))
noncomputable def KV (a0:List Span) (a1:Span):Option (List Span×Int×Bool):=
 ((J9 a0).bind fun FE=>(bif (!FE) then some (true) else (J8 a1).bind fun F8=>some ((!F8)))).bind fun FU=>(bif FU then some ([],0,false) else (KT a0).bind fun HY=>(app 16 HY ([a1]:List Span)).bind fun NR=>(Kb NR).bind fun J5=>(Kc J5).bind fun (HZ,Iy)=>(bif (!Iy) then some ([],0,false) else (JF HZ).bind fun Ka=>(JF a0).bind fun KW=>some (HZ,(IntKind.i64.wrap (Ka-KW)),true)))
noncomputable def KX (a0:FD) (a1:Part) (x:((List Int)×Int)):Option (LR ((List Int)×Int) ((List Int))):=
 match x with
 |(IA,Hg)=>(bif (decide (Hg<(a1.Text.length:Int))) then ((J_ a0.Has (IntKind.i64.wrap (a1.At+Hg))).bind fun Pf=>((bif (!Pf) then (idx a1.Text Hg).bind fun MB=>(idx IA (IntKind.i64.wrap (a1.At+Hg))).bind fun _b62=>some ((IA.set (IntKind.i64.wrap (a1.At+Hg)).toNat (MB.toNat:Int))) else some (IA))).bind fun Jc=>some (Jc)).bind fun H7=>some (LR.next (H7,(IntKind.i64.wrap (Hg+1)))) else some (LR.done (IA)))
noncomputable def Jd (a0:FD) (a1:Part):Option (FD×Int×Bool):=
 ((Iz a0).bind fun HY=>(bif (!HY) then some (true) else (KS a1).bind fun IB=>(bif (!IB) then some (true) else (bif (a1.Id !=a0.Id) then some (true) else some ((a1.Fw !=a0.Fw)))))).bind fun FO=>(bif FO then some ((⟨0,0,[],[]⟩:FD),0,false) else (KV a0.Has (⟨a1.At,(IntKind.i64.wrap (a1.At+(a1.Text.length:Int)))⟩:Span)).bind fun (Gt,FL,G5)=>(bif (!G5) then some ((⟨0,0,[],[]⟩:FD),0,false) else (qG a0.Text).bind fun Pg=>(eZ (KX a0 a1) (Pg,0)).bind fun JI=>some ((⟨a0.Id,a0.Fw,(qF JI),Gt⟩:FD),FL,true)))
noncomputable def KY (a0:List Span) (a1:List Span) (x:(Int)):Option (LR (Int) (LR Unit (Bool))):=
 match x with
 |(FM)=>(bif (decide (FM<(a0.length:Int))) then (idx a0 FM).bind fun G5=>(idx a1 FM).bind fun Je=>(bif (!((G5.Fz==Je.Fz)&&((G5.To==Je.To)&&true))) then some (LR.done (LR.done false)) else some (LR.next ((IntKind.i64.wrap (FM+1))))) else some (LR.done (LR.next ())))
noncomputable def KZ (a0:List Span) (a1:List Span):Option (Bool):=
 (bif ((a0.length:Int) !=(a1.length:Int)) then some false else (eZ (KY a0 a1) (0)).bind fun y=>match y with|LR.next ()=>some true|LR.done z=>some z)
noncomputable def IC (a0:FD) (a1:FD):Option (Bool):=
 (bif (a0.Id==a1.Id) then (bif (a0.Fw==a1.Fw) then (bif (a0.Text==a1.Text) then (KZ a0.Has a1.Has).bind fun FT=>some FT else some false) else some false) else some false)
noncomputable def Kd (a0:Int) (a1:Int):Option (FD):=
 (l6 1 a1 (0:Int)).bind fun FM=>some (⟨a0,a1,(qF FM),[]⟩:FD)
noncomputable def MC (a0:Span):Option (Bool):=
 (bif (decide (0≤a0.Fz)) then (bif (decide (a0.Fz<a0.To)) then some (decide (a0.To≤1000000)) else some false) else some false)
noncomputable def K_ (a0:List Span) (x:(Int)):Option (LR (Int) (LR Unit (Bool))):=
 match x with
 |(Gx)=>(bif (decide (Gx<(a0.length:Int))) then (idx a0 Gx).bind fun GF=>((MC GF).bind fun JC=>(bif (!JC) then some (true) else (bif (decide (0<Gx)) then (idx a0 (IntKind.i64.wrap (Gx-1))).bind fun Ke=>some ((decide (GF.Fz≤Ke.To))) else some (false)))).bind fun H8=>(bif H8 then some (LR.done (LR.done false)) else some (LR.next ((IntKind.i64.wrap (Gx+1))))) else some (LR.done (LR.next ())))
noncomputable def La (a0:List Span):Option (Bool):=
 (eZ (K_ a0) (0)).bind fun y=>match y with|LR.next ()=>some (decide ((a0.length:Int)≤20))|LR.done z=>some z
noncomputable def Lb (a0:List Span) (a1:Int):Option (Bool):=
 (La a0).bind fun b3=>(bif b3 then (bif ((a0.length:Int)==0) then some true else (idx a0 (IntKind.i64.wrap ((a0.length:Int)-1))).bind fun Gk=>some (decide (Gk.To≤a1))) else some false)
noncomputable def Lc (a0:List Span) (a1:Int) (x:(Int)):Option (LR (Int) (LR Unit (Bool))):=
 match x with
 |(Gx)=>(bif (decide (Gx<(a0.length:Int))) then (idx a0 Gx).bind fun GF=>((bif (decide (GF.Fz≤a1)) then some ((decide (a1<GF.To))) else some (false))).bind fun H8=>(bif H8 then some (LR.done (LR.done true)) else some (LR.next ((IntKind.i64.wrap (Gx+1))))) else some (LR.done (LR.next ())))
noncomputable def Kf (a0:List Span) (a1:Int):Option (Bool):=
 (eZ (Lc a0 a1) (0)).bind fun y=>match y with|LR.next ()=>some false|LR.done z=>some z
noncomputable def Ld (a0:FD) (x:(Int)):Option (LR (Int) (LR Unit (Bool))):=
 match x with
 |(Ge)=>(bif (decide (Ge<a0.Fw)) then ((idx a0.Text Ge).bind fun F1=>(bif ((F1.toNat:Int) !=0) then (Kf a0.Has Ge).bind fun KQ=>some ((!KQ)) else some (false))).bind fun I7=>(bif I7 then some (LR.done (LR.done false)) else some (LR.next ((IntKind.i64.wrap (Ge+1))))) else some (LR.done (LR.next ())))
noncomputable def Jf (a0:FD):Option (Bool):=
 ((I9 a0.Id a0.Fw).bind fun FE=>(bif (!FE) then some (true) else (bif ((a0.Text.length:Int) !=a0.Fw) then some (true) else (Lb a0.Has a0.Fw).bind fun F8=>some ((!F8))))).bind fun FU=>(bif FU then some false else (eZ (Ld a0) (0)).bind fun y=>match y with|LR.next ()=>some true|LR.done z=>some z)
noncomputable def Le (a0:Part):Option (Bool):=
 (I9 a0.Id a0.Fw).bind fun FP=>(bif FP then (I8 (a0.Text.length:Int) 1 4).bind fun F7=>(bif F7 then (I8 a0.At 0 (IntKind.i64.wrap (a0.Fw-(a0.Text.length:Int)))).bind fun FT=>some FT else some false) else some false)
noncomputable def Lf (a0:Int) (a1:Int):Option (Int):=
 (bif (decide (a1<a0)) then some a0 else some a1)
noncomputable def Lg (a0:List Span) (a1:Span) (x:((List Span)×Int)):Option (LR ((List Span)×Int) ((List Span)×Int)):=
 match x with
 |(FM,FO)=>((bif (decide (FO<(a0.length:Int))) then (idx a0 FO).bind fun HZ=>some ((decide (HZ.To<a1.Fz))) else some (false))).bind fun Lh=>(bif Lh then (idx a0 FO).bind fun NS=>(app 16 FM ([NS]:List Span)).bind fun Hg=>some (LR.next (Hg,(IntKind.i64.wrap (FO+1)))) else some (LR.done (FM,FO)))
noncomputable def Li (a0:List Span) (x:(Int×Int×Int)):Option (LR (Int×Int×Int) (Int×Int×Int)):=
 match x with
 |(Gp,Gz,GW)=>((bif (decide (Gp<(a0.length:Int))) then (idx a0 Gp).bind fun MD=>some ((decide (MD.Fz≤GW))) else some (false))).bind fun Lj=>(bif Lj then (idx a0 Gp).bind fun Ho=>(J7 Gz Ho.Fz).bind fun Jg=>(idx a0 Gp).bind fun NT=>(Lf GW NT.To).bind fun Lk=>some (LR.next ((IntKind.i64.wrap (Gp+1)),Jg,Lk)) else some (LR.done (Gp,Gz,GW)))
noncomputable def Ll (a0:List Span) (a1:Span):Option (List Span):=
 (eZ (Lg a0 a1) ([],0)).bind fun (Hn,FY)=>(eZ (Li a0) (FY,a1.Fz,a1.To)).bind fun (Hu,Hh,Hi)=>(app 16 Hn ([(⟨Hh,Hi⟩:Span)]:List Span)).bind fun ID=>(gZ a0 Hu (a0.length:Int)).bind fun GX=>(app 16 ID GX).bind fun Ph=>some Ph
noncomputable def Ln (a0:FD) (a1:Part) (x:((List Int)×Int×Nat)):Option (LR ((List Int)×Int×Nat) ((List Int)×Int)):=
 match x with
 |(Hf,Ge,H9)=>(bif (decide (H9<a1.Text.length)) then ((Kf a0.Has (IntKind.i64.wrap (a1.At+(H9:Int)))).bind fun KW=>((bif (!KW) then (idx a1.Text (H9:Int)).bind fun Ik=>(idx Hf (IntKind.i64.wrap (a1.At+(H9:Int)))).bind fun _b47=>some ((Hf.set (IntKind.i64.wrap (a1.At+(H9:Int))).toNat (Ik.toNat:Int)),(IntKind.i64.wrap (Ge+1))) else some (Hf,Ge))).bind fun (Lo,Lp)=>some (Lo,Lp)).bind fun (Gn,Lq)=>some (LR.next (Gn,Lq,jr a1.Text H9)) else some (LR.done (Hf,Ge)))
noncomputable def ME (a0:FD) (a1:Part):Option (FD×Int×Bool):=
 (qG a0.Text).bind fun GV=>(eZ (Ln a0 a1) (GV,0,0)).bind fun (Gg,Lr)=>(Ll a0.Has (⟨a1.At,(IntKind.i64.wrap (a1.At+(a1.Text.length:Int)))⟩:Span)).bind fun JH=>some ((⟨a0.Id,a0.Fw,(qF Gg),JH⟩:FD),Lr,(decide ((JH.length:Int)≤20)))
noncomputable def JJ (a0:FD) (a1:Part):Option (FD×Int×Bool):=
 ((Jf a0).bind fun HY=>(bif (!HY) then some (true) else (Le a1).bind fun IB=>(bif (!IB) then some (true) else (bif (a0.Id !=a1.Id) then some (true) else some ((a0.Fw !=a1.Fw)))))).bind fun FO=>(bif FO then some ((⟨0,0,[],[]⟩:FD),0,false) else (ME a0 a1).bind fun (Gt,FL,G5)=>(bif (!G5) then some ((⟨0,0,[],[]⟩:FD),0,false) else some (Gt,FL,true)))
noncomputable def NU (Gg:List Part) (x:(Int×(List Int)×Int×Int×Int×Int×(List UInt8)×(List Span))):Option (LR (Int×(List Int)×Int×Int×Int×Int×(List UInt8)×(List Span)) ((List Int)×Int×Int×Int×Int×(List UInt8)×(List Span))):=
 match x with
 |(Gp,Gz,GW,Hu,Hh,Hi,IE,IF)=>(bif (decide (Gp<(Gg.length:Int))) then ((idx Gg Gp).bind fun Il=>(JJ (⟨Hh,Hi,IE,IF⟩:FD) Il).bind fun (GG,_b86,Pj)=>((bif Pj then (Ix (⟨Gz,GW,Hu⟩:FK) 2).bind fun (NV,MF)=>some (NV,MF.Code,MF.At,MF.F2) else some (false,Gz,GW,Hu))).bind fun (Ls,Kg,Kh,Ki)=>((bif Ls then some (GG.Id,GG.Fw,GG.Text,GG.Has) else some (Hh,Hi,IE,IF))).bind fun (Lt,Lu,Lv,Lw)=>some (Kg,Kh,Ki,Lt,Lu,Lv,Lw)).bind fun (Ly,Lz,LA,LB,LC,LD,ID)=>some (LR.next ((IntKind.i64.wrap (Gp+1)),Ly,Lz,LA,LB,LC,LD,ID)) else some (LR.done (Gz,GW,Hu,Hh,Hi,IE,IF)))
noncomputable def Kj (a0:FK):Option (FD×FK):=
 (Ij a0 3).bind fun (F7,FT)=>(J4 FT).bind fun (FN,Gm)=>(JD F7 FN).bind fun (F8,LF)=>((bif (!LF) then (JD 1 ([97,32,98,108,111,99,107])).bind fun (Pk,_b27)=>some (Pk) else some (F8))).bind fun Gg=>(idx Gg 0).bind fun I_=>(idx Gg 0).bind fun NW=>(Kd I_.Id NW.Fw).bind fun F1=>(eZ (NU Gg) (0,Gm.Code,Gm.At,Gm.F2,F1.Id,F1.Fw,F1.Text,F1.Has)).bind fun (H7,LG,LH,IG,II,JK,IJ)=>(Ix (⟨H7,LG,LH⟩:FK) 20).bind fun (LI,LJ)=>((bif LI then (gZ JK 1 (JK.length:Int)).bind fun Pl=>(cat ([120]) Pl).bind fun Im=>some (Im) else some (JK))).bind fun JL=>some ((⟨IG,II,JL,IJ⟩:FD),LJ)
noncomputable def LK (a0:List Int):Option (FD×Part):=
 (Kj (⟨a0,0,0⟩:FK)).bind fun (FE,F8)=>(Ij F8 FE.Fw).bind fun (Ha,GF)=>(I4 GF ([[97],[98,99],[100,101,102,103]]:List (List UInt8))).bind fun (G5,Je)=>(Ix Je 12).bind fun (HZ,_b30)=>((bif HZ then some ((IntKind.i64.wrap (FE.Fw+1))) else some (FE.Fw))).bind fun Gn=>some (FE,(⟨FE.Id,Ha,Gn,G5⟩:Part))
noncomputable def MH (a0:List Int):Option (FD):=
 (Kj (⟨a0,0,0⟩:FK)).bind fun (FN,_b10)=>some FN
noncomputable def LL (a0:List Int):Option (FD):=
 (MH a0).bind fun FP=>some FP
noncomputable def Pm (a0:List Span) (x:(Int×Int)):Option (LR (Int×Int) (Int)):=
 match x with
 |(FQ,FU)=>(bif (decide (FU<(a0.length:Int))) then (idx a0 FU).bind fun FL=>some (LR.next ((IntKind.i64.wrap (FQ+(IntKind.i64.wrap (FL.To-FL.Fz)))),(IntKind.i64.wrap (FU+1)))) else some (LR.done (FQ)))
noncomputable def MI (a0:List Span):Option (Int):=
 (eZ (Pm a0) (0,0)).bind fun FM=>some FM
noncomputable def MJ (a0:FD):Option (Bool):=
 (MI a0.Has).bind fun FP=>some (FP==a0.Fw)
noncomputable def Kk (a0:FD):Option (Bool×Bool):=
 (Jf a0).bind fun F7=>(bif (!F7) then some (false,false) else (MJ a0).bind fun FN=>some (FN,true))
noncomputable def LM (a0:List Int):Option (Int×Int):=
 (Iw (⟨a0,0,0⟩:FK) ([-1,0,7,1000,1001]:List Int)).bind fun (FN,Gm)=>(Iw Gm ([0,1,40,41]:List Int)).bind fun (Pn,_b15)=>some (FN,Pn)
noncomputable def Kl (a0:Int) (a1:Int):Option (FD×Bool):=
 (I9 a0 a1).bind fun F7=>(bif (!F7) then some ((⟨0,0,[],[]⟩:FD),false) else (Kd a0 a1).bind fun FN=>some (FN,true))
noncomputable def Km (FE:List Part) (Ha:List Part) (x:(Int)):Option (LR (Int) (LR Unit (Bool))):=
 match x with
 |(Gn)=>(bif (decide (Gn<(FE.length:Int))) then (idx FE Gn).bind fun Ik=>(idx Ha Gn).bind fun LN=>(bif (!((Ik.Id==LN.Id)&&((Ik.At==LN.At)&&((Ik.Fw==LN.Fw)&&((Ik.Text==LN.Text)&&true))))) then some (LR.done (LR.done false)) else some (LR.next ((IntKind.i64.wrap (Gn+1))))) else some (LR.done (LR.next ())))
noncomputable def Kn (FE:List Part) (GX:Int) (x:(Int×Int×Int×(List UInt8)×(List Span))):Option (LR (Int×Int×Int×(List UInt8)×(List Span)) (LR (Int×Int×(List UInt8)×(List Span)) (LR Unit (Bool)))):=
 match x with
 |(GA,HM,HN,HO,HP)=>(bif (decide (GA<(FE.length:Int))) then (Jb (⟨HM,HN,HO,HP⟩:FD)).bind fun (Po,Pp)=>(md (IntKind.i64.wrap (GA+GX)) (FE.length:Int)).bind fun Pq=>(idx FE Pq).bind fun Ko=>(Jd (⟨HM,HN,HO,HP⟩:FD) Ko).bind fun (FV,MK,LI)=>((bif (!Pp) then some (true) else (bif Po then some (true) else (bif (!LI) then some (true) else (md (IntKind.i64.wrap (GA+GX)) (FE.length:Int)).bind fun Pr=>(idx FE Pr).bind fun Ps=>(bif (MK !=(Ps.Text.length:Int)) then some (true) else (Iz FV).bind fun ML=>some ((!ML))))))).bind fun Im=>(bif Im then some (LR.done (LR.done (LR.done false))) else (md (IntKind.i64.wrap (GA+GX)) (FE.length:Int)).bind fun Pt=>(idx FE Pt).bind fun Kp=>(Jd FV Kp).bind fun (HQ,Pu,Pv)=>((bif (!Pv) then some (true) else (bif (Pu !=0) then some (true) else (IC HQ FV).bind fun MN=>some ((!MN))))).bind fun LO=>(bif LO then some (LR.done (LR.done (LR.done false))) else some (LR.next ((IntKind.i64.wrap (GA+1)),FV.Id,FV.Fw,FV.Text,FV.Has)))) else some (LR.done (LR.next (HM,HN,HO,HP))))
noncomputable def LP (a0:List Int) (a1:List Int):Option (Bool):=
 (bif (decide (1048576<(IntKind.i64.wrap ((a0.length:Int)+(a1.length:Int))))) then some true else (KG a0).bind fun (FT,F0)=>(KH FT F0).bind fun (FE,F8)=>(JD FT F0).bind fun (Ha,GF)=>((bif (!(F8==GF)) then some (true) else some (((FE.length:Int) !=(Ha.length:Int))))).bind fun I3=>(bif I3 then some false else (eZ (Km FE Ha) (0)).bind fun y=>match y with|LR.next ()=>(((bif F8 then (JE FT (F0.length:Int)).bind fun (Ho,Jg)=>(bif (!Jg) then some (LR.done false) else (KJ a1).bind fun Pw=>(md Pw (FE.length:Int)).bind fun GX=>(eZ (Kn FE GX) (0,Ho.Id,Ho.Fw,Ho.Text,Ho.Has)).bind fun y=>match y with|LR.next (Kq,Kr,Jh,Ks)=>(Jb (⟨Kq,Kr,Jh,Ks⟩:FD)).bind fun (Px,Py)=>((bif (!Py) then some (true) else (bif (!Px) then some (true) else some ((!(Jh==F0)))))).bind fun LQ=>(bif LQ then some (LR.done false) else some (LR.next ()))|LR.done z=>some z) else some (LR.next ()))).bind fun y=>match y with|LR.next ()=>(LK a1).bind fun (GN,H_)=>(Jd GN H_).bind fun (Hv,MO,MP)=>(JJ GN H_).bind fun (Hw,MQ,MR)=>(LL a1).bind fun Ia=>(Jb Ia).bind fun (MS,MT)=>(Kk Ia).bind fun (MU,MV)=>(LM a1).bind fun (NX,NY)=>(JE NX NY).bind fun (Hy,MW)=>(Kl NX NY).bind fun (Hz,MX)=>(bif (MP==MR) then (bif (MO==MQ) then (IC Hv Hw).bind fun LS=>(bif LS then (bif (MT==MV) then (bif (MS==MU) then (bif (MW==MX) then (IC Hy Hz).bind fun LU=>(bif LU then (Iz GN).bind fun LV=>(Jf GN).bind fun LW=>some (LV==LW) else some false) else some false) else some false) else some false) else some false) else some false) else some false)|LR.done z=>some z)|LR.done z=>some z))
end Go.Hm
