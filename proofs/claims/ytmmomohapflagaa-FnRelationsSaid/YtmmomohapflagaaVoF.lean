import Derived.Test.YtmmomohapflagaaVaE
import Derived.Test.YtmmomohapflagaaVaG
open Go Go.VS
set_option maxRecDepth 8000
namespace Go.EG
structure Span where
 C9:Int
 To:Int
structure Df where
 Code:List Int
 At:Int
 Du:Int
noncomputable def FA (a0:Df):Option (Int×Df):=
 ((bif (decide (a0.At<(a0.Code.length:Int))) then (idx a0.Code a0.At).bind fun El=>some ((IntKind.i64.wrap El)) else some (0))).bind fun Dh=>(bif (decide ((IntKind.i64.wrap (a0.At+1))≤(a0.Code.length:Int))) then some (Dh,(⟨a0.Code,(IntKind.i64.wrap (a0.At+1)),(IntKind.u64.wrap ((IntKind.u64.wrap ((IntKind.u64.wrap (a0.Du*6364136223846793005))+(IntKind.u64.wrap Dh)))+1442695040888963407))⟩:Df)) else some ((IntKind.i64.wrap (zF .u64 (uk .u64 (IntKind.u64.wrap ((IntKind.u64.wrap ((IntKind.u64.wrap (a0.Du*6364136223846793005))+(IntKind.u64.wrap Dh)))+1442695040888963407)) 40) 255)),(⟨a0.Code,(IntKind.i64.wrap (a0.At+1)),(IntKind.u64.wrap ((IntKind.u64.wrap ((IntKind.u64.wrap (a0.Du*6364136223846793005))+(IntKind.u64.wrap Dh)))+1442695040888963407))⟩:Df)))
noncomputable def DX (a0:Df) (a1:Int):Option (Int×Df):=
 (bif (decide (a1≤1)) then some (0,a0) else (FA a0).bind fun (De,Dy)=>((bif (decide (200<a1)) then (FA Dy).bind fun (Et,Dd)=>some ((IntKind.i64.wrap ((IntKind.i64.wrap (De*256))+Et)),Dd.Code,Dd.At,Dd.Du) else some (De,Dy.Code,Dy.At,Dy.Du))).bind fun (Gb,Ew,DS,D8)=>(md Gb a1).bind fun EU=>some (EU,(⟨Ew,DS,D8⟩:Df)))
noncomputable def EO (a0:Df) (a1:Int):Option (Bool×Df):=
 (DX a0 a1).bind fun (DY,Ey)=>some ((DY==0),Ey)
noncomputable def Fe (a0:Df) (a1:List Int):Option (Int×Df):=
 (DX a0 (a1.length:Int)).bind fun (DY,Ey)=>(idx a1 DY).bind fun Eb=>some (Eb,Ey)
noncomputable def Gc (a0:Df):Option (Span×Df):=
 (EO a0 30).bind fun (De,Dy)=>(bif De then (Fe Dy ([-1,5,999999]:List Int)).bind fun (Ez,Em)=>(Fe Em ([0,5,1000000,1000001]:List Int)).bind fun (Dj,Ee)=>some ((⟨Ez,Dj⟩:Span),Ee) else (DX Dy 30).bind fun (DC,Gd)=>(DX Gd 8).bind fun (EA,D_)=>some ((⟨DC,(IntKind.i64.wrap ((IntKind.i64.wrap (DC+1))+EA))⟩:Span),D_))
noncomputable def Ge (a0:List Int):Option (Span×Span):=
 (DX (⟨a0,0,0⟩:Df) 5).bind fun (DT,Ff)=>(DX Ff 3).bind fun (EH,Dj)=>(DX Dj 5).bind fun (Dd,DC)=>(DX DC 3).bind fun (D_,Gf)=>(EO Gf 20).bind fun (IW,IX)=>(bif IW then (Gc IX).bind fun (EV,_b37)=>some (EV,(⟨Dd,(IntKind.i64.wrap ((IntKind.i64.wrap (Dd+1))+D_))⟩:Span)) else some ((⟨DT,(IntKind.i64.wrap ((IntKind.i64.wrap (DT+1))+EH))⟩:Span),(⟨Dd,(IntKind.i64.wrap ((IntKind.i64.wrap (Dd+1))+D_))⟩:Span)))
noncomputable def Fg (a0:Span):Option (Bool):=
 (bif (decide (0≤a0.C9)) then (bif (decide (a0.C9<a0.To)) then some (decide (a0.To≤1000000)) else some false) else some false)
noncomputable def FB (a0:Span) (a1:Span):Option (Int):=
 (bif (decide (a0.To<a1.C9)) then some 1 else (bif (a0.To==a1.C9) then some 2 else (bif ((a0.C9==a1.C9)&&((a0.To==a1.To)&&true)) then some 3 else ((bif (a0.C9==a1.C9) then some ((decide (a0.To<a1.To))) else some (false))).bind fun D9=>(bif D9 then some 4 else ((bif (a0.To==a1.To) then some ((decide (a1.C9<a0.C9))) else some (false))).bind fun DE=>(bif DE then some 5 else ((bif (decide (a1.C9<a0.C9)) then some ((decide (a0.To<a1.To))) else some (false))).bind fun EB=>(bif EB then some 6 else ((bif (decide (a0.C9<a1.C9)) then (bif (decide (a1.C9<a0.To)) then some ((decide (a0.To<a1.To))) else some (false)) else some (false))).bind fun DJ=>(bif DJ then some 7 else some 0)))))))
noncomputable def FC (a0:Span) (a1:Span):Option (Int×Bool):=
 ((Fg a0).bind fun Ez=>(bif (!Ez) then some (true) else (Fg a1).bind fun Em=>some ((!Em)))).bind fun DK=>(bif DK then some (0,false) else (FB a0 a1).bind fun Dj=>(bif (decide (0<Dj)) then some (Dj,true) else (FB a1 a0).bind fun DC=>(idx ([0,8,9,3,10,11,12,13]:List Int) DC).bind fun Gd=>some (Gd,true)))
noncomputable def FD (a0:Span):Option (Bool):=
 (bif (decide (0≤a0.C9)) then (bif (decide (a0.C9<a0.To)) then some (decide (a0.To≤1000000)) else some false) else some false)
noncomputable def Gg (a0:Span) (a1:Span):Option (Int):=
 (bif (decide (a0.To<a1.C9)) then some 1 else (bif (a0.To==a1.C9) then some 2 else (bif ((a0.C9==a1.C9)&&((a0.To==a1.To)&&true)) then some 3 else ((bif (a0.C9==a1.C9) then some ((decide (a0.To<a1.To))) else some (false))).bind fun D9=>(bif D9 then some 4 else ((bif (a0.To==a1.To) then some ((decide (a1.C9<a0.C9))) else some (false))).bind fun DE=>(bif DE then some 5 else ((bif (decide (a1.C9<a0.C9)) then some ((decide (a0.To<a1.To))) else some (false))).bind fun EB=>(bif EB then some 6 else ((bif (decide (a0.C9<a1.C9)) then (bif (decide (a1.C9<a0.To)) then some ((decide (a0.To<a1.To))) else some (false)) else some (false))).bind fun DJ=>(bif DJ then some 7 else some 0)))))))
noncomputable def Gh (a0:Span) (a1:Span):Option (Int×Bool):=
 ((FD a0).bind fun Ez=>(bif (!Ez) then some (true) else (FD a1).bind fun Em=>some ((!Em)))).bind fun DK=>(bif DK then some (0,false) else (Gg a0 a1).bind fun Dj=>(bif (decide (0<Dj)) then some (Dj,true) else (Gg a1 a0).bind fun DC=>(bif (decide (DC<3)) then some ((IntKind.i64.wrap (7+DC)),true) else some ((IntKind.i64.wrap (6+DC)),true))))
noncomputable def Gi (a0:List Span) (x:(Int)):Option (LR (Int) (LR Unit (Bool))):=
 match x with
 |(DZ)=>(bif (decide (DZ<(a0.length:Int))) then (idx a0 DZ).bind fun Dd=>((Fg Dd).bind fun Gj=>(bif (!Gj) then some (true) else (bif (decide (0<DZ)) then (idx a0 (IntKind.i64.wrap (DZ-1))).bind fun FE=>some ((decide (Dd.C9≤FE.To))) else some (false)))).bind fun Gk=>(bif Gk then some (LR.done (LR.done false)) else some (LR.next ((IntKind.i64.wrap (DZ+1))))) else some (LR.done (LR.next ())))
noncomputable def EW (a0:List Span):Option (Bool):=
 (bif (decide (20<(a0.length:Int))) then some false else (fu (Gi a0) (0)).bind fun y=>match y with|LR.next ()=>some true|LR.done z=>some z)
noncomputable def HU (a0:List Span):Option (List Span):=
 app 16 [] a0
def IY (x:Span):List Int:=[x.C9,x.To]
def IZ:List Int→Span
 |[a,b]=>⟨a,b⟩
 |_=>⟨0,0⟩
noncomputable def HV (a0:List Span):Option (List Span):=
 nh 2 IY IZ a0
noncomputable def Gl (De:List Span) (x:((List Span)×Int)):Option (LR ((List Span)×Int) ((List Span))):=
 match x with
 |(D0,DS)=>(bif (decide (DS<(De.length:Int))) then ((idx De DS).bind fun D4=>((bif (decide (0≤(IntKind.i64.wrap ((D0.length:Int)-1)))) then (idx D0 (IntKind.i64.wrap ((D0.length:Int)-1))).bind fun I0=>some ((decide (D4.C9≤I0.To))) else some (false))).bind fun Gm=>(bif Gm then (idx D0 (IntKind.i64.wrap ((D0.length:Int)-1))).bind fun Fh=>(idx D0 (IntKind.i64.wrap ((D0.length:Int)-1))).bind fun Dv=>some ((D0.set (IntKind.i64.wrap ((D0.length:Int)-1)).toNat (⟨Dv.C9,(if D4.To>Fh.To then D4.To else Fh.To)⟩:Span))) else (app 16 D0 ([D4]:List Span)).bind fun I1=>some (I1))).bind fun DB=>some (LR.next (DB,(IntKind.i64.wrap (DS+1)))) else some (LR.done (D0)))
noncomputable def EX (a0:List Span):Option (List Span):=
 (HU a0).bind fun b3=>(HV b3).bind fun De=>(fu (Gl De) ([],0)).bind fun D8=>some D8
noncomputable def FF (a1:List Span) (Dm:Span) (x:((List Span)×Int)):Option (LR ((List Span)×Int) ((List Span))):=
 match x with
 |(DB,Ef)=>(bif (decide (Ef<(a1.length:Int))) then ((idx a1 Ef).bind fun Dv=>((bif (decide ((if Dv.C9>Dm.C9 then Dv.C9 else Dm.C9)<(if Dv.To<Dm.To then Dv.To else Dm.To))) then (app 16 DB ([(⟨(if Dv.C9>Dm.C9 then Dv.C9 else Dm.C9),(if Dv.To<Dm.To then Dv.To else Dm.To)⟩:Span)]:List Span)).bind fun I2=>some (I2) else some (DB))).bind fun Gn=>some (Gn)).bind fun Gp=>some (LR.next (Gp,(IntKind.i64.wrap (Ef+1)))) else some (LR.done (DB)))
noncomputable def Gq (a0:List Span) (a1:List Span) (x:((List Span)×Int)):Option (LR ((List Span)×Int) ((List Span))):=
 match x with
 |(Dh,DK)=>(bif (decide (DK<(a0.length:Int))) then (idx a0 DK).bind fun Dm=>(fu (FF a1 Dm) (Dh,0)).bind fun Eg=>some (LR.next (Eg,(IntKind.i64.wrap (DK+1)))) else some (LR.done (Dh)))
noncomputable def Gr (a0:List Span) (a1:List Span):Option (List Span):=
 (fu (Gq a0 a1) ([],0)).bind fun FG=>(EX FG).bind fun HW=>some HW
noncomputable def Gs (a0:List Span):Option (List Span×Bool):=
 (bif (decide (20<(a0.length:Int))) then some (([]:List Span),false) else some (a0,true))
noncomputable def FH (a0:List Span) (a1:List Span):Option (List Span×Bool):=
 ((EW a0).bind fun Hb=>(bif (!Hb) then some (true) else (EW a1).bind fun El=>some ((!El)))).bind fun Dw=>(bif Dw then some (([]:List Span),false) else (Gr a0 a1).bind fun Em=>(Gs Em).bind fun (Dj,Ee)=>some (Dj,Ee))
noncomputable def HX (x:((List Span)×Int×Int×(List Int)×Int×Int)):Option (LR ((List Span)×Int×Int×(List Int)×Int×Int) ((List Span)×(List Int)×Int×Int)):=
 match x with
 |(DB,Ef,Eg,Fi,Fj,Fk)=>(bif (decide (0<Ef)) then (DX (⟨Fi,Fj,Fk⟩:Df) 5).bind fun (Hc,I3)=>(app 16 DB ([(⟨Eg,(IntKind.i64.wrap ((IntKind.i64.wrap (Eg+1))+Hc))⟩:Span)]:List Span)).bind fun I4=>(DX I3 4).bind fun (I5,Hd)=>some (LR.next (I4,(IntKind.i64.wrap (Ef-1)),(IntKind.i64.wrap ((IntKind.i64.wrap ((IntKind.i64.wrap ((IntKind.i64.wrap (Eg+1))+Hc))+1))+I5)),Hd.Code,Hd.At,Hd.Du)) else some (LR.done (DB,Fi,Fj,Fk)))
noncomputable def FI (a0:Df):Option (List Span×Df):=
 (DX a0 6).bind fun (Ey,Eb)=>(EO Eb 20).bind fun (El,DT)=>((bif El then (DX DT 3).bind fun (Dd,DC)=>some ((IntKind.i64.wrap (19+Dd)),DC.Code,DC.At,DC.Du) else some (Ey,DT.Code,DT.At,DT.Du))).bind fun (Ew,DS,D8,D9)=>(DX (⟨DS,D8,D9⟩:Df) 4).bind fun (He,EA)=>(fu (HX) ([],Ew,He,EA.Code,EA.At,EA.Du)).bind fun (DJ,FJ,FK,FL)=>((bif (decide (0<(DJ.length:Int))) then (EO (⟨FJ,FK,FL⟩:Df) 30).bind fun (I6,Hf)=>some (I6,Hf.Code,Hf.At,Hf.Du) else some (false,FJ,FK,FL))).bind fun (Gt,FM,FN,Ec)=>((bif Gt then (idx DJ 0).bind fun Hg=>(idx DJ 0).bind fun HY=>some ((DJ.set (0:Int).toNat (⟨HY.C9,(IntKind.i64.wrap (Hg.To+3))⟩:Span))) else some (DJ))).bind fun Gu=>some (Gu,(⟨FM,FN,Ec⟩:Df))
noncomputable def Gv (a0:List Int):Option (List Span×Int):=
 (FI (⟨a0,0,0⟩:Df)).bind fun (De,Dy)=>(DX Dy 40).bind fun (Ff,_b13)=>some (De,(IntKind.i64.wrap (Ff-1)))
noncomputable def Hh (a0:Span) (a1:Int):Option (Bool):=
 (bif (decide (a0.C9≤a1)) then some (decide (a1<a0.To)) else some false)
noncomputable def HZ (a0:List Span) (g1:Span→Option Bool) (x:(Int)):Option (LR (Int) (LR Unit (Int))):=
 match x with
 |(Dw)=>(bif (decide (Dw<(a0.length:Int))) then (idx a0 Dw).bind fun Ee=>(g1 Ee).bind fun Et=>(bif Et then some (LR.done (LR.done Dw)) else some (LR.next ((IntKind.i64.wrap (Dw+1))))) else some (LR.done (LR.next ())))
noncomputable def Gw (a0:List Span) (g1:Span→Option Bool):Option (Int):=
 (fu (HZ a0 g1) (0)).bind fun y=>match y with|LR.next ()=>some (-1)|LR.done z=>some z
noncomputable def Gx (a0:List Span) (g1:Span→Option Bool):Option (Bool):=
 (Gw a0 g1).bind fun b3=>some (decide (0≤b3))
noncomputable def Gy (a0:List Span) (a1:Int):Option (Bool):=
 (Gx a0 (fun Ke=>Hh Ke a1)).bind fun Ey=>some Ey
noncomputable def FO (a0:List Span) (a1:Int):Option (Bool×Bool):=
 (EW a0).bind fun DY=>(bif (!DY) then some (false,false) else (Gy a0 a1).bind fun De=>some (De,true))
noncomputable def Gz (a0:List Span) (x:(Int)):Option (LR (Int) (LR Unit (Bool))):=
 match x with
 |(Dw)=>(bif (decide (Dw<(a0.length:Int))) then (idx a0 Dw).bind fun Dj=>((FD Dj).bind fun D_=>(bif (!D_) then some (true) else (bif (decide (0<Dw)) then (idx a0 (IntKind.i64.wrap (Dw-1))).bind fun Gf=>some ((decide (Dj.C9≤Gf.To))) else some (false)))).bind fun DE=>(bif DE then some (LR.done (LR.done false)) else some (LR.next ((IntKind.i64.wrap (Dw+1))))) else some (LR.done (LR.next ())))
noncomputable def FP (a0:List Span):Option (Bool):=
 (fu (Gz a0) (0)).bind fun y=>match y with|LR.next ()=>some (decide ((a0.length:Int)≤20))|LR.done z=>some z
noncomputable def GA (a0:List Span) (a1:Int) (x:(Int)):Option (LR (Int) (LR Unit (Bool))):=
 match x with
 |(Dw)=>(bif (decide (Dw<(a0.length:Int))) then (idx a0 Dw).bind fun Dj=>((bif (decide (Dj.C9≤a1)) then some ((decide (a1<Dj.To))) else some (false))).bind fun DE=>(bif DE then some (LR.done (LR.done true)) else some (LR.next ((IntKind.i64.wrap (Dw+1))))) else some (LR.done (LR.next ())))
noncomputable def GB (a0:List Span) (a1:Int):Option (Bool):=
 (fu (GA a0 a1) (0)).bind fun y=>match y with|LR.next ()=>some false|LR.done z=>some z
noncomputable def FQ (a0:List Span) (a1:Int):Option (Bool×Bool):=
 (FP a0).bind fun DY=>(bif (!DY) then some (false,false) else (GB a0 a1).bind fun De=>some (De,true))
noncomputable def Hi (a0:List Int):Option (List Span):=
 (FI (⟨a0,0,0⟩:Df)).bind fun (De,_b8)=>some De
noncomputable def FT (a0:List Int):Option (List Span):=
 (Hi a0).bind fun b3=>some b3
noncomputable def GC (a0:List Span) (x:(Int×Int)):Option (LR (Int×Int) (Int)):=
 match x with
 |(Dh,En)=>(bif (decide (En<(a0.length:Int))) then (idx a0 En).bind fun Dd=>some (LR.next ((IntKind.i64.wrap (Dh+(IntKind.i64.wrap (Dd.To-Dd.C9)))),(IntKind.i64.wrap (En+1)))) else some (LR.done (Dh)))
noncomputable def GD (a0:List Span):Option (Int):=
 (fu (GC a0) (0,0)).bind fun DZ=>some DZ
noncomputable def FU (a0:List Span):Option (Int×Bool):=
 (EW a0).bind fun DY=>(bif (!DY) then some (0,false) else (GD a0).bind fun De=>some (De,true))
noncomputable def I7 (a0:List Span) (x:(Int×Int)):Option (LR (Int×Int) (Int)):=
 match x with
 |(Dh,En)=>(bif (decide (En<(a0.length:Int))) then (idx a0 En).bind fun Dd=>some (LR.next ((IntKind.i64.wrap (Dh+(IntKind.i64.wrap (Dd.To-Dd.C9)))),(IntKind.i64.wrap (En+1)))) else some (LR.done (Dh)))
noncomputable def Hj (a0:List Span):Option (Int):=
 (fu (I7 a0) (0,0)).bind fun DZ=>some DZ
noncomputable def FV (a0:List Span):Option (Int×Bool):=
 (FP a0).bind fun DY=>(bif (!DY) then some (0,false) else (Hj a0).bind fun De=>some (De,true))
noncomputable def GF (a0:List Int) (a1:List Int):Option (Bool):=
 (bif (decide (1048576<(IntKind.i64.wrap ((a0.length:Int)+(a1.length:Int))))) then some true else (Ge a0).bind fun (De,Dy)=>(FC De Dy).bind fun (Dg,EY)=>(Gh De Dy).bind fun (Ee,Et)=>((bif (!(EY==Et)) then some (true) else some ((Dg !=Ee)))).bind fun EU=>(bif EU then some false else ((bif EY then (FC Dy De).bind fun (DP,DU)=>(FH ([De]:List Span) ([Dy]:List Span)).bind fun (DQ,DV)=>(((bif (Dg==3) then some (3) else ((bif (decide (Dg<3)) then some ((IntKind.i64.wrap (Dg+7))) else ((bif (decide (Dg<8)) then some ((IntKind.i64.wrap (Dg+6))) else ((bif (decide (Dg<10)) then some ((IntKind.i64.wrap (Dg-7))) else some ((IntKind.i64.wrap (Dg-6))))).bind fun Ec=>some (Ec))).bind fun EZ=>some (EZ))).bind fun E0=>some (E0))).bind fun GG=>some (GG)).bind fun EI=>((bif (Dg==1) then some (true) else (bif (Dg==2) then some (true) else (bif (Dg==8) then some (true) else some ((Dg==9)))))).bind fun FW=>((bif (decide (Dg<1)) then some (true) else (bif (decide (13<Dg)) then some (true) else (bif (!DU) then some (true) else (bif (DP !=EI) then some (true) else (bif (!DV) then some (true) else some ((!(((DQ.length:Int)==0)==FW))))))))).bind fun GI=>(bif GI then some (LR.done false) else some (LR.next ())) else some (LR.next ()))).bind fun y=>match y with|LR.next ()=>(Gv a1).bind fun (GJ,GK)=>(FO GJ GK).bind fun (Hk,Hl)=>(FQ GJ GK).bind fun (Hm,Hn)=>(FT a1).bind fun E1=>(FU E1).bind fun (Ho,Hp)=>(FV E1).bind fun (Hq,Hr)=>(bif (Hl==Hn) then (bif (Hk==Hm) then (bif (Hp==Hr) then some (Ho==Hq) else some false) else some false) else some false)|LR.done z=>some z))
end Go.EG
