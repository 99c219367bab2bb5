import Derived.Test.YtmmomohapflagaaVaE
open Go Go.VS
set_option maxRecDepth 8000
namespace Go.Hd
structure Task where
 Fv:Int
 End:Int
structure Fl where
 Code:List Int
 Fo:Int
 Fw:Int
noncomputable def IH (a0:Fl):Option (Int×Fl):=
 ((bif (decide (a0.Fo<(a0.Code.length:Int))) then (idx a0.Code a0.Fo).bind fun F3=>some ((IntKind.i64.wrap F3)) else some (0))).bind fun Fi=>(bif (decide ((IntKind.i64.wrap (a0.Fo+1))≤(a0.Code.length:Int))) then some (Fi,(⟨a0.Code,(IntKind.i64.wrap (a0.Fo+1)),(IntKind.u64.wrap ((IntKind.u64.wrap ((IntKind.u64.wrap (a0.Fw*6364136223846793005))+(IntKind.u64.wrap Fi)))+1442695040888963407))⟩:Fl)) else some ((IntKind.i64.wrap (zX .u64 (uO .u64 (IntKind.u64.wrap ((IntKind.u64.wrap ((IntKind.u64.wrap (a0.Fw*6364136223846793005))+(IntKind.u64.wrap Fi)))+1442695040888963407)) 40) 255)),(⟨a0.Code,(IntKind.i64.wrap (a0.Fo+1)),(IntKind.u64.wrap ((IntKind.u64.wrap ((IntKind.u64.wrap (a0.Fw*6364136223846793005))+(IntKind.u64.wrap Fi)))+1442695040888963407))⟩:Fl)))
noncomputable def Gi (a0:Fl) (a1:Int):Option (Int×Fl):=
 (bif (decide (a1≤1)) then some (0,a0) else (IH a0).bind fun (Fx,Gl)=>((bif (decide (200<a1)) then (IH Gl).bind fun (He,Gm)=>some ((IntKind.i64.wrap ((IntKind.i64.wrap (Fx*256))+He)),Gm.Code,Gm.Fo,Gm.Fw) else some (Fx,Gl.Code,Gl.Fo,Gl.Fw))).bind fun (FN,F9,GZ,G0)=>(md FN a1).bind fun Gd=>some (Gd,(⟨F9,GZ,G0⟩:Fl)))
noncomputable def HE (a0:Fl) (a1:Int):Option (Bool×Fl):=
 (Gi a0 a1).bind fun (Ft,F0)=>some ((Ft==0),F0)
noncomputable def HZ (a0:Fl) (a1:List Int):Option (Int×Fl):=
 (Gi a0 (a1.length:Int)).bind fun (Ft,F0)=>(idx a1 Ft).bind fun Gn=>some (Gn,F0)
noncomputable def Lt (x:((List Task)×Int×(List Int)×Int×Int)):Option (LR ((List Task)×Int×(List Int)×Int×Int) ((List Task)×(List Int)×Int×Int)):=
 match x with
 |(Gp,F4,Hf,F1,Gq)=>(bif (decide (0<F4)) then (Gi (⟨Hf,F1,Gq⟩:Fl) 8).bind fun (Ki,MN)=>(Gi MN 25).bind fun (H4,H7)=>(app 16 Gp ([(⟨(IntKind.i64.wrap (1+Ki)),H4⟩:Task)]:List Task)).bind fun GL=>some (LR.next (GL,(IntKind.i64.wrap (F4-1)),H7.Code,H7.Fo,H7.Fw)) else some (LR.done (Gp,Hf,F1,Gq)))
noncomputable def Jf (a0:Fl):Option (List Task×Fl):=
 (Gi a0 7).bind fun (F0,Gn)=>(HE Gn 20).bind fun (F3,Jg)=>((bif F3 then (Gi Jg 2).bind fun (Gm,G3)=>some ((IntKind.i64.wrap (10+Gm)),G3.Code,G3.Fo,G3.Fw) else some (F0,Jg.Code,Jg.Fo,Jg.Fw))).bind fun (F9,GZ,G0,Jh)=>(dP (Lt) ([],F9,GZ,G0,Jh)).bind fun (Gj,II,IJ,F2)=>((bif (decide (0<(Gj.length:Int))) then (HE (⟨II,IJ,F2⟩:Fl) 30).bind fun (MO,Hg)=>some (MO,Hg.Code,Hg.Fo,Hg.Fw) else some (false,II,IJ,F2))).bind fun (Ji,IK,Gk,IL)=>((bif Ji then (HZ (⟨IK,Gk,IL⟩:Fl) ([0,20,21]:List Int)).bind fun (H8,MP)=>(HZ MP ([-1,200,201]:List Int)).bind fun (Kj,IM)=>(idx Gj 0).bind fun _b92=>some ((Gj.set (0:Int).toNat (⟨H8,Kj⟩:Task)),IM.Code,IM.Fo,IM.Fw) else some (Gj,IK,Gk,IL))).bind fun (Jj,Jk,Jl,Jm)=>some (Jj,(⟨Jk,Jl,Jm⟩:Fl))
noncomputable def Lu (a1:Int) (x:((List Int)×Int)):Option (LR ((List Int)×Int) ((List Int))):=
 match x with
 |(Fi,Fu)=>(bif (decide (Fu<a1)) then (app 8 Fi ([Fu]:List Int)).bind fun MQ=>some (LR.next (MQ,(IntKind.i64.wrap (Fu+1)))) else some (LR.done (Fi)))
noncomputable def Lv (a1:Int) (x:((List Int)×Int×(List Int)×Int×Int)):Option (LR ((List Int)×Int×(List Int)×Int×Int) ((List Int)×(List Int)×Int×Int)):=
 match x with
 |(F2,HF,Gr,HG,HH)=>((bif (decide (0<HF)) then some ((decide (1<a1))) else some (false))).bind fun Jn=>(bif Jn then (Gi (⟨Gr,HG,HH⟩:Fl) a1).bind fun (Jo,MR)=>(Gi MR a1).bind fun (Kk,Kl)=>(idx F2 Jo).bind fun Km=>(idx F2 Kk).bind fun Hg=>(idx F2 Jo).bind fun _b75=>(idx (F2.set Jo.toNat Hg) Kk).bind fun _b77=>some (LR.next (((F2.set Jo.toNat Hg).set Kk.toNat Km),(IntKind.i64.wrap (HF-1)),Kl.Code,Kl.Fo,Kl.Fw)) else some (LR.done (F2,Gr,HG,HH)))
noncomputable def Jp (a0:Fl) (a1:Int):Option (List Int×Fl):=
 (dP (Lu a1) ([],0)).bind fun FG=>(Gi a0 6).bind fun (MS,H9)=>(dP (Lv a1) (FG,MS,H9.Code,H9.Fo,H9.Fw)).bind fun (HI,GM,IN,IP)=>((bif (decide (0<a1)) then (HE (⟨GM,IN,IP⟩:Fl) 20).bind fun (Kn,Ko)=>some (Kn,Ko.Code,Ko.Fo,Ko.Fw) else some (false,GM,IN,IP))).bind fun (Jq,IQ,IS,IT)=>((bif Jq then (Gi (⟨IQ,IS,IT⟩:Fl) (IntKind.i64.wrap (a1+2))).bind fun (Kp,Kq)=>(idx HI 0).bind fun _b105=>some ((HI.set (0:Int).toNat (IntKind.i64.wrap (Kp-1))),Kq.Code,Kq.Fo,Kq.Fw) else some (HI,IQ,IS,IT))).bind fun (Jr,Js,Jt,Ju)=>some (Jr,(⟨Js,Jt,Ju⟩:Fl))
noncomputable def IU (a0:List Int):Option (List Task×List Int):=
 (Jf (⟨a0,0,0⟩:Fl)).bind fun (Fx,Gl)=>(Jp Gl (Fx.length:Int)).bind fun (Jv,_b14)=>some (Fx,Jv)
noncomputable def Lw (a0:List Task) (g1:Task→Option Bool) (x:(Int)):Option (LR (Int) (LR Unit (Int))):=
 match x with
 |(Fk)=>(bif (decide (Fk<(a0.length:Int))) then (idx a0 Fk).bind fun Ge=>(g1 Ge).bind fun He=>(bif He then some (LR.done (LR.done Fk)) else some (LR.next ((IntKind.i64.wrap (Fk+1))))) else some (LR.done (LR.next ())))
noncomputable def Jw (a0:List Task) (g1:Task→Option Bool):Option (Int):=
 (dP (Lw a0 g1) (0)).bind fun y=>match y with|LR.next ()=>some (-1)|LR.done z=>some z
noncomputable def Jx (a0:List Task) (g1:Task→Option Bool):Option (Bool):=
 (Jw a0 g1).bind fun b3=>some (decide (0≤b3))
noncomputable def IV (a0:Int) (a1:Int) (a2:Int):Option (Bool):=
 (bif (decide (a1≤a0)) then some (decide (a0≤a2)) else some false)
noncomputable def Kr (a0:Task):Option (Bool):=
 (IV a0.Fv 1 20).bind fun F0=>(bif (!F0) then some true else (IV a0.End 0 200).bind fun Gn=>some (!Gn))
noncomputable def IW (a0:List Task):Option (Bool):=
 (bif (decide ((a0.length:Int)≤10)) then (Jx a0 Kr).bind fun b3=>some (!b3) else some false)
noncomputable def Ks (a0:List Int) (a1:Int) (x:(Int)):Option (LR (Int) (LR Unit (Int))):=
 match x with
 |(Fk)=>(bif (decide (Fk<(a0.length:Int))) then (idx a0 Fk).bind fun Ge=>(bif (a1==Ge) then some (LR.done (LR.done Fk)) else some (LR.next ((IntKind.i64.wrap (Fk+1))))) else some (LR.done (LR.next ())))
noncomputable def Kt (a0:List Int) (a1:Int):Option (Int):=
 (dP (Ks a0 a1) (0)).bind fun y=>match y with|LR.next ()=>some (-1)|LR.done z=>some z
noncomputable def Jy (a0:List Int) (a1:Int):Option (Bool):=
 (Kt a0 a1).bind fun b3=>some (decide (0≤b3))
noncomputable def Ku (a0:List Int) (a1:Int) (x:(Int)):Option (LR (Int) (LR Unit (Bool))):=
 match x with
 |(Fk)=>(bif (decide (Fk<a1)) then (Jy a0 Fk).bind fun Ge=>(bif (!Ge) then some (LR.done (LR.done false)) else some (LR.next ((IntKind.i64.wrap (Fk+1))))) else some (LR.done (LR.next ())))
noncomputable def Jz (a0:List Int) (a1:Int):Option (Bool):=
 (dP (Ku a0 a1) (0)).bind fun y=>match y with|LR.next ()=>some ((a0.length:Int)==a1)|LR.done z=>some z
noncomputable def Kv (a0:List Task) (a1:List Int) (x:((List Int)×Int×Int)):Option (LR ((List Int)×Int×Int) ((List Int))):=
 match x with
 |(Fu,FG,FH)=>(bif (decide (FH<(a1.length:Int))) then (idx a1 FH).bind fun Kw=>(idx a0 Kw).bind fun HJ=>(idx Fu Kw).bind fun _b28=>some (LR.next ((Fu.set Kw.toNat (IntKind.i64.wrap (FG+HJ.Fv))),(IntKind.i64.wrap (FG+HJ.Fv)),(IntKind.i64.wrap (FH+1)))) else some (LR.done (Fu)))
noncomputable def Kx (a0:List Task) (a1:List Int):Option (List Int):=
 (eX 8 (a0.length:Int) (0:Int)).bind fun Fi=>(dP (Kv a0 a1) (Fi,0,0)).bind fun FN=>some FN
noncomputable def HK (a0:List Task) (a1:List Int):Option (List Int×Bool):=
 ((IW a0).bind fun Ky=>(bif (!Ky) then some (true) else (Jz a1 (a0.length:Int)).bind fun F3=>some ((!F3)))).bind fun Fk=>(bif Fk then some ([],false) else (Kx a0 a1).bind fun Jv=>some (Jv,true))
noncomputable def Kz (a0:List Task) (Ft:List Int) (x:(Int×Int)):Option (LR (Int×Int) (Int)):=
 match x with
 |(Gs,Gd)=>(bif (decide (Gd<(a0.length:Int))) then (idx a0 Gd).bind fun Gt=>(idx Ft Gd).bind fun Ly=>some (LR.next ((if (IntKind.i64.wrap (Ly-Gt.End))>Gs then (IntKind.i64.wrap (Ly-Gt.End)) else Gs),(IntKind.i64.wrap (Gd+1)))) else some (LR.done (Gs)))
noncomputable def G4 (a0:List Task) (a1:List Int):Option (Int×Bool):=
 (HK a0 a1).bind fun (Ft,F0)=>((bif (!F0) then some (true) else some (((a0.length:Int)==0)))).bind fun FH=>(bif FH then some (0,F0) else (idx Ft 0).bind fun MT=>(idx a0 0).bind fun Ge=>(dP (Kz a0 Ft) ((IntKind.i64.wrap (MT-Ge.End)),0)).bind fun Gp=>some (Gp,true))
noncomputable def H_ (a0:Int) (a1:Int) (a2:Int):Option (Bool):=
 (bif (decide (a1≤a0)) then some (decide (a0≤a2)) else some false)
noncomputable def JA (a0:List Task) (x:(Int)):Option (LR (Int) (LR Unit (Bool))):=
 match x with
 |(Fk)=>(bif (decide (Fk<(a0.length:Int))) then (idx a0 Fk).bind fun Gu=>((H_ Gu.Fv 1 20).bind fun HJ=>(bif (!HJ) then some (true) else (H_ Gu.End 0 200).bind fun GN=>some ((!GN)))).bind fun Gs=>(bif Gs then some (LR.done (LR.done false)) else some (LR.next ((IntKind.i64.wrap (Fk+1))))) else some (LR.done (LR.next ())))
noncomputable def IX (a0:List Task):Option (Bool):=
 (dP (JA a0) (0)).bind fun y=>match y with|LR.next ()=>some (decide ((a0.length:Int)≤10))|LR.done z=>some z
noncomputable def KA (a0:List Int) (a1:Int) (x:(Int)):Option (LR (Int) (LR Unit (Bool))):=
 match x with
 |(Fk)=>(bif (decide (Fk<(a0.length:Int))) then (idx a0 Fk).bind fun Gu=>(bif (Gu==a1) then some (LR.done (LR.done true)) else some (LR.next ((IntKind.i64.wrap (Fk+1))))) else some (LR.done (LR.next ())))
noncomputable def JB (a0:List Int) (a1:Int):Option (Bool):=
 (dP (KA a0 a1) (0)).bind fun y=>match y with|LR.next ()=>some false|LR.done z=>some z
noncomputable def KB (a0:List Int) (a1:Int) (x:(Int)):Option (LR (Int) (LR Unit (Bool))):=
 match x with
 |(FJ)=>(bif (decide (FJ<(a0.length:Int))) then (idx a0 FJ).bind fun Gm=>((H_ Gm 0 (IntKind.i64.wrap (a1-1))).bind fun GN=>(bif (!GN) then some (true) else (cy a0 0 FJ).bind fun F1=>(JB F1 Gm).bind fun IY=>some (IY))).bind fun Gd=>(bif Gd then some (LR.done (LR.done false)) else some (LR.next ((IntKind.i64.wrap (FJ+1))))) else some (LR.done (LR.next ())))
noncomputable def JC (a0:List Int) (a1:Int):Option (Bool):=
 (bif ((a0.length:Int) !=a1) then some false else (dP (KB a0 a1) (0)).bind fun y=>match y with|LR.next ()=>some true|LR.done z=>some z)
noncomputable def Hr (a0:List Task) (a1:List Int):Option (Bool):=
 (IX a0).bind fun b3=>(bif b3 then (JC a1 (a0.length:Int)).bind fun Ft=>some Ft else some false)
noncomputable def Lz (a0:List Task) (a1:List Int) (x:((List Int)×Int×Int)):Option (LR ((List Int)×Int×Int) ((List Int))):=
 match x with
 |(FG,FH,FN)=>(bif (decide (FN<(a1.length:Int))) then (idx a1 FN).bind fun GP=>(idx a0 GP).bind fun GN=>(idx FG GP).bind fun _b29=>some (LR.next ((FG.set GP.toNat (IntKind.i64.wrap (FH+GN.Fv))),(IntKind.i64.wrap (FH+GN.Fv)),(IntKind.i64.wrap (FN+1)))) else some (LR.done (FG)))
noncomputable def Ia (a0:List Task) (a1:List Int):Option (List Int):=
 (eX 8 (a0.length:Int) (0:Int)).bind fun Fi=>(dP (Lz a0 a1) (Fi,0,0)).bind fun F9=>some F9
noncomputable def KC (a0:Int) (a1:Int):Option (Int):=
 (bif (decide (a1<a0)) then some a0 else some a1)
noncomputable def KD (a0:List Task) (F3:List Int) (x:(Int×Int)):Option (LR (Int×Int) (Int)):=
 match x with
 |(FO,Gz)=>(bif (decide (Gz<(a0.length:Int))) then (idx a0 Gz).bind fun Ib=>(idx F3 Gz).bind fun Gt=>(KC FO (IntKind.i64.wrap (Gt-Ib.End))).bind fun IZ=>some (LR.next (IZ,(IntKind.i64.wrap (Gz+1)))) else some (LR.done (FO)))
noncomputable def Hs (a0:List Task) (a1:List Int):Option (Int×Bool):=
 (Hr a0 a1).bind fun Ft=>(bif (!Ft) then some (0,false) else (bif ((a0.length:Int)==0) then some (0,true) else (Ia a0 a1).bind fun F3=>(idx F3 0).bind fun Ic=>(idx a0 0).bind fun G5=>(dP (KD a0 F3) ((IntKind.i64.wrap (Ic-G5.End)),0)).bind fun JD=>some (JD,true)))
noncomputable def KE (a0:Int) (a1:Int) (a2:List Task):Option (Int):=
 (idx a2 a0).bind fun b3=>(idx a2 a1).bind fun Ft=>some (IntKind.i64.wrap (b3.End-Ft.End))
noncomputable def JE (a1:Int) (g3:Int→Int→Option Int) (x:((List Int)×Int)):Option (LR ((List Int)×Int) ((List Int))):=
 match x with
 |(Gv,FO)=>((bif (decide (a1<FO)) then (idx Gv FO).bind fun MU=>(idx Gv (IntKind.i64.wrap (FO-1))).bind fun Gt=>(g3 MU Gt).bind fun IZ=>some ((decide (IZ<0))) else some (false))).bind fun Gj=>(bif Gj then (idx Gv (IntKind.i64.wrap (FO-1))).bind fun JF=>(idx Gv FO).bind fun KF=>(idx Gv FO).bind fun _b47=>(idx (Gv.set FO.toNat JF) (IntKind.i64.wrap (FO-1))).bind fun _b49=>some (LR.next (((Gv.set FO.toNat JF).set (IntKind.i64.wrap (FO-1)).toNat KF),(IntKind.i64.wrap (FO-1)))) else some (LR.done (Gv)))
noncomputable def KG (a1:Int) (a2:Int) (g3:Int→Int→Option Int) (x:((List Int)×Int)):Option (LR ((List Int)×Int) ((List Int))):=
 match x with
 |(Ie,x3)=>(bif (decide (x3<a2)) then (dP (JE a1 g3) (Ie,x3)).bind fun Gz=>some (LR.next (Gz,(IntKind.i64.wrap (x3+1)))) else some (LR.done (Ie)))
noncomputable def HL (a0:List Int) (a1:Int) (a2:Int) (g3:Int→Int→Option Int):Option (List Int):=
 (dP (KG a1 a2 g3) (a0,(IntKind.i64.wrap (a1+1)))).bind fun Fk=>some Fk
noncomputable def JG (a1:Int) (g2:Int→Int→Option Int) (x:((List Int)×Int×Int)):Option (LR ((List Int)×Int×Int) ((List Int)×Int)):=
 match x with
 |(Fk,Fi,If)=>(bif (decide (If≤a1)) then (HL Fk Fi If g2).bind fun Gm=>some (LR.next (Gm,If,(IntKind.i64.wrap (If+20)))) else some (LR.done (Fk,Fi)))
noncomputable def MV (a1:Int) (F4:Int) (x:Unit):Option (LR Unit Unit):=
 match x with
 |()=>(bif (decide ((IntKind.i64.wrap (2*F4))≤a1)) then none else some (LR.done ()))
noncomputable def JH (a1:Int) (x:(Int)):Option (LR (Int) Unit):=
 match x with
 |(F4)=>(bif (decide (F4<a1)) then (dP (MV a1 F4) ()).bind fun _=>((bif (decide ((IntKind.i64.wrap (0+F4))<a1)) then none else some ())).bind fun _=>some (LR.next ((IntKind.i64.wrap (F4*2)))) else some (LR.done ()))
noncomputable def JI (a0:List Int) (a1:Int) (g2:Int→Int→Option Int):Option (List Int):=
 (dP (JG a1 g2) (a0,0,20)).bind fun (FJ,Fu)=>(HL FJ Fu a1 g2).bind fun GP=>(dP (JH a1) (20)).bind fun _=>some GP
noncomputable def Ig (a0:List Int) (g1:Int→Int→Option Int):Option (List Int):=
 (JI a0 (a0.length:Int) g1).bind fun b1=>some b1
noncomputable def KH (a0:List Task) (x:((List Int)×Int)):Option (LR ((List Int)×Int) ((List Int))):=
 match x with
 |(FJ,FH)=>(bif (decide (FH<(a0.length:Int))) then (app 8 FJ ([FH]:List Int)).bind fun Hf=>some (LR.next (Hf,(IntKind.i64.wrap (FH+1)))) else some (LR.done (FJ)))
noncomputable def Ih (a0:List Task):Option (List Int):=
 (dP (KH a0) ([],0)).bind fun FN=>(Ig FN (fun JJ JK=>KE JJ JK a0)).bind fun H9=>some H9
noncomputable def JL (a0:List Task):Option (List Int×Bool):=
 (IW a0).bind fun Ft=>(bif (!Ft) then some ([],false) else (Ih a0).bind fun Fx=>some (Fx,true))
noncomputable def KI (a0:List Task) (Fi:List Int) (FU:Task) (x:(Int)):Option (LR (Int) (Int)):=
 match x with
 |(F1)=>((bif (decide (F1<(Fi.length:Int))) then (idx Fi F1).bind fun MW=>(idx a0 MW).bind fun KJ=>some ((decide (KJ.End≤FU.End))) else some (false))).bind fun GM=>(bif GM then some (LR.next ((IntKind.i64.wrap (F1+1)))) else some (LR.done (F1)))
noncomputable def KK (a0:List Task) (x:((List Int)×Int)):Option (LR ((List Int)×Int) ((List Int))):=
 match x with
 |(Fi,Fu)=>(bif (decide (Fu<(a0.length:Int))) then (idx a0 Fu).bind fun FU=>(dP (KI a0 Fi FU) (0)).bind fun Gq=>(cy Fi 0 Gq).bind fun MX=>(app 8 ([]:List Int) MX).bind fun GL=>(app 8 GL ([Fu]:List Int)).bind fun LA=>(cy Fi Gq (Fi.length:Int)).bind fun Gk=>(app 8 LA Gk).bind fun MY=>some (LR.next (MY,(IntKind.i64.wrap (Fu+1)))) else some (LR.done (Fi)))
noncomputable def JM (a0:List Task):Option (List Int):=
 (dP (KK a0) ([],0)).bind fun FG=>some FG
noncomputable def JN (a0:List Task):Option (List Int×Bool):=
 (IX a0).bind fun Ft=>(bif (!Ft) then some ([],false) else (JM a0).bind fun Fx=>some (Fx,true))
noncomputable def KL (a0:List Int) (a1:List Int) (x:(Int)):Option (LR (Int) (LR Unit (Bool))):=
 match x with
 |(FJ)=>(bif (decide (FJ<(a0.length:Int))) then (idx a0 FJ).bind fun G3=>(idx a1 FJ).bind fun Gf=>(bif (G3 !=Gf) then some (LR.done (LR.done false)) else some (LR.next ((IntKind.i64.wrap (FJ+1))))) else some (LR.done (LR.next ())))
noncomputable def Ii (a0:List Int) (a1:List Int):Option (Bool):=
 (bif ((a0.length:Int) !=(a1.length:Int)) then some false else (dP (KL a0 a1) (0)).bind fun y=>match y with|LR.next ()=>some true|LR.done z=>some z)
noncomputable def JO (a0:List Int):Option (List Task×List Int):=
 (IU a0).bind fun (Ft,F0)=>some (Ft,F0)
noncomputable def HM (a0:List Task) (a1:List Int):Option (List Int×Bool):=
 (Hr a0 a1).bind fun Ft=>(bif (!Ft) then some ([],false) else (Ia a0 a1).bind fun Fx=>some (Fx,true))
noncomputable def KM (Fx:List Task) (Gf:List Int) (x:(Int)):Option (LR (Int) (LR Unit (LR Unit (Bool)))):=
 match x with
 |(Gk)=>(bif (decide (Gk<(Gf.length:Int))) then (idx Gf (IntKind.i64.wrap (Gk-1))).bind fun MZ=>(idx Fx MZ).bind fun M0=>(idx Gf Gk).bind fun M1=>(idx Fx M1).bind fun H8=>(bif (decide (H8.End<M0.End)) then some (LR.done (LR.done (LR.done false))) else some (LR.next ((IntKind.i64.wrap (Gk+1))))) else some (LR.done (LR.next ())))
noncomputable def JP (GA:List Task) (x:(Int×Int)):Option (LR (Int×Int) (Int)):=
 match x with
 |(Ij,I0)=>(bif (decide (I0<(GA.length:Int))) then (idx GA I0).bind fun I1=>some (LR.next ((IntKind.i64.wrap (Ij+I1.Fv)),(IntKind.i64.wrap (I0+1)))) else some (LR.done (Ij)))
noncomputable def Ik (a0:List Int) (a1:List Int):Option (Bool):=
 (bif (decide (1048576<(IntKind.i64.wrap ((a0.length:Int)+(a1.length:Int))))) then some true else (IU a0).bind fun (Fx,Gl)=>(G4 Fx Gl).bind fun (Ht,G5)=>(Hs Fx Gl).bind fun (Ge,He)=>(JL Fx).bind fun (Gf,FU)=>(JN Fx).bind fun (IY,M3)=>((bif (!(G5==He)) then some (true) else (bif (Ht !=Ge) then some (true) else (bif (!(FU==M3)) then some (true) else (Ii Gf IY).bind fun KN=>some ((!KN)))))).bind fun Gr=>(bif Gr then some false else ((bif FU then (G4 Fx Gf).bind fun (H4,H7)=>((bif (!H7) then some (true) else (bif G5 then some ((decide (Ht<H4))) else some (false)))).bind fun GL=>(bif GL then some (LR.done false) else (dP (KM Fx Gf) (1)).bind fun y=>match y with|LR.next ()=>some (LR.next ())|LR.done z=>some z) else some (LR.next ()))).bind fun y=>match y with|LR.next ()=>(JO a1).bind fun (GA,GB)=>(HK GA GB).bind fun (G6,Hu)=>(HM GA GB).bind fun (JQ,KO)=>((bif (!(Hu==KO)) then some (true) else (Ii G6 JQ).bind fun I2=>some ((!I2)))).bind fun Il=>(bif Il then some false else ((bif Hu then some ((decide (0<(GB.length:Int)))) else some (false))).bind fun Im=>(bif Im then (dP (JP GA) (0,0)).bind fun Io=>(idx GB (IntKind.i64.wrap ((GB.length:Int)-1))).bind fun KP=>(idx G6 KP).bind fun KQ=>some (KQ==Io) else some true))|LR.done z=>some z))
end Go.Hd
