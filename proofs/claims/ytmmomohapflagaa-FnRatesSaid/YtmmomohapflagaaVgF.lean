import Derived.Test.YtmmomohapflagaaVaE
open Go Go.VS
set_option maxRecDepth 8000
namespace Go.Hi
structure Fq where
 Fv:Int
 Fs:Int
structure FE where
 Code:List Int
 FG:Int
 FV:Int
noncomputable def IM (a0:FE):Option (Int×FE):=
 ((bif (decide (a0.FG<(a0.Code.length:Int))) then (idx a0.Code a0.FG).bind fun GW=>some ((IntKind.i64.wrap GW)) else some (0))).bind fun Fw=>(bif (decide ((IntKind.i64.wrap (a0.FG+1))≤(a0.Code.length:Int))) then some (Fw,(⟨a0.Code,(IntKind.i64.wrap (a0.FG+1)),(IntKind.u64.wrap ((IntKind.u64.wrap ((IntKind.u64.wrap (a0.FV*6364136223846793005))+(IntKind.u64.wrap Fw)))+1442695040888963407))⟩:FE)) else some ((IntKind.i64.wrap (Ab .u64 (uT .u64 (IntKind.u64.wrap ((IntKind.u64.wrap ((IntKind.u64.wrap (a0.FV*6364136223846793005))+(IntKind.u64.wrap Fw)))+1442695040888963407)) 40) 255)),(⟨a0.Code,(IntKind.i64.wrap (a0.FG+1)),(IntKind.u64.wrap ((IntKind.u64.wrap ((IntKind.u64.wrap (a0.FV*6364136223846793005))+(IntKind.u64.wrap Fw)))+1442695040888963407))⟩:FE)))
noncomputable def G7 (a0:FE) (a1:Int):Option (Int×FE):=
 (bif (decide (a1≤1)) then some (0,a0) else (IM a0).bind fun (Hy,IN)=>((bif (decide (200<a1)) then (IM IN).bind fun (Gg,Hk)=>some ((IntKind.i64.wrap ((IntKind.i64.wrap (Hy*256))+Gg)),Hk.Code,Hk.FG,Hk.FV) else some (Hy,IN.Code,IN.FG,IN.FV))).bind fun (FM,FF,FP,F2)=>(md FM a1).bind fun Gy=>some (Gy,(⟨FF,FP,F2⟩:FE)))
noncomputable def Ia (a0:FE) (a1:Int):Option (Bool×FE):=
 (G7 a0 a1).bind fun (FQ,GD)=>some ((FQ==0),GD)
noncomputable def I9 (a0:Int) (a1:Int):Option (Int):=
 (bif (decide (a0<a1)) then some a0 else some a1)
noncomputable def Ib (a0:FE) (a1:List Int):Option (Int×FE):=
 (G7 a0 (a1.length:Int)).bind fun (FQ,GD)=>(idx a1 FQ).bind fun FI=>some (FI,GD)
noncomputable def KU (x:((List Fq)×Int×(List Int)×Int×Int)):Option (LR ((List Fq)×Int×(List Int)×Int×Int) ((List Fq)×(List Int)×Int×Int)):=
 match x with
 |(FT,Gn,Ic,Ie,GP)=>(bif (decide (0<Gn)) then (G7 (⟨Ic,Ie,GP⟩:FE) 4).bind fun (G8,Mm)=>(G7 Mm 14).bind fun (KV,Ka)=>(I9 40 (IntKind.i64.wrap ((IntKind.i64.wrap (1+G8))+KV))).bind fun IP=>(app 16 FT ([(⟨(IntKind.i64.wrap (1+G8)),IP⟩:Fq)]:List Fq)).bind fun Mn=>some (LR.next (Mn,(IntKind.i64.wrap (Gn-1)),Ka.Code,Ka.FG,Ka.FV)) else some (LR.done (FT,Ic,Ie,GP)))
noncomputable def I_ (a0:FE):Option (List Fq×FE):=
 (G7 a0 5).bind fun (GD,FI)=>(Ia FI 20).bind fun (GW,Gb)=>((bif GW then (G7 Gb 2).bind fun (Hk,F6)=>some ((IntKind.i64.wrap (5+Hk)),F6.Code,F6.FG,F6.FV) else some (GD,Gb.Code,Gb.FG,Gb.FV))).bind fun (FF,FP,F2,G9)=>(dP (KU) ([],FF,FP,F2,G9)).bind fun (GF,Gp,Gz,IQ)=>((bif (decide (0<(GF.length:Int))) then (Ia (⟨Gp,Gz,IQ⟩:FE) 30).bind fun (Mo,Kb)=>some (Mo,Kb.Code,Kb.FG,Kb.FV) else some (false,Gp,Gz,IQ))).bind fun (GL,Hz,IS,IT)=>((bif GL then (Ib (⟨Hz,IS,IT⟩:FE) ([0,10,11]:List Int)).bind fun (Kc,Mp)=>(Ib Mp ([5,40,41]:List Int)).bind fun (HO,If)=>(idx GF 0).bind fun _b97=>some ((GF.set (0:Int).toNat (⟨Kc,HO⟩:Fq)),If.Code,If.FG,If.FV) else some (GF,Hz,IS,IT))).bind fun (Ja,Jb,Jc,Jd)=>some (Ja,(⟨Jb,Jc,Jd⟩:FE))
noncomputable def IU (a0:List Int):Option (List Fq):=
 (I_ (⟨a0,0,0⟩:FE)).bind fun (Hy,_b8)=>some Hy
noncomputable def Je (a0:List Int):Option (List Fq):=
 (IU a0).bind fun b3=>some b3
noncomputable def KW (a0:List Fq) (g1:Fq→Option Bool) (x:(Int)):Option (LR (Int) (LR Unit (Int))):=
 match x with
 |(Fy)=>(bif (decide (Fy<(a0.length:Int))) then (idx a0 Fy).bind fun GA=>(g1 GA).bind fun Gg=>(bif Gg then some (LR.done (LR.done Fy)) else some (LR.next ((IntKind.i64.wrap (Fy+1))))) else some (LR.done (LR.next ())))
noncomputable def Jf (a0:List Fq) (g1:Fq→Option Bool):Option (Int):=
 (dP (KW a0 g1) (0)).bind fun y=>match y with|LR.next ()=>some (-1)|LR.done z=>some z
noncomputable def Jg (a0:List Fq) (g1:Fq→Option Bool):Option (Bool):=
 (Jf a0 g1).bind fun b3=>some (decide (0≤b3))
noncomputable def IV (a0:Int) (a1:Int) (a2:Int):Option (Bool):=
 (bif (decide (a1≤a0)) then some (decide (a0≤a2)) else some false)
noncomputable def Kd (a0:Fq):Option (Bool):=
 (IV a0.Fv 1 10).bind fun GD=>(bif (!GD) then some true else (IV a0.Fs a0.Fv 40).bind fun FI=>some (!FI))
noncomputable def Ig (a0:List Fq):Option (Bool):=
 (bif (decide ((a0.length:Int)≤5)) then (Jg a0 Kd).bind fun b3=>some (!b3) else some false)
noncomputable def Hl (Fw:Int) (Gu:List Fq) (x:(Int×Int)):Option (LR (Int×Int) (Int)):=
 match x with
 |(Gf,Gy)=>(bif (decide (Gy<(Gu.length:Int))) then (idx Gu Gy).bind fun F0=>(dv .i64 (IntKind.i64.wrap ((IntKind.i64.wrap (Fw+F0.Fs))-1)) F0.Fs).bind fun Jh=>some (LR.next ((IntKind.i64.wrap (Gf+(IntKind.i64.wrap (F0.Fv*Jh)))),(IntKind.i64.wrap (Gy+1)))) else some (LR.done (Gf)))
noncomputable def HA (a0:List Fq) (a1:Int) (x:(Int)):Option (LR (Int) (LR Unit (Int×Bool))):=
 match x with
 |(Fw)=>(bif (decide (Fw≤200)) then (idx a0 a1).bind fun FW=>(cA a0 0 a1).bind fun Gu=>(dP (Hl Fw Gu) (FW.Fv,0)).bind fun FT=>(bif (FT==Fw) then some (LR.done (LR.done (Fw,true))) else some (LR.next (FT))) else some (LR.done (LR.next ())))
noncomputable def HB (a0:List Fq) (a1:Int):Option (Int×Bool):=
 (idx a0 a1).bind fun FQ=>(dP (HA a0 a1) (FQ.Fv)).bind fun y=>match y with|LR.next ()=>some (0,false)|LR.done z=>some z
noncomputable def Ke (a0:List Fq) (x:(Int)):Option (LR (Int) (LR Unit (Bool×Bool))):=
 match x with
 |(GX)=>(bif (decide (GX<(a0.length:Int))) then (idx a0 GX).bind fun F6=>(HB a0 GX).bind fun (F7,FK)=>((bif (!FK) then some (true) else some ((decide (F6.Fs<F7))))).bind fun GP=>(bif GP then some (LR.done (LR.done (false,true))) else some (LR.next ((IntKind.i64.wrap (GX+1))))) else some (LR.done (LR.next ())))
noncomputable def HP (a0:List Fq):Option (Bool×Bool):=
 (Ig a0).bind fun FQ=>(bif (!FQ) then some (false,false) else (dP (Ke a0) (0)).bind fun y=>match y with|LR.next ()=>some (true,true)|LR.done z=>some z)
noncomputable def IW (a0:Int) (a1:Int) (a2:Int):Option (Bool):=
 (bif (decide (a1≤a0)) then some (decide (a0≤a2)) else some false)
noncomputable def Ji (a0:List Fq) (x:(Int)):Option (LR (Int) (LR Unit (Bool))):=
 match x with
 |(Fy)=>(bif (decide (Fy<(a0.length:Int))) then (idx a0 Fy).bind fun FW=>((IW FW.Fv 1 10).bind fun F7=>(bif (!F7) then some (true) else (IW FW.Fs FW.Fv 40).bind fun FK=>some ((!FK)))).bind fun Gf=>(bif Gf then some (LR.done (LR.done false)) else some (LR.next ((IntKind.i64.wrap (Fy+1))))) else some (LR.done (LR.next ())))
noncomputable def Ih (a0:List Fq):Option (Bool):=
 (dP (Ji a0) (0)).bind fun y=>match y with|LR.next ()=>some (decide ((a0.length:Int)≤5))|LR.done z=>some z
noncomputable def Jj (Fw:Int) (Gu:List Fq) (x:(Int×Int)):Option (LR (Int×Int) (Int)):=
 match x with
 |(Gf,Gy)=>(bif (decide (Gy<(Gu.length:Int))) then (idx Gu Gy).bind fun F0=>(dv .i64 (IntKind.i64.wrap ((IntKind.i64.wrap (Fw+F0.Fs))-1)) F0.Fs).bind fun Jh=>some (LR.next ((IntKind.i64.wrap (Gf+(IntKind.i64.wrap (F0.Fv*Jh)))),(IntKind.i64.wrap (Gy+1)))) else some (LR.done (Gf)))
noncomputable def HC (a0:List Fq) (a1:Int) (x:(Int)):Option (LR (Int) (LR Unit (Int))):=
 match x with
 |(Fw)=>(bif (decide (Fw≤200)) then (idx a0 a1).bind fun FW=>(cA a0 0 a1).bind fun Gu=>(dP (Jj Fw Gu) (FW.Fv,0)).bind fun FT=>(bif (FT==Fw) then some (LR.done (LR.done Fw)) else some (LR.next (FT))) else some (LR.done (LR.next ())))
noncomputable def HD (a0:List Fq) (a1:Int):Option (Int):=
 (idx a0 a1).bind fun b3=>(dP (HC a0 a1) (b3.Fv)).bind fun y=>match y with|LR.next ()=>some (-1)|LR.done z=>some z
noncomputable def Kf (a0:List Fq) (x:(Int)):Option (LR (Int) (LR Unit (Bool))):=
 match x with
 |(Fy)=>(bif (decide (Fy<(a0.length:Int))) then (idx a0 Fy).bind fun FW=>(HD a0 Fy).bind fun F6=>((bif (decide (F6<0)) then some (true) else some ((decide (FW.Fs<F6))))).bind fun FT=>(bif FT then some (LR.done (LR.done false)) else some (LR.next ((IntKind.i64.wrap (Fy+1))))) else some (LR.done (LR.next ())))
noncomputable def Kg (a0:List Fq):Option (Bool):=
 (dP (Kf a0) (0)).bind fun y=>match y with|LR.next ()=>some true|LR.done z=>some z
noncomputable def Ii (a0:List Fq):Option (Bool×Bool):=
 (Ih a0).bind fun FQ=>(bif (!FQ) then some (false,false) else (Kg a0).bind fun Hy=>some (Hy,true))
noncomputable def Jk (a0:Int) (a1:Int) (a2:List Fq):Option (Int):=
 (idx a2 a0).bind fun b3=>(idx a2 a1).bind fun FQ=>some (IntKind.i64.wrap (b3.Fs-FQ.Fs))
noncomputable def Jl (a1:Int) (g3:Int→Int→Option Int) (x:((List Int)×Int)):Option (LR ((List Int)×Int) ((List Int))):=
 match x with
 |(Gv,GG)=>((bif (decide (a1<GG)) then (idx Gv GG).bind fun Mq=>(idx Gv (IntKind.i64.wrap (GG-1))).bind fun F0=>(g3 Mq F0).bind fun Jm=>some ((decide (Jm<0))) else some (false))).bind fun GF=>(bif GF then (idx Gv (IntKind.i64.wrap (GG-1))).bind fun Jn=>(idx Gv GG).bind fun Kh=>(idx Gv GG).bind fun _b47=>(idx (Gv.set GG.toNat Jn) (IntKind.i64.wrap (GG-1))).bind fun _b49=>some (LR.next (((Gv.set GG.toNat Jn).set (IntKind.i64.wrap (GG-1)).toNat Kh),(IntKind.i64.wrap (GG-1)))) else some (LR.done (Gv)))
noncomputable def Ki (a1:Int) (a2:Int) (g3:Int→Int→Option Int) (x:((List Int)×Int)):Option (LR ((List Int)×Int) ((List Int))):=
 match x with
 |(Ij,x3)=>(bif (decide (x3<a2)) then (dP (Jl a1 g3) (Ij,x3)).bind fun Jo=>some (LR.next (Jo,(IntKind.i64.wrap (x3+1)))) else some (LR.done (Ij)))
noncomputable def HQ (a0:List Int) (a1:Int) (a2:Int) (g3:Int→Int→Option Int):Option (List Int):=
 (dP (Ki a1 a2 g3) (a0,(IntKind.i64.wrap (a1+1)))).bind fun Fy=>some Fy
noncomputable def Jp (a1:Int) (g2:Int→Int→Option Int) (x:((List Int)×Int×Int)):Option (LR ((List Int)×Int×Int) ((List Int)×Int)):=
 match x with
 |(Fy,Fw,Ik)=>(bif (decide (Ik≤a1)) then (HQ Fy Fw Ik g2).bind fun Hk=>some (LR.next (Hk,Ik,(IntKind.i64.wrap (Ik+20)))) else some (LR.done (Fy,Fw)))
noncomputable def Mr (a1:Int) (Gn:Int) (x:Unit):Option (LR Unit Unit):=
 match x with
 |()=>(bif (decide ((IntKind.i64.wrap (2*Gn))≤a1)) then none else some (LR.done ()))
noncomputable def Jq (a1:Int) (x:(Int)):Option (LR (Int) Unit):=
 match x with
 |(Gn)=>(bif (decide (Gn<a1)) then (dP (Mr a1 Gn) ()).bind fun _=>((bif (decide ((IntKind.i64.wrap (0+Gn))<a1)) then none else some ())).bind fun _=>some (LR.next ((IntKind.i64.wrap (Gn*2)))) else some (LR.done ()))
noncomputable def Jr (a0:List Int) (a1:Int) (g2:Int→Int→Option Int):Option (List Int):=
 (dP (Jp a1 g2) (a0,0,20)).bind fun (G_,GX)=>(HQ G_ GX a1 g2).bind fun GQ=>(dP (Jq a1) (20)).bind fun _=>some GQ
noncomputable def HR (a0:List Int) (g1:Int→Int→Option Int):Option (List Int):=
 (Jr a0 (a0.length:Int) g1).bind fun b1=>some b1
noncomputable def Kj (a0:List Fq) (x:((List Int)×Int)):Option (LR ((List Int)×Int) ((List Int))):=
 match x with
 |(FM,F2)=>(bif (decide (F2<(a0.length:Int))) then (app 8 FM ([F2]:List Int)).bind fun Ms=>some (LR.next (Ms,(IntKind.i64.wrap (F2+1)))) else some (LR.done (FM)))
noncomputable def Il (a0:List Fq):Option (List Int×Bool):=
 (Ig a0).bind fun FI=>(bif (!FI) then some ([],false) else (dP (Kj a0) ([],0)).bind fun G9=>(HR G9 (fun Im Io=>Jk Im Io a0)).bind fun F0=>some (F0,true))
noncomputable def Kk (a0:List Fq) (F3:List Int) (FK:Fq) (x:(Int)):Option (LR (Int) (Int)):=
 match x with
 |(Gp)=>((bif (decide (Gp<(F3.length:Int))) then (idx F3 Gp).bind fun G8=>(idx a0 G8).bind fun Mt=>some ((decide (Mt.Fs≤FK.Fs))) else some (false))).bind fun Js=>(bif Js then some (LR.next ((IntKind.i64.wrap (Gp+1)))) else some (LR.done (Gp)))
noncomputable def Kl (a0:List Fq) (x:((List Int)×Int)):Option (LR ((List Int)×Int) ((List Int))):=
 match x with
 |(F3,FF)=>(bif (decide (FF<(a0.length:Int))) then (idx a0 FF).bind fun FK=>(dP (Kk a0 F3 FK) (0)).bind fun Gz=>(cA F3 0 Gz).bind fun Mu=>(app 8 ([]:List Int) Mu).bind fun KX=>(app 8 KX ([FF]:List Int)).bind fun KY=>(cA F3 Gz (F3.length:Int)).bind fun Hz=>(app 8 KY Hz).bind fun Mw=>some (LR.next (Mw,(IntKind.i64.wrap (FF+1)))) else some (LR.done (F3)))
noncomputable def Ip (a0:List Fq):Option (List Int×Bool):=
 (Ih a0).bind fun FQ=>(bif (!FQ) then some ([],false) else (dP (Kl a0) ([],0)).bind fun FP=>some (FP,true))
noncomputable def Km (x:(Int×Int)):Option (LR (Int×Int) (Int)):=
 match x with
 |(x3,Fy)=>(bif (Fy !=0) then (md x3 Fy).bind fun Mx=>some (LR.next (Fy,Mx)) else some (LR.done (x3)))
noncomputable def Kn (a0:Int) (a1:Int):Option (Int):=
 (dP (Km) (a0,a1)).bind fun Fw=>some Fw
noncomputable def Iq (a0:List Fq) (x:(Int×Int×Int)):Option (LR (Int×Int×Int) (Int×Int)):=
 match x with
 |(F3,Gm,FM)=>(bif (decide (FM<(a0.length:Int))) then (idx a0 FM).bind fun F7=>(Kn (IntKind.i64.wrap ((IntKind.i64.wrap (F3*F7.Fs))+(IntKind.i64.wrap (F7.Fv*Gm)))) (IntKind.i64.wrap (Gm*F7.Fs))).bind fun HS=>(dv .i64 (IntKind.i64.wrap ((IntKind.i64.wrap (F3*F7.Fs))+(IntKind.i64.wrap (F7.Fv*Gm)))) HS).bind fun Gp=>(dv .i64 (IntKind.i64.wrap (Gm*F7.Fs)) HS).bind fun Gz=>some (LR.next (Gp,Gz,(IntKind.i64.wrap (FM+1)))) else some (LR.done (F3,Gm)))
noncomputable def Hm (a0:List Fq):Option (Int×Int×Bool):=
 (Ig a0).bind fun FQ=>(bif (!FQ) then some (0,0,false) else (dP (Iq a0) (0,1,0)).bind fun (FF,FP)=>some (FF,FP,true))
noncomputable def Jt (x:(Int×Int)):Option (LR (Int×Int) (Int)):=
 match x with
 |(x3,Fy)=>(bif (decide (0<Fy)) then (md x3 Fy).bind fun Gv=>some (LR.next (Fy,Gv)) else some (LR.done (x3)))
noncomputable def Ko (a0:Int) (a1:Int):Option (Int):=
 (dP (Jt) (a0,a1)).bind fun Fw=>some Fw
noncomputable def Ir (a0:List Fq) (x:(Int×Int×Int)):Option (LR (Int×Int×Int) (Int×Int)):=
 match x with
 |(Gm,FM,FF)=>(bif (decide (FF<(a0.length:Int))) then (idx a0 FF).bind fun FK=>(Ko (IntKind.i64.wrap ((IntKind.i64.wrap (Gm*FK.Fs))+(IntKind.i64.wrap (FK.Fv*FM)))) (IntKind.i64.wrap (FM*FK.Fs))).bind fun F4=>(dv .i64 (IntKind.i64.wrap ((IntKind.i64.wrap (Gm*FK.Fs))+(IntKind.i64.wrap (FK.Fv*FM)))) F4).bind fun My=>(dv .i64 (IntKind.i64.wrap (FM*FK.Fs)) F4).bind fun Mz=>some (LR.next (My,Mz,(IntKind.i64.wrap (FF+1)))) else some (LR.done (Gm,FM)))
noncomputable def Is (a0:List Fq):Option (Int×Int×Bool):=
 (Ih a0).bind fun FQ=>(bif (!FQ) then some (0,0,false) else (dP (Ir a0) (0,1,0)).bind fun (FP,F2)=>some (FP,F2,true))
noncomputable def Kp (a0:List Int) (a1:List Int) (x:(Int)):Option (LR (Int) (LR Unit (Bool))):=
 match x with
 |(G_)=>(bif (decide (G_<(a0.length:Int))) then (idx a0 G_).bind fun F6=>(idx a1 G_).bind fun MA=>(bif (F6 !=MA) then some (LR.done (LR.done false)) else some (LR.next ((IntKind.i64.wrap (G_+1))))) else some (LR.done (LR.next ())))
noncomputable def Iu (a0:List Int) (a1:List Int):Option (Bool):=
 (bif ((a0.length:Int) !=(a1.length:Int)) then some false else (dP (Kp a0 a1) (0)).bind fun y=>match y with|LR.next ()=>some true|LR.done z=>some z)
noncomputable def Ju (a0:List Int):Option (List Fq):=
 (IU a0).bind fun b3=>some b3
noncomputable def Kq (FI:List Fq) (GA:List Int) (x:((List Fq)×Int)):Option (LR ((List Fq)×Int) ((List Fq))):=
 match x with
 |(HT,IX)=>(bif (decide (IX<(GA.length:Int))) then (idx GA IX).bind fun MB=>(idx FI MB).bind fun KZ=>(app 16 HT ([KZ]:List Fq)).bind fun MC=>some (LR.next (MC,(IntKind.i64.wrap (IX+1)))) else some (LR.done (HT)))
noncomputable def IY (a0:List Int) (a1:List Int):Option (Bool):=
 (bif (decide (1048576<(IntKind.i64.wrap ((a0.length:Int)+(a1.length:Int))))) then some true else (Je a0).bind fun FI=>(HP FI).bind fun (Gb,Ha)=>(Ii FI).bind fun (MD,ME)=>(Il FI).bind fun (GA,Gg)=>(Ip FI).bind fun (GQ,F7)=>(Hm FI).bind fun (Gq,F4,MF)=>(Is FI).bind fun (F0,K_,Jm)=>((bif (!(Ha==ME)) then some (true) else (bif (!(Gb==MD)) then some (true) else (bif (!(Gg==F7)) then some (true) else (Iu GA GQ).bind fun La=>(bif (!La) then some (true) else (bif (!(MF==Jm)) then some (true) else (bif (Gq !=F0) then some (true) else some ((F4 !=K_))))))))).bind fun Jv=>(bif Jv then some false else ((bif Ha then some (Gg) else some (false))).bind fun Jw=>((bif Jw then (dP (Kq FI GA) ([],0)).bind fun GL=>(HP GL).bind fun (If,Lb)=>(Hm GL).bind fun (Lc,Jx,Ld)=>((bif (!Lb) then some (true) else (bif Gb then (bif (!If) then some (true) else (bif (decide (F4<Gq)) then some (true) else (bif (!Ld) then some (true) else (bif (Lc !=Gq) then some (true) else some ((Jx !=F4)))))) else (bif (!Ld) then some (true) else (bif (Lc !=Gq) then some (true) else some ((Jx !=F4))))))).bind fun Jy=>(bif Jy then some (LR.done false) else some (LR.next ())) else some (LR.next ()))).bind fun y=>match y with|LR.next ()=>(Ju a1).bind fun Jz=>(Il Jz).bind fun (JA,Kr)=>(Ip Jz).bind fun (JB,Ks)=>(bif (Kr==Ks) then (Iu JA JB).bind fun JC=>some JC else some false)|LR.done z=>some z))
end Go.Hi
