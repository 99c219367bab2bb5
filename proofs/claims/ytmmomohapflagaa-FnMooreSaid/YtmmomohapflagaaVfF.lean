import Derived.Test.YtmmomohapflagaaVaE
open Go Go.VS
set_option maxRecDepth 8000
namespace Go.Hr
structure Task where
 Fi:Int
 End:Int
structure Ft where
 Code:List Int
 Fx:Int
 FG:Int
noncomputable def Jz (a0:Ft):Option (Int×Ft):=
 ((bif (decide (a0.Fx<(a0.Code.length:Int))) then (idx a0.Code a0.Fx).bind fun HF=>some ((IntKind.i64.wrap HF)) else some (0))).bind fun Fo=>(bif (decide ((IntKind.i64.wrap (a0.Fx+1))≤(a0.Code.length:Int))) then some (Fo,(⟨a0.Code,(IntKind.i64.wrap (a0.Fx+1)),(IntKind.u64.wrap ((IntKind.u64.wrap ((IntKind.u64.wrap (a0.FG*6364136223846793005))+(IntKind.u64.wrap Fo)))+1442695040888963407))⟩:Ft)) else some ((IntKind.i64.wrap (zX .u64 (uO .u64 (IntKind.u64.wrap ((IntKind.u64.wrap ((IntKind.u64.wrap (a0.FG*6364136223846793005))+(IntKind.u64.wrap Fo)))+1442695040888963407)) 40) 255)),(⟨a0.Code,(IntKind.i64.wrap (a0.Fx+1)),(IntKind.u64.wrap ((IntKind.u64.wrap ((IntKind.u64.wrap (a0.FG*6364136223846793005))+(IntKind.u64.wrap Fo)))+1442695040888963407))⟩:Ft)))
noncomputable def GW (a0:Ft) (a1:Int):Option (Int×Ft):=
 (bif (decide (a1≤1)) then some (0,a0) else (Jz a0).bind fun (Fm,Gl)=>((bif (decide (200<a1)) then (Jz Gl).bind fun (HT,G8)=>some ((IntKind.i64.wrap ((IntKind.i64.wrap (Fm*256))+HT)),G8.Code,G8.Fx,G8.FG) else some (Fm,Gl.Code,Gl.Fx,Gl.FG))).bind fun (FC,FH,FI,Fs)=>(md FC a1).bind fun G9=>some (G9,(⟨FH,FI,Fs⟩:Ft)))
noncomputable def IC (a0:Ft) (a1:Int):Option (Bool×Ft):=
 (GW a0 a1).bind fun (FM,Fy)=>some ((FM==0),Fy)
noncomputable def I6 (a0:Ft) (a1:List Int):Option (Int×Ft):=
 (GW a0 (a1.length:Int)).bind fun (FM,Fy)=>(idx a1 FM).bind fun FJ=>some (FJ,Fy)
noncomputable def MJ (x:((List Task)×Int×(List Int)×Int×Int)):Option (LR ((List Task)×Int×(List Int)×Int×Int) ((List Task)×(List Int)×Int×Int)):=
 match x with
 |(ID,GA,HU,F7,G_)=>(bif (decide (0<GA)) then (GW (⟨HU,F7,G_⟩:Ft) 8).bind fun (LD,OB)=>(GW OB 25).bind fun (I7,FN)=>(app 16 ID ([(⟨(IntKind.i64.wrap (1+LD)),I7⟩:Task)]:List Task)).bind fun Hs=>some (LR.next (Hs,(IntKind.i64.wrap (GA-1)),FN.Code,FN.Fx,FN.FG)) else some (LR.done (ID,HU,F7,G_)))
noncomputable def J8 (a0:Ft):Option (List Task×Ft):=
 (GW a0 7).bind fun (Fy,FJ)=>(IC FJ 20).bind fun (HF,J9)=>((bif HF then (GW J9 2).bind fun (G8,Ht)=>some ((IntKind.i64.wrap (10+G8)),Ht.Code,Ht.Fx,Ht.FG) else some (Fy,J9.Code,J9.Fx,J9.FG))).bind fun (FH,FI,Fs,FD)=>(dP (MJ) ([],FH,FI,Fs,FD)).bind fun (GX,GB,JA,F8)=>((bif (decide (0<(GX.length:Int))) then (IC (⟨GB,JA,F8⟩:Ft) 30).bind fun (OC,HV)=>some (OC,HV.Code,HV.Fx,HV.FG) else some (false,GB,JA,F8))).bind fun (J_,JB,Ic,GY)=>((bif J_ then (I6 (⟨JB,Ic,GY⟩:Ft) ([0,20,21]:List Int)).bind fun (I8,Ka)=>(I6 Ka ([-1,200,201]:List Int)).bind fun (LF,JC)=>(idx GX 0).bind fun _b92=>some ((GX.set (0:Int).toNat (⟨I8,LF⟩:Task)),JC.Code,JC.Fx,JC.FG) else some (GX,JB,Ic,GY))).bind fun (HG,HH,Kb,Hu)=>some (HG,(⟨HH,Kb,Hu⟩:Ft))
noncomputable def MK (a1:Int) (x:((List Int)×Int)):Option (LR ((List Int)×Int) ((List Int))):=
 match x with
 |(Fo,Fk)=>(bif (decide (Fk<a1)) then (app 8 Fo ([Fk]:List Int)).bind fun OD=>some (LR.next (OD,(IntKind.i64.wrap (Fk+1)))) else some (LR.done (Fo)))
noncomputable def ML (a1:Int) (x:((List Int)×Int×(List Int)×Int×Int)):Option (LR ((List Int)×Int×(List Int)×Int×Int) ((List Int)×(List Int)×Int×Int)):=
 match x with
 |(F8,Ha,IE,F0,F3)=>((bif (decide (0<Ha)) then some ((decide (1<a1))) else some (false))).bind fun Kc=>(bif Kc then (GW (⟨IE,F0,F3⟩:Ft) a1).bind fun (GZ,Kd)=>(GW Kd a1).bind fun (LG,LH)=>(idx F8 GZ).bind fun LI=>(idx F8 LG).bind fun HV=>(idx F8 GZ).bind fun _b75=>(idx (F8.set GZ.toNat HV) LG).bind fun _b77=>some (LR.next (((F8.set GZ.toNat HV).set LG.toNat LI),(IntKind.i64.wrap (Ha-1)),LH.Code,LH.Fx,LH.FG)) else some (LR.done (F8,IE,F0,F3)))
noncomputable def Ke (a0:Ft) (a1:Int):Option (List Int×Ft):=
 (dP (MK a1) ([],0)).bind fun Fq=>(GW a0 6).bind fun (I9,I_)=>(dP (ML a1) (Fq,I9,I_.Code,I_.Fx,I_.FG)).bind fun (GC,F5,GD,Hv)=>((bif (decide (0<a1)) then (IC (⟨F5,GD,Hv⟩:Ft) 20).bind fun (LJ,LK)=>some (LJ,LK.Code,LK.Fx,LK.FG) else some (false,F5,GD,Hv))).bind fun (Kf,JD,JE,GF)=>((bif Kf then (GW (⟨JD,JE,GF⟩:Ft) (IntKind.i64.wrap (a1+2))).bind fun (LL,LM)=>(idx GC 0).bind fun _b105=>some ((GC.set (0:Int).toNat (IntKind.i64.wrap (LL-1))),LM.Code,LM.Fx,LM.FG) else some (GC,JD,JE,GF))).bind fun (Kg,Kh,Ki,Kj)=>some (Kg,(⟨Kh,Ki,Kj⟩:Ft))
noncomputable def Kk (a0:List Int):Option (List Task×List Int):=
 (J8 (⟨a0,0,0⟩:Ft)).bind fun (Fm,Gl)=>(Ke Gl (Fm.length:Int)).bind fun (Kl,_b14)=>some (Fm,Kl)
noncomputable def Km (a0:List Int):Option (List Task×List Int):=
 (Kk a0).bind fun (FM,Fy)=>some (FM,Fy)
noncomputable def MN (a0:List Task) (g1:Task→Option Bool) (x:(Int)):Option (LR (Int) (LR Unit (Int))):=
 match x with
 |(Fp)=>(bif (decide (Fp<(a0.length:Int))) then (idx a0 Fp).bind fun Hh=>(g1 Hh).bind fun HT=>(bif HT then some (LR.done (LR.done Fp)) else some (LR.next ((IntKind.i64.wrap (Fp+1))))) else some (LR.done (LR.next ())))
noncomputable def Kn (a0:List Task) (g1:Task→Option Bool):Option (Int):=
 (dP (MN a0 g1) (0)).bind fun y=>match y with|LR.next ()=>some (-1)|LR.done z=>some z
noncomputable def Ko (a0:List Task) (g1:Task→Option Bool):Option (Bool):=
 (Kn a0 g1).bind fun b3=>some (decide (0≤b3))
noncomputable def JF (a0:Int) (a1:Int) (a2:Int):Option (Bool):=
 (bif (decide (a1≤a0)) then some (decide (a0≤a2)) else some false)
noncomputable def LN (a0:Task):Option (Bool):=
 (JF a0.Fi 1 20).bind fun Fy=>(bif (!Fy) then some true else (JF a0.End 0 200).bind fun FJ=>some (!FJ))
noncomputable def IF (a0:List Task):Option (Bool):=
 (bif (decide ((a0.length:Int)≤10)) then (Ko a0 LN).bind fun b3=>some (!b3) else some false)
noncomputable def LO (a0:List Int) (a1:Int) (x:(Int)):Option (LR (Int) (LR Unit (Int))):=
 match x with
 |(Fp)=>(bif (decide (Fp<(a0.length:Int))) then (idx a0 Fp).bind fun Hh=>(bif (a1==Hh) then some (LR.done (LR.done Fp)) else some (LR.next ((IntKind.i64.wrap (Fp+1))))) else some (LR.done (LR.next ())))
noncomputable def LP (a0:List Int) (a1:Int):Option (Int):=
 (dP (LO a0 a1) (0)).bind fun y=>match y with|LR.next ()=>some (-1)|LR.done z=>some z
noncomputable def Kp (a0:List Int) (a1:Int):Option (Bool):=
 (LP a0 a1).bind fun b3=>some (decide (0≤b3))
noncomputable def LQ (a0:List Int) (a1:Int) (x:(Int)):Option (LR (Int) (LR Unit (Bool))):=
 match x with
 |(Fp)=>(bif (decide (Fp<a1)) then (Kp a0 Fp).bind fun Hh=>(bif (!Hh) then some (LR.done (LR.done false)) else some (LR.next ((IntKind.i64.wrap (Fp+1))))) else some (LR.done (LR.next ())))
noncomputable def Kq (a0:List Int) (a1:Int):Option (Bool):=
 (dP (LQ a0 a1) (0)).bind fun y=>match y with|LR.next ()=>some ((a0.length:Int)==a1)|LR.done z=>some z
noncomputable def LS (a0:List Task) (a1:List Int) (x:((List Int)×Int×Int)):Option (LR ((List Int)×Int×Int) ((List Int))):=
 match x with
 |(Fk,Fq,FE)=>(bif (decide (FE<(a1.length:Int))) then (idx a1 FE).bind fun GI=>(idx a0 GI).bind fun HI=>(idx Fk GI).bind fun _b28=>some (LR.next ((Fk.set GI.toNat (IntKind.i64.wrap (Fq+HI.Fi))),(IntKind.i64.wrap (Fq+HI.Fi)),(IntKind.i64.wrap (FE+1)))) else some (LR.done (Fk)))
noncomputable def Kr (a0:List Task) (a1:List Int):Option (List Int):=
 (eX 8 (a0.length:Int) (0:Int)).bind fun Fo=>(dP (LS a0 a1) (Fo,0,0)).bind fun FC=>some FC
noncomputable def LU (a0:List Task) (a1:List Int) (b3:List Int) (x:(Int×Int)):Option (LR (Int×Int) (Int)):=
 match x with
 |(Fk,Fq)=>(bif (decide (Fq<(a1.length:Int))) then ((idx a1 Fq).bind fun GN=>(idx b3 GN).bind fun HW=>(idx a0 GN).bind fun Ja=>((bif (decide (Ja.End<HW)) then some ((IntKind.i64.wrap (Fk+1))) else some (Fk))).bind fun GB=>some (GB)).bind fun G9=>some (LR.next (G9,(IntKind.i64.wrap (Fq+1)))) else some (LR.done (Fk)))
noncomputable def Ks (a0:List Task) (a1:List Int):Option (Int):=
 (Kr a0 a1).bind fun b3=>(dP (LU a0 a1 b3) (0,0)).bind fun FE=>some FE
noncomputable def HX (a0:List Task) (a1:List Int):Option (Int×Bool):=
 ((IF a0).bind fun Hi=>(bif (!Hi) then some (true) else (Kq a1 (a0.length:Int)).bind fun HF=>some ((!HF)))).bind fun Fp=>(bif Fp then some (0,false) else (Ks a0 a1).bind fun Kl=>some (Kl,true))
noncomputable def Jb (a0:Int) (a1:Int) (a2:Int):Option (Bool):=
 (bif (decide (a1≤a0)) then some (decide (a0≤a2)) else some false)
noncomputable def Kt (a0:List Task) (x:(Int)):Option (LR (Int) (LR Unit (Bool))):=
 match x with
 |(Fp)=>(bif (decide (Fp<(a0.length:Int))) then (idx a0 Fp).bind fun Hb=>((Jb Hb.Fi 1 20).bind fun HI=>(bif (!HI) then some (true) else (Jb Hb.End 0 200).bind fun GN=>some ((!GN)))).bind fun Ku=>(bif Ku then some (LR.done (LR.done false)) else some (LR.next ((IntKind.i64.wrap (Fp+1))))) else some (LR.done (LR.next ())))
noncomputable def Jc (a0:List Task):Option (Bool):=
 (dP (Kt a0) (0)).bind fun y=>match y with|LR.next ()=>some (decide ((a0.length:Int)≤10))|LR.done z=>some z
noncomputable def LV (a0:List Int) (a1:Int) (x:(Int)):Option (LR (Int) (LR Unit (Bool))):=
 match x with
 |(Fp)=>(bif (decide (Fp<(a0.length:Int))) then (idx a0 Fp).bind fun Hb=>(bif (Hb==a1) then some (LR.done (LR.done true)) else some (LR.next ((IntKind.i64.wrap (Fp+1))))) else some (LR.done (LR.next ())))
noncomputable def Kv (a0:List Int) (a1:Int):Option (Bool):=
 (dP (LV a0 a1) (0)).bind fun y=>match y with|LR.next ()=>some false|LR.done z=>some z
noncomputable def LW (a0:List Int) (a1:Int) (x:(Int)):Option (LR (Int) (LR Unit (Bool))):=
 match x with
 |(F4)=>(bif (decide (F4<(a0.length:Int))) then (idx a0 F4).bind fun G8=>((Jb G8 0 (IntKind.i64.wrap (a1-1))).bind fun GN=>(bif (!GN) then some (true) else (cy a0 0 F4).bind fun F7=>(Kv F7 G8).bind fun HW=>some (HW))).bind fun G9=>(bif G9 then some (LR.done (LR.done false)) else some (LR.next ((IntKind.i64.wrap (F4+1))))) else some (LR.done (LR.next ())))
noncomputable def Kw (a0:List Int) (a1:Int):Option (Bool):=
 (bif ((a0.length:Int) !=a1) then some false else (dP (LW a0 a1) (0)).bind fun y=>match y with|LR.next ()=>some true|LR.done z=>some z)
noncomputable def LX (a0:List Task) (a1:List Int):Option (Bool):=
 (Jc a0).bind fun b3=>(bif b3 then (Kw a1 (a0.length:Int)).bind fun FM=>some FM else some false)
noncomputable def MO (a0:List Task) (a1:List Int) (x:((List Int)×Int×Int)):Option (LR ((List Int)×Int×Int) ((List Int))):=
 match x with
 |(Fq,FE,FC)=>(bif (decide (FC<(a1.length:Int))) then (idx a1 FC).bind fun G0=>(idx a0 G0).bind fun GN=>(idx Fq G0).bind fun _b29=>some (LR.next ((Fq.set G0.toNat (IntKind.i64.wrap (FE+GN.Fi))),(IntKind.i64.wrap (FE+GN.Fi)),(IntKind.i64.wrap (FC+1)))) else some (LR.done (Fq)))
noncomputable def Kx (a0:List Task) (a1:List Int):Option (List Int):=
 (eX 8 (a0.length:Int) (0:Int)).bind fun Fo=>(dP (MO a0 a1) (Fo,0,0)).bind fun FH=>some FH
noncomputable def LY (a0:Bool):Option (Int):=
 (bif a0 then some 1 else some 0)
noncomputable def LZ (a0:List Task) (Fy:List Int) (x:(Int×Int)):Option (LR (Int×Int) (Int)):=
 match x with
 |(Fk,Fq)=>(bif (decide (Fq<(Fy.length:Int))) then (idx Fy Fq).bind fun FT=>(idx a0 Fq).bind fun G0=>(LY (decide (G0.End<FT))).bind fun HI=>some (LR.next ((IntKind.i64.wrap (Fk+HI)),(IntKind.i64.wrap (Fq+1)))) else some (LR.done (Fk)))
noncomputable def Ky (a0:List Task) (a1:List Int):Option (Int):=
 (Kx a0 a1).bind fun Fy=>(dP (LZ a0 Fy) (0,0)).bind fun FE=>some FE
noncomputable def Jd (a0:List Task) (a1:List Int):Option (Int×Bool):=
 (LX a0 a1).bind fun FM=>(bif (!FM) then some (0,false) else (Ky a0 a1).bind fun Fm=>some (Fm,true))
noncomputable def L3 (a0:Int) (a1:Int) (a2:List Task):Option (Int):=
 (idx a2 a0).bind fun b3=>(idx a2 a1).bind fun FM=>some (IntKind.i64.wrap (b3.End-FM.End))
noncomputable def Kz (a1:Int) (g3:Int→Int→Option Int) (x:((List Int)×Int)):Option (LR ((List Int)×Int) ((List Int))):=
 match x with
 |(Gs,Gc)=>((bif (decide (a1<Gc)) then (idx Gs Gc).bind fun OE=>(idx Gs (IntKind.i64.wrap (Gc-1))).bind fun JG=>(g3 OE JG).bind fun G3=>some ((decide (G3<0))) else some (false))).bind fun GX=>(bif GX then (idx Gs (IntKind.i64.wrap (Gc-1))).bind fun Hc=>(idx Gs Gc).bind fun L4=>(idx Gs Gc).bind fun _b47=>(idx (Gs.set Gc.toNat Hc) (IntKind.i64.wrap (Gc-1))).bind fun _b49=>some (LR.next (((Gs.set Gc.toNat Hc).set (IntKind.i64.wrap (Gc-1)).toNat L4),(IntKind.i64.wrap (Gc-1)))) else some (LR.done (Gs)))
noncomputable def L5 (a1:Int) (a2:Int) (g3:Int→Int→Option Int) (x:((List Int)×Int)):Option (LR ((List Int)×Int) ((List Int))):=
 match x with
 |(Hd,x3)=>(bif (decide (x3<a2)) then (dP (Kz a1 g3) (Hd,x3)).bind fun KA=>some (LR.next (KA,(IntKind.i64.wrap (x3+1)))) else some (LR.done (Hd)))
noncomputable def IG (a0:List Int) (a1:Int) (a2:Int) (g3:Int→Int→Option Int):Option (List Int):=
 (dP (L5 a1 a2 g3) (a0,(IntKind.i64.wrap (a1+1)))).bind fun Fp=>some Fp
noncomputable def KB (a1:Int) (g2:Int→Int→Option Int) (x:((List Int)×Int×Int)):Option (LR ((List Int)×Int×Int) ((List Int)×Int)):=
 match x with
 |(Fp,Fo,Je)=>(bif (decide (Je≤a1)) then (IG Fp Fo Je g2).bind fun G8=>some (LR.next (G8,Je,(IntKind.i64.wrap (Je+20)))) else some (LR.done (Fp,Fo)))
noncomputable def OF (a1:Int) (GA:Int) (x:Unit):Option (LR Unit Unit):=
 match x with
 |()=>(bif (decide ((IntKind.i64.wrap (2*GA))≤a1)) then none else some (LR.done ()))
noncomputable def KC (a1:Int) (x:(Int)):Option (LR (Int) Unit):=
 match x with
 |(GA)=>(bif (decide (GA<a1)) then (dP (OF a1 GA) ()).bind fun _=>((bif (decide ((IntKind.i64.wrap (0+GA))<a1)) then none else some ())).bind fun _=>some (LR.next ((IntKind.i64.wrap (GA*2)))) else some (LR.done ()))
noncomputable def KD (a0:List Int) (a1:Int) (g2:Int→Int→Option Int):Option (List Int):=
 (dP (KB a1 g2) (a0,0,20)).bind fun (F4,Fk)=>(IG F4 Fk a1 g2).bind fun G0=>(dP (KC a1) (20)).bind fun _=>some G0
noncomputable def Jf (a0:List Int) (g1:Int→Int→Option Int):Option (List Int):=
 (KD a0 (a0.length:Int) g1).bind fun b1=>some b1
noncomputable def L6 (a0:List Task) (x:((List Int)×Int)):Option (LR ((List Int)×Int) ((List Int))):=
 match x with
 |(F4,FE)=>(bif (decide (FE<(a0.length:Int))) then (app 8 F4 ([FE]:List Int)).bind fun HU=>some (LR.next (HU,(IntKind.i64.wrap (FE+1)))) else some (LR.done (F4)))
noncomputable def Jg (a0:List Task):Option (List Int):=
 (dP (L6 a0) ([],0)).bind fun FC=>(Jf FC (fun KE Ie=>L3 KE Ie a0)).bind fun I_=>some I_
noncomputable def KF (a0:List Int) (a1:Int) (a2:Int):Option (List Int):=
 (cy a0 a1 a2).bind fun _x3=>(bif (a1==a2) then some a0 else (cy a0 0 a1).bind fun FE=>(cy a0 a2 (a0.length:Int)).bind fun FH=>(app 8 FE FH).bind fun Fs=>some Fs)
noncomputable def JH (a0:List Task) (Gv:List Int) (x:(Int×Int)):Option (LR (Int×Int) (Int)):=
 match x with
 |(If,Gm)=>(bif (decide (Gm<(Gv.length:Int))) then ((idx Gv Gm).bind fun OG=>(idx a0 OG).bind fun JI=>(idx Gv If).bind fun KG=>(idx a0 KG).bind fun I8=>((bif (decide (I8.Fi<JI.Fi)) then some (Gm) else some (If))).bind fun GF=>some (GF)).bind fun HG=>some (LR.next (HG,(IntKind.i64.wrap (Gm+1)))) else some (LR.done (If)))
noncomputable def KH (a0:List Task) (Fy:List Int) (x:((List Int)×(List Int)×Int×Int)):Option (LR ((List Int)×(List Int)×Int×Int) ((List Int)×(List Int))):=
 match x with
 |(Fk,FC,Fs,FD)=>(bif (decide (FD<(Fy.length:Int))) then ((idx Fy FD).bind fun Hc=>(app 8 Fk ([Hc]:List Int)).bind fun Gv=>(idx a0 Hc).bind fun FN=>(idx a0 Hc).bind fun OH=>(bif (decide ((IntKind.i64.wrap (Fs+FN.Fi))≤OH.End)) then some (Gv,FC,(IntKind.i64.wrap (Fs+FN.Fi))) else (dP (JH a0 Gv) (0,0)).bind fun Gp=>(idx Gv Gp).bind fun OI=>(idx a0 OI).bind fun OJ=>(idx Gv Gp).bind fun JJ=>(app 8 FC ([JJ]:List Int)).bind fun OK=>(KF Gv Gp (IntKind.i64.wrap (Gp+1))).bind fun MP=>some (MP,OK,(IntKind.i64.wrap ((IntKind.i64.wrap (Fs+FN.Fi))-OJ.Fi))))).bind fun (KI,F8,F0)=>some (LR.next (KI,F8,F0,(IntKind.i64.wrap (FD+1)))) else some (LR.done (Fk,FC)))
noncomputable def JK (a0:List Task):Option (List Int×Int):=
 (Jg a0).bind fun Fy=>(dP (KH a0 Fy) ([],[],0,0)).bind fun (F9,Gs)=>(app 8 F9 Gs).bind fun OL=>some (OL,(F9.length:Int))
noncomputable def JL (a0:List Task):Option (List Int×Int×Bool):=
 (IF a0).bind fun FM=>(bif (!FM) then some ([],0,false) else (JK a0).bind fun (Gl,Hi)=>some (Gl,Hi,true))
noncomputable def L7 (a0:List Task) (Fo:List Int) (FT:Task) (x:(Int)):Option (LR (Int) (Int)):=
 match x with
 |(F7)=>((bif (decide (F7<(Fo.length:Int))) then (idx Fo F7).bind fun OM=>(idx a0 OM).bind fun L8=>some ((decide (L8.End≤FT.End))) else some (false))).bind fun F5=>(bif F5 then some (LR.next ((IntKind.i64.wrap (F7+1)))) else some (LR.done (F7)))
noncomputable def L9 (a0:List Task) (x:((List Int)×Int)):Option (LR ((List Int)×Int) ((List Int))):=
 match x with
 |(Fo,Fk)=>(bif (decide (Fk<(a0.length:Int))) then (idx a0 Fk).bind fun FT=>(dP (L7 a0 Fo FT) (0)).bind fun G_=>(cy Fo 0 G_).bind fun ON=>(app 8 ([]:List Int) ON).bind fun Hs=>(app 8 Hs ([Fk]:List Int)).bind fun HJ=>(cy Fo G_ (Fo.length:Int)).bind fun Ic=>(app 8 HJ Ic).bind fun IH=>some (LR.next (IH,(IntKind.i64.wrap (Fk+1)))) else some (LR.done (Fo)))
noncomputable def JM (a0:List Task):Option (List Int):=
 (dP (L9 a0) ([],0)).bind fun Fq=>some Fq
noncomputable def MQ (a0:List Task) (Gt:List Int) (x:(Int×Int)):Option (LR (Int×Int) (Int)):=
 match x with
 |(Gm,Gp)=>(bif (decide (Gp<(Gt.length:Int))) then ((idx Gt Gp).bind fun OO=>(idx a0 OO).bind fun KG=>(idx Gt Gm).bind fun L_=>(idx a0 L_).bind fun Ka=>((bif (decide (Ka.Fi<KG.Fi)) then some (Gp) else some (Gm))).bind fun KJ=>some (KJ)).bind fun HH=>some (LR.next (HH,(IntKind.i64.wrap (Gp+1)))) else some (LR.done (Gm)))
noncomputable def KK (a0:List Task) (FJ:List Int) (x:((List Int)×(List Int)×Int×Int)):Option (LR ((List Int)×(List Int)×Int×Int) ((List Int)×(List Int))):=
 match x with
 |(Fq,FH,FD,F9)=>(bif (decide (F9<(FJ.length:Int))) then ((idx FJ F9).bind fun II=>(app 8 Fq ([II]:List Int)).bind fun Gt=>(idx a0 II).bind fun FN=>(idx a0 II).bind fun OP=>(bif (decide ((IntKind.i64.wrap (FD+FN.Fi))≤OP.End)) then some (Gt,FH,(IntKind.i64.wrap (FD+FN.Fi))) else (dP (MQ a0 Gt) (0,0)).bind fun HJ=>(idx Gt HJ).bind fun Ma=>(idx a0 Ma).bind fun JJ=>(cy Gt 0 HJ).bind fun OQ=>(app 8 ([]:List Int) OQ).bind fun MR=>(cy Gt (IntKind.i64.wrap (HJ+1)) (Gt.length:Int)).bind fun OR=>(app 8 MR OR).bind fun OS=>(app 8 FH ([Ma]:List Int)).bind fun OT=>some (OS,OT,(IntKind.i64.wrap ((IntKind.i64.wrap (FD+FN.Fi))-JJ.Fi))))).bind fun (GB,Ha,F3)=>some (LR.next (GB,Ha,F3,(IntKind.i64.wrap (F9+1)))) else some (LR.done (Fq,FH)))
noncomputable def KL (a0:List Task):Option (List Int×List Int):=
 (JM a0).bind fun FJ=>(dP (KK a0 FJ) ([],[],0,0)).bind fun (KM,Gc)=>some (KM,Gc)
noncomputable def JN (a0:List Task):Option (List Int×Int×Bool):=
 (Jc a0).bind fun FM=>(bif (!FM) then some ([],0,false) else (KL a0).bind fun (Gl,Hi)=>(app 8 ([]:List Int) Gl).bind fun F9=>(app 8 F9 Hi).bind fun Gc=>some (Gc,(Gl.length:Int),true))
noncomputable def JO (a0:List Task):Option (Int×Bool):=
 (IF a0).bind fun FM=>(bif (!FM) then some (0,false) else (JK a0).bind fun (_b8,Hi)=>some (Hi,true))
noncomputable def Mb (a0:List Task) (Fm:List Int) (Fs:Int) (x:(Int×Int×Bool×Int)):Option (LR (Int×Int×Bool×Int) (Int×Bool)):=
 match x with
 |(F0,F3,GC,F5)=>(bif (decide (F5<(Fm.length:Int))) then ((idx Fm F5).bind fun GZ=>(sr .i64 Fs (IntKind.u64.wrap GZ)).bind fun GY=>((bif ((zX .i64 GY 1)==1) then (idx a0 GZ).bind fun IJ=>((bif GC then (idx a0 GZ).bind fun JI=>some ((decide ((IntKind.i64.wrap (F3+IJ.Fi))≤JI.End))) else some (false))).bind fun Hu=>some ((IntKind.i64.wrap (F0+1)),(IntKind.i64.wrap (F3+IJ.Fi)),Hu) else some (F0,F3,GC))).bind fun (KN,IH,KO)=>some (KN,IH,KO)).bind fun (Hs,KP,KQ)=>some (LR.next (Hs,KP,KQ,(IntKind.i64.wrap (F5+1)))) else some (LR.done (F0,GC)))
noncomputable def Mc (a0:List Task) (Fm:List Int) (x:(Int×Int)):Option (LR (Int×Int) (Int)):=
 match x with
 |(FI,Fs)=>(sl .i64 1 (IntKind.u64.wrap (a0.length:Int))).bind fun OU=>(bif (decide (Fs<OU)) then ((dP (Mb a0 Fm Fs) (0,0,true,0)).bind fun (GD,Hv)=>((bif Hv then some ((decide (FI<GD))) else some (false))).bind fun GF=>((bif GF then some (GD) else some (FI))).bind fun KR=>some (KR)).bind fun F7=>some (LR.next (F7,(IntKind.i64.wrap (Fs+1)))) else some (LR.done (FI)))
noncomputable def JP (a0:List Task):Option (Int×Bool):=
 (Jc a0).bind fun FM=>(bif (!FM) then some (0,false) else (JM a0).bind fun Fm=>(dP (Mc a0 Fm) (0,0)).bind fun FD=>some (FD,true))
noncomputable def Md (a0:List Int) (a1:List Int) (x:(Int)):Option (LR (Int) (LR Unit (Bool))):=
 match x with
 |(F4)=>(bif (decide (F4<(a0.length:Int))) then (idx a0 F4).bind fun Ht=>(idx a1 F4).bind fun Ig=>(bif (Ht !=Ig) then some (LR.done (LR.done false)) else some (LR.next ((IntKind.i64.wrap (F4+1))))) else some (LR.done (LR.next ())))
noncomputable def KS (a0:List Int) (a1:List Int):Option (Bool):=
 (bif ((a0.length:Int) !=(a1.length:Int)) then some false else (dP (Md a0 a1) (0)).bind fun y=>match y with|LR.next ()=>some true|LR.done z=>some z)
noncomputable def HY (a0:List Int) (a1:List Int):Option (Bool):=
 (bif (decide (1048576<(IntKind.i64.wrap ((a0.length:Int)+(a1.length:Int))))) then some true else (Km a0).bind fun (Fm,Gl)=>(HX Fm Gl).bind fun (Hk,Hw)=>(Jd Fm Gl).bind fun (Hh,HT)=>(JL Fm).bind fun (Ig,FT,GI)=>(JN Fm).bind fun (MS,Ja,I9)=>(JO Fm).bind fun (Hy,G3)=>(JP Fm).bind fun (Hc,II)=>((bif (!(Hw==HT)) then some (true) else (bif (Hk !=Hh) then some (true) else (bif (!(GI==I9)) then some (true) else (bif (FT !=Ja) then some (true) else (KS Ig MS).bind fun I7=>(bif (!I7) then some (true) else (bif (!(G3==II)) then some (true) else (bif (Hy !=Hc) then some (true) else (IF Fm).bind fun FN=>some ((!(FN==I9))))))))))).bind fun KT=>(bif KT then some false else ((bif GI then (HX Fm Ig).bind fun (GZ,Kd)=>((bif (!G3) then some (true) else (bif (FT !=Hy) then some (true) else (bif (!Kd) then some (true) else (bif (GZ !=(IntKind.i64.wrap ((Fm.length:Int)-FT))) then some (true) else (bif Hw then some ((decide (Hk<GZ))) else some (false))))))).bind fun GY=>(bif GY then some (LR.done false) else some (LR.next ())) else some (LR.next ()))).bind fun y=>match y with|LR.next ()=>some (decide (0≤(a1.length:Int)))|LR.done z=>some z))
end Go.Hr
