import Derived.Test.YtmmomohapflagaaVaE
import Derived.Test.YtmmomohapflagaaVaG
open Go Go.VS
set_option maxRecDepth 8000
namespace Go.Fc
structure Span where
 Dz:Int
 To:Int
structure DM where
 Code:List Int
 At:Int
 D4:Int
noncomputable def HZ (a0:DM):Option (Int×DM):=
 ((bif (decide (a0.At<(a0.Code.length:Int))) then (idx a0.Code a0.At).bind fun Ef=>some ((IntKind.i64.wrap Ef)) else some (0))).bind fun DE=>(bif (decide ((IntKind.i64.wrap (a0.At+1))≤(a0.Code.length:Int))) then some (DE,(⟨a0.Code,(IntKind.i64.wrap (a0.At+1)),(IntKind.u64.wrap ((IntKind.u64.wrap ((IntKind.u64.wrap (a0.D4*6364136223846793005))+(IntKind.u64.wrap DE)))+1442695040888963407))⟩:DM)) else some ((IntKind.i64.wrap (zU .u64 (uE .u64 (IntKind.u64.wrap ((IntKind.u64.wrap ((IntKind.u64.wrap (a0.D4*6364136223846793005))+(IntKind.u64.wrap DE)))+1442695040888963407)) 40) 255)),(⟨a0.Code,(IntKind.i64.wrap (a0.At+1)),(IntKind.u64.wrap ((IntKind.u64.wrap ((IntKind.u64.wrap (a0.D4*6364136223846793005))+(IntKind.u64.wrap DE)))+1442695040888963407))⟩:DM)))
noncomputable def Fo (a0:DM) (a1:Int):Option (Int×DM):=
 (bif (decide (a1≤1)) then some (0,a0) else (HZ a0).bind fun (DK,DT)=>((bif (decide (200<a1)) then (HZ DT).bind fun (FW,DN)=>some ((IntKind.i64.wrap ((IntKind.i64.wrap (DK*256))+FW)),DN.Code,DN.At,DN.D4) else some (DK,DT.Code,DT.At,DT.D4))).bind fun (D5,ET,DL,EZ)=>(md D5 a1).bind fun M3=>some (M3,(⟨ET,DL,EZ⟩:DM)))
noncomputable def G0 (a0:DM) (a1:Int):Option (Bool×DM):=
 (Fo a0 a1).bind fun (Eu,Fe)=>some ((Eu==0),Fe)
noncomputable def Ln (x:((List Span)×Int×Int×(List Int)×Int×Int)):Option (LR ((List Span)×Int×Int×(List Int)×Int×Int) ((List Span)×(List Int)×Int×Int)):=
 match x with
 |(DW,En,EG,Hm,Hn,Ge)=>(bif (decide (0<En)) then (Fo (⟨Hm,Hn,Ge⟩:DM) 5).bind fun (Kl,Gf)=>(app 16 DW ([(⟨EG,(IntKind.i64.wrap ((IntKind.i64.wrap (EG+1))+Kl))⟩:Span)]:List Span)).bind fun I0=>(Fo Gf 4).bind fun (Ho,G3)=>some (LR.next (I0,(IntKind.i64.wrap (En-1)),(IntKind.i64.wrap ((IntKind.i64.wrap ((IntKind.i64.wrap ((IntKind.i64.wrap (EG+1))+Kl))+1))+Ho)),G3.Code,G3.At,G3.D4)) else some (LR.done (DW,Hm,Hn,Ge)))
noncomputable def G4 (a0:DM):Option (List Span×DM):=
 (Fo a0 6).bind fun (Fe,Ff)=>(G0 Ff 20).bind fun (Ef,Eo)=>((bif Ef then (Fo Eo 3).bind fun (DN,Ek)=>some ((IntKind.i64.wrap (19+DN)),Ek.Code,Ek.At,Ek.D4) else some (Fe,Eo.Code,Eo.At,Eo.D4))).bind fun (ET,DL,EZ,I1)=>(Fo (⟨DL,EZ,I1⟩:DM) 4).bind fun (E9,D9)=>(fq (Ln) ([],ET,E9,D9.Code,D9.At,D9.D4)).bind fun (Ev,H4,H7,EC)=>((bif (decide (0<(Ev.length:Int))) then (G0 (⟨H4,H7,EC⟩:DM) 30).bind fun (M4,H8)=>some (M4,H8.Code,H8.At,H8.D4) else some (false,H4,H7,EC))).bind fun (G5,H9,H_,Ia)=>((bif G5 then (idx Ev 0).bind fun GA=>(idx Ev 0).bind fun Hp=>some ((Ev.set (0:Int).toNat (⟨Hp.Dz,(IntKind.i64.wrap (GA.To+3))⟩:Span))) else some (Ev))).bind fun I2=>some (I2,(⟨H9,H_,Ia⟩:DM))
noncomputable def I3 (a0:List Int):Option (List Span×List Span):=
 (G4 (⟨a0,0,0⟩:DM)).bind fun (DK,DT)=>(G4 DT).bind fun (Ew,_b13)=>some (DK,Ew)
noncomputable def Hq (a0:Span):Option (Bool):=
 (bif (decide (0≤a0.Dz)) then (bif (decide (a0.Dz<a0.To)) then some (decide (a0.To≤1000000)) else some false) else some false)
noncomputable def I4 (a0:List Span) (x:(Int)):Option (LR (Int) (LR Unit (Bool))):=
 match x with
 |(DO)=>(bif (decide (DO<(a0.length:Int))) then (idx a0 DO).bind fun DN=>((Hq DN).bind fun G6=>(bif (!G6) then some (true) else (bif (decide (0<DO)) then (idx a0 (IntKind.i64.wrap (DO-1))).bind fun Gg=>some ((decide (DN.Dz≤Gg.To))) else some (false)))).bind fun I5=>(bif I5 then some (LR.done (LR.done false)) else some (LR.next ((IntKind.i64.wrap (DO+1))))) else some (LR.done (LR.next ())))
noncomputable def Fp (a0:List Span):Option (Bool):=
 (bif (decide (20<(a0.length:Int))) then some false else (fq (I4 a0) (0)).bind fun y=>match y with|LR.next ()=>some true|LR.done z=>some z)
noncomputable def I6 (a1:Int):Option (List Span):=
 ((bif (decide (a1<0)) then none else some ())).bind fun _=>((bif (decide (0<(IntKind.i64.wrap (a1-(IntKind.i64.wrap (0-0)))))) then (j_ 16 (IntKind.i64.wrap (a1-(IntKind.i64.wrap (0-0)))) ((⟨0,0⟩:Span):Span)).bind fun G7=>(gD G7 0 0).bind fun Ib=>some (Ib) else some ([]))).bind fun D5=>some D5
noncomputable def I7 (a0:List (List Span)) (x:(Int×Int)):Option (LR (Int×Int) (Int)):=
 match x with
 |(DE,DF)=>(bif (decide (DF<(a0.length:Int))) then ((idx a0 DF).bind fun E9=>((bif (decide ((IntKind.i64.wrap (DE+(E9.length:Int)))<0)) then none else some ())).bind fun _=>some ((IntKind.i64.wrap (DE+(E9.length:Int))))).bind fun G7=>some (LR.next (G7,(IntKind.i64.wrap (DF+1)))) else some (LR.done (DE)))
noncomputable def I8 (a0:List (List Span)) (x:((List Span)×Int)):Option (LR ((List Span)×Int) ((List Span))):=
 match x with
 |(EC,EU)=>(bif (decide (EU<(a0.length:Int))) then (idx a0 EU).bind fun Hr=>(app 16 EC Hr).bind fun I0=>some (LR.next (I0,(IntKind.i64.wrap (EU+1)))) else some (LR.done (EC)))
noncomputable def I9 (a0:List (List Span)):Option (List Span):=
 (fq (I7 a0) (0,0)).bind fun DO=>(I6 DO).bind fun EL=>(fq (I8 a0) (EL,0)).bind fun FX=>some FX
noncomputable def Hs (a0:List Span):Option (List Span):=
 app 16 [] a0
def M5 (x:Span):List Int:=[x.Dz,x.To]
def M6:List Int→Span
 |[a,b]=>⟨a,b⟩
 |_=>⟨0,0⟩
noncomputable def Lo (a0:List Span):Option (List Span):=
 nx 2 M5 M6 a0
noncomputable def I_ (DK:List Span) (x:((List Span)×Int)):Option (LR ((List Span)×Int) ((List Span))):=
 match x with
 |(DJ,DL)=>(bif (decide (DL<(DK.length:Int))) then ((idx DK DL).bind fun EL=>((bif (decide (0≤(IntKind.i64.wrap ((DJ.length:Int)-1)))) then (idx DJ (IntKind.i64.wrap ((DJ.length:Int)-1))).bind fun M7=>some ((decide (EL.Dz≤M7.To))) else some (false))).bind fun Fg=>(bif Fg then (idx DJ (IntKind.i64.wrap ((DJ.length:Int)-1))).bind fun Ht=>(idx DJ (IntKind.i64.wrap ((DJ.length:Int)-1))).bind fun DU=>some ((DJ.set (IntKind.i64.wrap ((DJ.length:Int)-1)).toNat (⟨DU.Dz,(if EL.To>Ht.To then EL.To else Ht.To)⟩:Span))) else (app 16 DJ ([EL]:List Span)).bind fun M8=>some (M8))).bind fun DW=>some (LR.next (DW,(IntKind.i64.wrap (DL+1)))) else some (LR.done (DJ)))
noncomputable def Gh (a0:List Span):Option (List Span):=
 (Hs a0).bind fun b3=>(Lo b3).bind fun DK=>(fq (I_ DK) ([],0)).bind fun EZ=>some EZ
noncomputable def Gi (a0:List Span):Option (List Span×Bool):=
 (bif (decide (20<(a0.length:Int))) then some ([],false) else some (a0,true))
noncomputable def Ja (a0:List Span) (a1:List Span):Option (List Span×Bool):=
 ((Fp a0).bind fun EV=>(bif (!EV) then some (true) else (Fp a1).bind fun Ef=>some ((!Ef)))).bind fun DP=>(bif DP then some ([],false) else (I9 ([a0,a1]:List (List Span))).bind fun Eg=>(Gh Eg).bind fun E_=>(Gi E_).bind fun (DH,E9)=>some (DH,E9))
noncomputable def Ic (a0:Span):Option (Bool):=
 (bif (decide (0≤a0.Dz)) then (bif (decide (a0.Dz<a0.To)) then some (decide (a0.To≤1000000)) else some false) else some false)
noncomputable def Jb (a0:List Span) (x:(Int)):Option (LR (Int) (LR Unit (Bool))):=
 match x with
 |(DP)=>(bif (decide (DP<(a0.length:Int))) then (idx a0 DP).bind fun D_=>((Ic D_).bind fun DV=>(bif (!DV) then some (true) else (bif (decide (0<DP)) then (idx a0 (IntKind.i64.wrap (DP-1))).bind fun EM=>some ((decide (D_.Dz≤EM.To))) else some (false)))).bind fun Jc=>(bif Jc then some (LR.done (LR.done false)) else some (LR.next ((IntKind.i64.wrap (DP+1))))) else some (LR.done (LR.next ())))
noncomputable def Gj (a0:List Span):Option (Bool):=
 (fq (Jb a0) (0)).bind fun y=>match y with|LR.next ()=>some (decide ((a0.length:Int)≤20))|LR.done z=>some z
noncomputable def Ie (a0:List Span) (a1:List Span):Option (Bool):=
 (Gj a0).bind fun b3=>(bif b3 then (Gj a1).bind fun Eu=>some Eu else some false)
noncomputable def If (a0:Int) (a1:Int):Option (Int):=
 (bif (decide (a0<a1)) then some a0 else some a1)
noncomputable def Ig (a0:Int) (a1:Int):Option (Int):=
 (bif (decide (a1<a0)) then some a0 else some a1)
noncomputable def Jd (a0:List Span) (a1:Span) (x:((List Span)×Int)):Option (LR ((List Span)×Int) ((List Span)×Int)):=
 match x with
 |(DO,DJ)=>((bif (decide (DJ<(a0.length:Int))) then (idx a0 DJ).bind fun G8=>some ((decide (G8.To<a1.Dz))) else some (false))).bind fun Je=>(bif Je then (idx a0 DJ).bind fun Hu=>(app 16 DO ([Hu]:List Span)).bind fun Ge=>some (LR.next (Ge,(IntKind.i64.wrap (DJ+1)))) else some (LR.done (DO,DJ)))
noncomputable def Jf (a0:List Span) (x:(Int×Int×Int)):Option (LR (Int×Int×Int) (Int×Int×Int)):=
 match x with
 |(Fq,Fg,EU)=>((bif (decide (Fq<(a0.length:Int))) then (idx a0 Fq).bind fun Jg=>some ((decide (Jg.Dz≤EU))) else some (false))).bind fun Jh=>(bif Jh then (idx a0 Fq).bind fun G3=>(If Fg G3.Dz).bind fun GB=>(idx a0 Fq).bind fun G9=>(Ig EU G9.To).bind fun Gk=>some (LR.next ((IntKind.i64.wrap (Fq+1)),GB,Gk)) else some (LR.done (Fq,Fg,EU)))
noncomputable def Ih (a0:List Span) (a1:Span):Option (List Span):=
 (fq (Jd a0 a1) ([],0)).bind fun (D5,DL)=>(fq (Jf a0) (DL,a1.Dz,a1.To)).bind fun (FX,GC,EW)=>(app 16 D5 ([(⟨GC,EW⟩:Span)]:List Span)).bind fun Lp=>(gD a0 FX (a0.length:Int)).bind fun M9=>(app 16 Lp M9).bind fun M_=>some M_
noncomputable def Ji (a1:List Span) (x:((List Span)×Int)):Option (LR ((List Span)×Int) ((List Span))):=
 match x with
 |(DX,ET)=>(bif (decide (ET<(a1.length:Int))) then (idx a1 ET).bind fun EM=>(Ih DX EM).bind fun Gg=>some (LR.next (Gg,(IntKind.i64.wrap (ET+1)))) else some (LR.done (DX)))
noncomputable def Jj (a0:List Span) (a1:List Span):Option (List Span):=
 (app 16 ([]:List Span) a0).bind fun DP=>(fq (Ji a1) (DP,0)).bind fun DL=>some DL
noncomputable def GD (a0:List Span):Option (List Span×Bool):=
 (bif (decide (20<(a0.length:Int))) then some (([]:List Span),false) else some (a0,true))
noncomputable def Jk (a0:List Span) (a1:List Span):Option (List Span×Bool):=
 (Ie a0 a1).bind fun Eu=>(bif (!Eu) then some (([]:List Span),false) else (Jj a0 a1).bind fun DT=>(GD DT).bind fun (Ew,ED)=>some (Ew,ED))
noncomputable def Ii (a1:List Span) (DH:Span) (x:((List Span)×Int)):Option (LR ((List Span)×Int) ((List Span))):=
 match x with
 |(DW,En)=>(bif (decide (En<(a1.length:Int))) then ((idx a1 En).bind fun DU=>((bif (decide ((if DU.Dz>DH.Dz then DU.Dz else DH.Dz)<(if DU.To<DH.To then DU.To else DH.To))) then (app 16 DW ([(⟨(if DU.Dz>DH.Dz then DU.Dz else DH.Dz),(if DU.To<DH.To then DU.To else DH.To)⟩:Span)]:List Span)).bind fun Na=>some (Na) else some (DW))).bind fun Jl=>some (Jl)).bind fun EW=>some (LR.next (EW,(IntKind.i64.wrap (En+1)))) else some (LR.done (DW)))
noncomputable def Jm (a0:List Span) (a1:List Span) (x:((List Span)×Int)):Option (LR ((List Span)×Int) ((List Span))):=
 match x with
 |(DE,EF)=>(bif (decide (EF<(a0.length:Int))) then (idx a0 EF).bind fun DH=>(fq (Ii a1 DH) (DE,0)).bind fun EG=>some (LR.next (EG,(IntKind.i64.wrap (EF+1)))) else some (LR.done (DE)))
noncomputable def Hv (a0:List Span) (a1:List Span):Option (List Span):=
 (fq (Jm a0 a1) ([],0)).bind fun DX=>(Gh DX).bind fun Jn=>some Jn
noncomputable def Jo (a0:List Span) (a1:List Span):Option (List Span×Bool):=
 ((Fp a0).bind fun EV=>(bif (!EV) then some (true) else (Fp a1).bind fun Ef=>some ((!Ef)))).bind fun DP=>(bif DP then some ([],false) else (Hv a0 a1).bind fun ED=>(Gi ED).bind fun (Fs,D_)=>some (Fs,D_))
noncomputable def Ij (a1:List Span) (DH:Span) (x:((List Span)×Int)):Option (LR ((List Span)×Int) ((List Span))):=
 match x with
 |(DW,En)=>(bif (decide (En<(a1.length:Int))) then ((idx a1 En).bind fun DU=>(Ig DH.Dz DU.Dz).bind fun Gf=>(If DH.To DU.To).bind fun Hw=>((bif (decide (Gf<Hw)) then (app 16 DW ([(⟨Gf,Hw⟩:Span)]:List Span)).bind fun G5=>some (G5) else some (DW))).bind fun G_=>some (G_)).bind fun EW=>some (LR.next (EW,(IntKind.i64.wrap (En+1)))) else some (LR.done (DW)))
noncomputable def Jp (a0:List Span) (a1:List Span) (x:((List Span)×Int)):Option (LR ((List Span)×Int) ((List Span))):=
 match x with
 |(DE,EF)=>(bif (decide (EF<(a0.length:Int))) then (idx a0 EF).bind fun DH=>(fq (Ij a1 DH) (DE,0)).bind fun EG=>some (LR.next (EG,(IntKind.i64.wrap (EF+1)))) else some (LR.done (DE)))
noncomputable def Ik (a0:List Span) (a1:List Span):Option (List Span):=
 (fq (Jp a0 a1) ([],0)).bind fun DX=>some DX
noncomputable def Jq (a0:List Span) (a1:List Span):Option (List Span×Bool):=
 (Ie a0 a1).bind fun Eu=>(bif (!Eu) then some (([]:List Span),false) else (Ik a0 a1).bind fun DT=>(GD DT).bind fun (Ew,ED)=>some (Ew,ED))
noncomputable def Jr (a0:List Span) (a1:List Span) (x:(Int)):Option (LR (Int) (LR Unit (Bool))):=
 match x with
 |(DO)=>(bif (decide (DO<(a0.length:Int))) then (idx a0 DO).bind fun Ek=>(idx a1 DO).bind fun FY=>(bif (!((Ek.Dz==FY.Dz)&&((Ek.To==FY.To)&&true))) then some (LR.done (LR.done false)) else some (LR.next ((IntKind.i64.wrap (DO+1))))) else some (LR.done (LR.next ())))
noncomputable def F0 (a0:List Span) (a1:List Span):Option (Bool):=
 (bif ((a0.length:Int) !=(a1.length:Int)) then some false else (fq (Jr a0 a1) (0)).bind fun y=>match y with|LR.next ()=>some true|LR.done z=>some z)
noncomputable def Fz (a0:List Span):Option (Bool):=
 (Fp a0).bind fun b3=>some b3
noncomputable def Js (a0:List Span) (x:(Int×Int)):Option (LR (Int×Int) (Int)):=
 match x with
 |(DE,DF)=>(bif (decide (DF<(a0.length:Int))) then (idx a0 DF).bind fun DN=>some (LR.next ((IntKind.i64.wrap (DE+(IntKind.i64.wrap (DN.To-DN.Dz)))),(IntKind.i64.wrap (DF+1)))) else some (LR.done (DE)))
noncomputable def Hy (a0:List Span):Option (Int):=
 (fq (Js a0) (0,0)).bind fun DO=>some DO
noncomputable def FA (a0:List Span):Option (Int×Bool):=
 (Fp a0).bind fun Eu=>(bif (!Eu) then some (0,false) else (Hy a0).bind fun DK=>some (DK,true))
noncomputable def Km (a0:List Int) (x:(Int×Int)):Option (LR (Int×Int) (Int)):=
 match x with
 |(DE,DF)=>(bif (decide (DF<(a0.length:Int))) then (idx a0 DF).bind fun DN=>some (LR.next ((Int.tmod (IntKind.i64.wrap ((IntKind.i64.wrap (31*DE))+(IntKind.i64.wrap DN))) 1000003),(IntKind.i64.wrap (DF+1)))) else some (LR.done (DE)))
noncomputable def Il (a0:List Int):Option (Int):=
 (fq (Km a0) (0,0)).bind fun DO=>some DO
noncomputable def Kn (a0:Span) (a1:Int):Option (Bool):=
 (bif (decide (a0.Dz≤a1)) then some (decide (a1<a0.To)) else some false)
noncomputable def Lq (a0:List Span) (g1:Span→Option Bool) (x:(Int)):Option (LR (Int) (LR Unit (Int))):=
 match x with
 |(DP)=>(bif (decide (DP<(a0.length:Int))) then (idx a0 DP).bind fun E_=>(g1 E_).bind fun FW=>(bif FW then some (LR.done (LR.done DP)) else some (LR.next ((IntKind.i64.wrap (DP+1))))) else some (LR.done (LR.next ())))
noncomputable def Jt (a0:List Span) (g1:Span→Option Bool):Option (Int):=
 (fq (Lq a0 g1) (0)).bind fun y=>match y with|LR.next ()=>some (-1)|LR.done z=>some z
noncomputable def Ju (a0:List Span) (g1:Span→Option Bool):Option (Bool):=
 (Jt a0 g1).bind fun b3=>some (decide (0≤b3))
noncomputable def Jv (a0:List Span) (a1:Int):Option (Bool):=
 (Ju a0 (fun Pn=>Kn Pn a1)).bind fun Fe=>some Fe
noncomputable def E0 (a0:List Span) (a1:Int):Option (Bool×Bool):=
 (Fp a0).bind fun Eu=>(bif (!Eu) then some (false,false) else (Jv a0 a1).bind fun DK=>some (DK,true))
noncomputable def Ha (a0:DM) (a1:List Int):Option (Int×DM):=
 (Fo a0 (a1.length:Int)).bind fun (Eu,Fe)=>(idx a1 Eu).bind fun Ff=>some (Ff,Fe)
noncomputable def Jw (a0:List Int):Option (List Span×Int):=
 (G4 (⟨a0,0,0⟩:DM)).bind fun (DK,DT)=>(Ha DT ([-1,0,5,20,40,1000000,1000001]:List Int)).bind fun (EO,_b15)=>some (DK,EO)
noncomputable def Jx (a0:Int) (a1:Int) (a2:Int):Option (Bool):=
 (bif (decide (a1≤a0)) then some (decide (a0≤a2)) else some false)
noncomputable def Jy (a1:Int) (DJ:List Span) (x:((List Span)×Int×Int)):Option (LR ((List Span)×Int×Int) ((List Span))):=
 match x with
 |(DL,GF,Hz)=>(bif (decide (Hz<(DJ.length:Int))) then (idx DJ Hz).bind fun EX=>((bif (decide (GF<(if a1<EX.Dz then a1 else EX.Dz))) then (app 16 DL ([(⟨GF,(if a1<EX.Dz then a1 else EX.Dz)⟩:Span)]:List Span)).bind fun Nb=>some (Nb) else some (DL))).bind fun EC=>some (LR.next (EC,(if EX.To>GF then EX.To else GF),(IntKind.i64.wrap (Hz+1)))) else some (LR.done (DL)))
noncomputable def Im (a0:List Span) (a1:Int):Option (List Span):=
 (Hs a0).bind fun Fe=>(app 16 Fe ([(⟨a1,a1⟩:Span)]:List Span)).bind fun DJ=>(fq (Jy a1 DJ) ([],0,0)).bind fun Jz=>some Jz
noncomputable def JA (a0:List Span) (a1:Int):Option (List Span×Bool):=
 ((Fp a0).bind fun EV=>(bif (!EV) then some (true) else (Jx a1 0 1000000).bind fun Ef=>some ((!Ef)))).bind fun DP=>(bif DP then some ([],false) else (Im a0 a1).bind fun ED=>(Gi ED).bind fun (Fs,D_)=>some (Fs,D_))
noncomputable def JB (a0:Int) (a1:Int) (a2:Int):Option (Bool):=
 (bif (decide (a1≤a0)) then some (decide (a0≤a2)) else some false)
noncomputable def JC (a0:List Span) (a1:Int) (x:((List Span)×Int×Int)):Option (LR ((List Span)×Int×Int) ((List Span)×Int)):=
 match x with
 |(DF,DX,DJ)=>(bif (decide (DJ<(a0.length:Int))) then (idx a0 DJ).bind fun DV=>(bif (decide (a1≤DV.Dz)) then some (LR.done (DF,DX)) else ((bif (decide (DX<DV.Dz)) then (app 16 DF ([(⟨DX,DV.Dz⟩:Span)]:List Span)).bind fun GC=>some (GC) else some (DF))).bind fun Ev=>some (LR.next (Ev,DV.To,(IntKind.i64.wrap (DJ+1))))) else some (LR.done (DF,DX)))
noncomputable def Io (a0:List Span) (a1:Int):Option (List Span):=
 (fq (JC a0 a1) ([],0,0)).bind fun (D5,DL)=>((bif (decide (DL<a1)) then (app 16 D5 ([(⟨DL,a1⟩:Span)]:List Span)).bind fun G_=>some (G_) else some (D5))).bind fun JD=>some JD
noncomputable def JE (a0:List Span) (a1:Int):Option (List Span×Bool):=
 ((Gj a0).bind fun EV=>(bif (!EV) then some (true) else (JB a1 0 1000000).bind fun Ef=>some ((!Ef)))).bind fun DP=>(bif DP then some (([]:List Span),false) else (Io a0 a1).bind fun EO=>(GD EO).bind fun (D_,E_)=>some (D_,E_))
noncomputable def JF (a0:DM):Option (Span×DM):=
 (G0 a0 30).bind fun (DK,DT)=>(bif DK then (Ha DT ([-1,5,999999]:List Int)).bind fun (ED,EO)=>(Ha EO ([0,5,1000000,1000001]:List Int)).bind fun (D_,E_)=>some ((⟨ED,D_⟩:Span),E_) else (Fo DT 30).bind fun (Ek,FY)=>(Fo FY 8).bind fun (D9,DV)=>some ((⟨Ek,(IntKind.i64.wrap ((IntKind.i64.wrap (Ek+1))+D9))⟩:Span),DV))
noncomputable def JG (a0:List Int):Option (List Span×Span):=
 (G4 (⟨a0,0,0⟩:DM)).bind fun (EV,Ef)=>(JF Ef).bind fun (EO,_b15)=>some (EV,EO)
noncomputable def JH (a0:List Span) (a1:Span):Option (List Span×Int×Bool):=
 ((Fp a0).bind fun Eo=>(bif (!Eo) then some (true) else (Hq a1).bind fun Ew=>some ((!Ew)))).bind fun DF=>(bif DF then some ([],0,false) else (Hs a0).bind fun Eg=>(app 16 Eg ([a1]:List Span)).bind fun Ib=>(Gh Ib).bind fun DH=>(Gi DH).bind fun (G8,G6)=>(bif (!G6) then some ([],0,false) else (Hy G8).bind fun Lr=>(Hy a0).bind fun Nc=>some (G8,(IntKind.i64.wrap (Lr-Nc)),true)))
noncomputable def Nd (a0:List Span) (x:(Int×Int)):Option (LR (Int×Int) (Int)):=
 match x with
 |(DE,DF)=>(bif (decide (DF<(a0.length:Int))) then (idx a0 DF).bind fun DN=>some (LR.next ((IntKind.i64.wrap (DE+(IntKind.i64.wrap (DN.To-DN.Dz)))),(IntKind.i64.wrap (DF+1)))) else some (LR.done (DE)))
noncomputable def JI (a0:List Span):Option (Int):=
 (fq (Nd a0) (0,0)).bind fun DO=>some DO
noncomputable def JJ (a0:List Span) (a1:Span):Option (List Span×Int×Bool):=
 ((Gj a0).bind fun Eo=>(bif (!Eo) then some (true) else (Ic a1).bind fun Ew=>some ((!Ew)))).bind fun DF=>(bif DF then some (([]:List Span),0,false) else (Ih a0 a1).bind fun Fa=>(GD Fa).bind fun (FW,DN)=>(bif (!DN) then some (([]:List Span),0,false) else (JI FW).bind fun DV=>(JI a0).bind fun EM=>some (FW,(IntKind.i64.wrap (DV-EM)),true)))
noncomputable def HA (a0:List Span) (a1:Span):Option (List Span×Bool):=
 ((Fp a0).bind fun Eo=>(bif (!Eo) then some (true) else (Hq a1).bind fun Ew=>some ((!Ew)))).bind fun DF=>(bif DF then some ([],false) else (Im ([a1]:List Span) 1000000).bind fun Fs=>(Hv a0 Fs).bind fun DN=>(Gi DN).bind fun (D9,DV)=>some (D9,DV))
noncomputable def JK (a0:List Span) (a1:Span):Option (List Span×Bool):=
 ((Gj a0).bind fun Eo=>(bif (!Eo) then some (true) else (Ic a1).bind fun Ew=>some ((!Ew)))).bind fun DF=>(bif DF then some (([]:List Span),false) else (Io ([a1]:List Span) 1000000).bind fun D_=>(Ik a0 D_).bind fun Ek=>(GD Ek).bind fun (DV,EM)=>some (DV,EM))
noncomputable def JL (a0:List Int) (a1:List Int):Option (Bool):=
 (bif (decide (1048576<(IntKind.i64.wrap ((a0.length:Int)+(a1.length:Int))))) then some true else (I3 a0).bind fun (DK,DT)=>(Ja DK DT).bind fun (Eg,Fa)=>(Jk DK DT).bind fun (Ek,FY)=>(Jo DK DT).bind fun (D9,DV)=>(Jq DK DT).bind fun (Hu,EX)=>((bif (!(Fa==FY)) then some (true) else (F0 Eg Ek).bind fun Ls=>(bif (!Ls) then some (true) else (bif (!(DV==EX)) then some (true) else (F0 D9 Hu).bind fun Lt=>(bif (!Lt) then some (true) else (Fz DK).bind fun Lu=>(Gj DK).bind fun Lv=>some ((!(Lu==Lv)))))))).bind fun Ev=>(bif Ev then some false else ((bif Fa then some (DV) else some (false))).bind fun HB=>((bif HB then (FA DK).bind fun (Hr,Ko)=>(FA DT).bind fun (Ip,Ho)=>(FA Eg).bind fun (G9,Gk)=>(FA D9).bind fun (Kp,Kq)=>(Il a1).bind fun HC=>(E0 DK (Int.tmod HC 40)).bind fun (Kr,Iq)=>(E0 DT (Int.tmod HC 40)).bind fun (Ir,Ks)=>(E0 Eg (Int.tmod HC 40)).bind fun (Is,GA)=>(E0 D9 (Int.tmod HC 40)).bind fun (Iu,Kt)=>((bif (!Ko) then some (true) else (bif (!Ho) then some (true) else (bif (!Gk) then some (true) else (bif (!Kq) then some (true) else (bif ((IntKind.i64.wrap (G9+Kp)) !=(IntKind.i64.wrap (Hr+Ip))) then some (true) else (bif (!Iq) then some (true) else (bif (!Ks) then some (true) else (bif (!GA) then some (true) else (bif (!Kt) then some (true) else (bif Kr then (bif (!(Is==true)) then some (true) else (bif (!(Iu==Ir)) then some (true) else (Fz Eg).bind fun JM=>(bif (!JM) then some (true) else (Fz D9).bind fun Iv=>some ((!Iv))))) else (bif (!(Is==Ir)) then some (true) else (bif (!(Iu==false)) then some (true) else (Fz Eg).bind fun JN=>(bif (!JN) then some (true) else (Fz D9).bind fun Iw=>some ((!Iw)))))))))))))))).bind fun HD=>(bif HD then some (LR.done false) else some (LR.next ())) else some (LR.next ()))).bind fun y=>match y with|LR.next ()=>((Jw a1).bind fun (FB,FC)=>(JA FB FC).bind fun (Ix,F1)=>(JE FB FC).bind fun (Lw,Nf)=>(JG a1).bind fun (Iy,Ey)=>(JH Iy Ey).bind fun (GG,Ng,EP)=>(JJ Iy Ey).bind fun (Ly,Nh,Ni)=>(HA Iy Ey).bind fun (GI,EH)=>(JK Iy Ey).bind fun (Lz,Nj)=>((bif (!(F1==Nf)) then some (true) else (F0 Ix Lw).bind fun LA=>(bif (!LA) then some (true) else (bif (!(EP==Ni)) then some (true) else (bif (Ng !=Nh) then some (true) else (F0 GG Ly).bind fun LB=>(bif (!LB) then some (true) else (bif (!(EH==Nj)) then some (true) else (F0 GI Lz).bind fun Ku=>some ((!Ku))))))))).bind fun JO=>(bif JO then some false else ((bif F1 then (Il a0).bind fun JP=>(E0 FB (Int.tmod JP 50)).bind fun (JQ,Kv)=>(E0 Ix (Int.tmod JP 50)).bind fun (Hb,Kw)=>((bif (!Kv) then some (true) else (bif (!Kw) then some (true) else (bif (decide ((Int.tmod JP 50)<FC)) then some ((!(Hb==(!JQ)))) else some ((!(Hb==false))))))).bind fun HE=>(bif HE then some (LR.done false) else some (LR.next ())) else some (LR.next ()))).bind fun y=>match y with|LR.next ()=>((bif EP then some (EH) else some (false))).bind fun HF=>(bif HF then (HA GG Ey).bind fun (JR,Kx)=>(bif (!Kx) then some true else (F0 JR GI).bind fun JS=>some JS) else some true)|LR.done z=>some z))|LR.done z=>some z))
end Go.Fc
