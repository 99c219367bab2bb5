import Derived.Test.YtmmomohapflagaaVaE
open Go Go.VS
set_option maxRecDepth 8000
namespace Go.HC
structure DJ where
 Ds:List Int
 Dq:List (List Int)
 Dw:List Int
 Dx:List Int
 Dr:Int
structure Ev where
 Code:List Int
 Dr:Int
 D8:Int
noncomputable def Ll (a0:Ev):Option (Int×Ev):=
 ((bif (decide (a0.Dr<(a0.Code.length:Int))) then (idx a0.Code a0.Dr).bind fun E6=>some ((IntKind.i64.wrap E6)) else some (0))).bind fun Et=>(bif (decide ((IntKind.i64.wrap (a0.Dr+1))≤(a0.Code.length:Int))) then some (Et,(⟨a0.Code,(IntKind.i64.wrap (a0.Dr+1)),(IntKind.u64.wrap ((IntKind.u64.wrap ((IntKind.u64.wrap (a0.D8*6364136223846793005))+(IntKind.u64.wrap Et)))+1442695040888963407))⟩:Ev)) else some ((IntKind.i64.wrap (zp .u64 (ud .u64 (IntKind.u64.wrap ((IntKind.u64.wrap ((IntKind.u64.wrap (a0.D8*6364136223846793005))+(IntKind.u64.wrap Et)))+1442695040888963407)) 40) 255)),(⟨a0.Code,(IntKind.i64.wrap (a0.Dr+1)),(IntKind.u64.wrap ((IntKind.u64.wrap ((IntKind.u64.wrap (a0.D8*6364136223846793005))+(IntKind.u64.wrap Et)))+1442695040888963407))⟩:Ev)))
noncomputable def Hg (a0:Ev) (a1:Int):Option (Int×Ev):=
 (bif (decide (a1≤1)) then some (0,a0) else (Ll a0).bind fun (El,FF)=>((bif (decide (200<a1)) then (Ll FF).bind fun (Dy,DO)=>some ((IntKind.i64.wrap ((IntKind.i64.wrap (El*256))+Dy)),DO.Code,DO.Dr,DO.D8) else some (El,FF.Code,FF.Dr,FF.D8))).bind fun (GX,Fx,HQ,GA)=>(md GX a1).bind fun G_=>some (G_,(⟨Fx,HQ,GA⟩:Ev)))
noncomputable def Kb (a0:Ev) (a1:Int):Option (Bool×Ev):=
 (Hg a0 a1).bind fun (Gd,EO)=>some ((Gd==0),EO)
noncomputable def JN (a0:Ev) (a1:List Int):Option (Int×Ev):=
 (Hg a0 (a1.length:Int)).bind fun (Gd,EO)=>(idx a1 Gd).bind fun Dt=>some (Dt,EO)
noncomputable def NP (x:((List Int)×Int×(List Int)×Int×Int)):Option (LR ((List Int)×Int×(List Int)×Int×Int) ((List Int)×(List Int)×Int×Int)):=
 match x with
 |(D9,GX,Fx,HQ,GA)=>(bif (decide (0<GX)) then (Hg (⟨Fx,HQ,GA⟩:Ev) 30).bind fun (Eu,HR)=>(app 8 D9 ([(IntKind.i64.wrap (20+Eu))]:List Int)).bind fun Hh=>some (LR.next (Hh,(IntKind.i64.wrap (GX-1)),HR.Code,HR.Dr,HR.D8)) else some (LR.done (D9,Fx,HQ,GA)))
noncomputable def Ln (a0:Ev):Option (List Int×Ev):=
 (Hg a0 4).bind fun (Dt,El)=>(eF (NP) ([],(IntKind.i64.wrap (1+Dt)),El.Code,El.Dr,El.D8)).bind fun (Kc,Fy,Me,IA)=>(Kb (⟨Fy,Me,IA⟩:Ev) 30).bind fun (EV,JO)=>((bif EV then (JN JO ([19,100,101]:List Int)).bind fun (JP,Kd)=>(idx Kc 0).bind fun _b60=>some ((Kc.set (0:Int).toNat JP),Kd.Code,Kd.Dr,Kd.D8) else some (Kc,JO.Code,JO.Dr,JO.D8))).bind fun (Mf,Mg,Mh,Mi)=>some (Mf,(⟨Mg,Mh,Mi⟩:Ev))
noncomputable def Jo (a0:Int) (a1:Int) (a2:Int):Option (Bool):=
 (bif (decide (a1≤a0)) then some (decide (a0≤a2)) else some false)
noncomputable def Mj (a0:List Int) (a1:Int) (a2:Int) (x:(Int)):Option (LR (Int) (LR Unit (Bool))):=
 match x with
 |(Ed)=>(bif (decide (Ed<(a0.length:Int))) then (idx a0 Ed).bind fun Rt=>(Jo Rt a1 a2).bind fun Dy=>(bif (!Dy) then some (LR.done (LR.done false)) else some (LR.next ((IntKind.i64.wrap (Ed+1))))) else some (LR.done (LR.next ())))
noncomputable def Jp (a0:List Int) (a1:Int) (a2:Int):Option (Bool):=
 (eF (Mj a0 a1 a2) (0)).bind fun y=>match y with|LR.next ()=>some true|LR.done z=>some z
noncomputable def IB (a0:List Int):Option (DJ×Bool):=
 ((Jo (a0.length:Int) 1 4).bind fun FG=>(bif (!FG) then some (true) else (Jp a0 20 100).bind fun GJ=>some ((!GJ)))).bind fun Er=>(bif Er then some ((⟨([]:List Int),([]:List (List Int)),([]:List Int),([]:List Int),0⟩:DJ),false) else (app 8 ([]:List Int) a0).bind fun Lo=>(fy 24 (a0.length:Int) ([]:List Int)).bind fun I4=>(fy 8 (a0.length:Int) (0:Int)).bind fun Ii=>(fy 8 (a0.length:Int) (0:Int)).bind fun Eo=>some ((⟨Lo,I4,Ii,Eo,0⟩:DJ),true))
noncomputable def Mk (a0:DJ) (x:(Int)):Option (LR (Int) (LR Unit (Bool))):=
 match x with
 |(GB)=>(bif (decide (GB<(a0.Dq.length:Int))) then (idx a0.Dq GB).bind fun HR=>((bif (decide (30<(HR.length:Int))) then some (true) else (Jp HR 1 20).bind fun Ru=>(bif (!Ru) then some (true) else (bif ((HR.length:Int)==0) then (idx a0.Dw GB).bind fun Pa=>some ((Pa !=0)) else some (false))))).bind fun EW=>(bif EW then some (LR.done (LR.done false)) else some (LR.next ((IntKind.i64.wrap (GB+1))))) else some (LR.done (LR.next ())))
noncomputable def Jq (a0:DJ):Option (Bool):=
 ((Jo (a0.Ds.length:Int) 1 4).bind fun FG=>(bif (!FG) then some (true) else (Jp a0.Ds 20 100).bind fun GJ=>(bif (!GJ) then some (true) else (bif ((a0.Dq.length:Int) !=(a0.Ds.length:Int)) then some (true) else (bif ((a0.Dw.length:Int) !=(a0.Ds.length:Int)) then some (true) else (bif ((a0.Dx.length:Int) !=(a0.Ds.length:Int)) then some (true) else (Jp a0.Dw 0 19).bind fun IC=>(bif (!IC) then some (true) else (Jp a0.Dx 0 1000000).bind fun EY=>(bif (!EY) then some (true) else (Jo a0.Dr 0 (IntKind.i64.wrap ((a0.Ds.length:Int)-1))).bind fun Lp=>some ((!Lp)))))))))).bind fun Er=>(bif Er then some false else (eF (Mk a0) (0)).bind fun y=>match y with|LR.next ()=>some true|LR.done z=>some z)
noncomputable def NQ (a0:DJ) (x:(Int×(List (List Int)))):Option (LR (Int×(List (List Int))) ((List (List Int)))):=
 match x with
 |(G_,EQ)=>(bif (decide (G_<(a0.Dq.length:Int))) then (idx a0.Dq G_).bind fun DV=>(app 8 ([]:List Int) DV).bind fun GK=>(app 24 EQ ([GK]:List (List Int))).bind fun HS=>some (LR.next ((IntKind.i64.wrap (G_+1)),HS)) else some (LR.done (EQ)))
noncomputable def Ke (a0:DJ):Option (DJ):=
 (app 8 ([]:List Int) a0.Ds).bind fun D9=>(app 8 ([]:List Int) a0.Dw).bind fun Fx=>(app 8 ([]:List Int) a0.Dx).bind fun GY=>(eF (NQ a0) (0,([]:List (List Int)))).bind fun FH=>some (⟨D9,FH,Fx,GY,a0.Dr⟩:DJ)
noncomputable def JQ (a0:DJ) (a1:Int) (a2:Int):Option (DJ×Bool):=
 ((Jq a0).bind fun GJ=>(bif (!GJ) then some (true) else (bif (decide (a1<0)) then some (true) else (bif (decide ((a0.Dq.length:Int)≤a1)) then some (true) else (Jo a2 1 20).bind fun IC=>(bif (!IC) then some (true) else (idx a0.Dq a1).bind fun EY=>some (((EY.length:Int)==30))))))).bind fun D9=>(bif D9 then some ((⟨([]:List Int),([]:List (List Int)),([]:List Int),([]:List Int),0⟩:DJ),false) else (Ke a0).bind fun D0=>(idx D0.Dq a1).bind fun Kf=>(app 8 Kf ([a2]:List Int)).bind fun FO=>some ((⟨D0.Ds,(D0.Dq.set a1.toNat FO),D0.Dw,D0.Dx,D0.Dr⟩:DJ),true))
noncomputable def Ml (a0:DJ) (x:((List Int)×(List Int)×(List Int)×(List Int))):Option (LR ((List Int)×(List Int)×(List Int)×(List Int)) ((List Int)×(List Int)×(List Int)×(List Int))):=
 match x with
 |(Fa,Eg,ED,EW)=>((bif (decide (0<(Eg.length:Int))) then (idx Eg 0).bind fun JP=>(idx ED a0.Dr).bind fun NR=>some ((decide (JP≤NR))) else some (false))).bind fun Mm=>(bif Mm then (idx ED a0.Dr).bind fun Lq=>(idx Eg 0).bind fun Lr=>(idx ED a0.Dr).bind fun _b68=>(idx EW a0.Dr).bind fun HT=>(idx Eg 0).bind fun ID=>(idx EW a0.Dr).bind fun _b75=>(idx Eg 0).bind fun NS=>(app 8 Fa ([NS]:List Int)).bind fun NT=>(f_ Eg 1 (Eg.length:Int)).bind fun NU=>some (LR.next (NT,NU,(ED.set a0.Dr.toNat (IntKind.i64.wrap (Lq-Lr))),(EW.set a0.Dr.toNat (IntKind.i64.wrap (HT+ID))))) else some (LR.done (Fa,Eg,ED,EW)))
noncomputable def Mn (a0:DJ):Option (DJ×List Int):=
 (md (IntKind.i64.wrap (a0.Dr+1)) (a0.Dq.length:Int)).bind fun D9=>(idx a0.Dq a0.Dr).bind fun FG=>((bif (decide (0<(FG.length:Int))) then (idx a0.Dw a0.Dr).bind fun F8=>(idx a0.Ds a0.Dr).bind fun DX=>(idx a0.Dw a0.Dr).bind fun _b26=>some ((a0.Dw.set a0.Dr.toNat (IntKind.i64.wrap (F8+DX)))) else some (a0.Dw))).bind fun Fy=>(eF (Ml a0) ([],FG,Fy,a0.Dx)).bind fun (Hh,Ij,E2,FO)=>((bif ((Ij.length:Int)==0) then (idx E2 a0.Dr).bind fun _b98=>some ((E2.set a0.Dr.toNat 0)) else some (E2))).bind fun GZ=>(app 8 ([]:List Int) Ij).bind fun HU=>some ((⟨a0.Ds,(a0.Dq.set a0.Dr.toNat HU),GZ,FO,D9⟩:DJ),Hh)
noncomputable def Ls (a0:DJ):Option (DJ×List Int×Bool):=
 (Jq a0).bind fun FF=>(bif (!FF) then some ((⟨([]:List Int),([]:List (List Int)),([]:List Int),([]:List Int),0⟩:DJ),([]:List Int),false) else (Ke a0).bind fun Ew=>(Mn Ew).bind fun (Ee,Ha)=>(Jq Ee).bind fun EV=>(bif (!EV) then some ((⟨([]:List Int),([]:List (List Int)),([]:List Int),([]:List Int),0⟩:DJ),([]:List Int),false) else (Ke Ee).bind fun Fh=>some (Fh,Ha,true)))
noncomputable def NV (x:(Int×(List Int)×Int×Int×(List Int)×(List (List Int))×(List Int)×(List Int)×Int)):Option (LR (Int×(List Int)×Int×Int×(List Int)×(List (List Int))×(List Int)×(List Int)×Int) ((List Int)×Int×Int×(List Int)×(List (List Int))×(List Int)×(List Int)×Int)):=
 match x with
 |(Hi,Kg,Kh,Ki,Hj,F1,Ge,Hk,HD)=>(bif (decide (0<Hi)) then ((Hg (⟨Kg,Kh,Ki⟩:Ev) (F1.length:Int)).bind fun (Pb,Rv)=>(Hg Rv 20).bind fun (Pc,EK)=>(JQ (⟨Hj,F1,Ge,Hk,HD⟩:DJ) Pb (IntKind.i64.wrap (1+Pc))).bind fun (E7,Rw)=>((bif Rw then some (E7.Ds,E7.Dq,E7.Dw,E7.Dx,E7.Dr) else some (Hj,F1,Ge,Hk,HD))).bind fun (GL,Fz,GM,GN,G0)=>(Ls (⟨GL,Fz,GM,GN,G0⟩:DJ)).bind fun (Eb,_b181,Lt)=>((bif Lt then (Kb EK 4).bind fun (Mo,HE)=>some (Mo,HE.Code,HE.Dr,HE.D8) else some (false,EK.Code,EK.Dr,EK.D8))).bind fun (Mp,I5,I6,I7)=>((bif Mp then some (Eb.Ds,Eb.Dq,Eb.Dw,Eb.Dx,Eb.Dr) else some (GL,Fz,GM,GN,G0))).bind fun (Mq,Kj,Mr,Ms,Mt)=>some (I5,I6,I7,Mq,Kj,Mr,Ms,Mt)).bind fun (IE,Mu,Mw,Mx,Kk,Jr,My,Mz)=>some (LR.next ((IntKind.i64.wrap (Hi-1)),IE,Mu,Mw,Mx,Kk,Jr,My,Mz)) else some (LR.done (Kg,Kh,Ki,Hj,F1,Ge,Hk,HD)))
noncomputable def Lu (a0:Ev):Option (DJ×Ev):=
 (Ln a0).bind fun (Dt,El)=>(IB Dt).bind fun (Ej,FG)=>((bif (!FG) then (IB ([20]:List Int)).bind fun (E8,_b53)=>some (E8.Ds,E8.Dq,E8.Dw,E8.Dx,E8.Dr) else some (Ej.Ds,Ej.Dq,Ej.Dw,Ej.Dx,Ej.Dr))).bind fun (Ii,Eo,EA,E2,HV)=>(Hg El 20).bind fun (HT,HW)=>(eF (NV) (HT,HW.Code,HW.Dr,HW.D8,Ii,Eo,EA,E2,HV)).bind fun (MA,MB,GZ,GC,Fb,G3,G4,HX)=>(Hg (⟨MA,MB,GZ⟩:Ev) 30).bind fun (NW,Gf)=>(((bif (NW==0) then (Hg Gf 6).bind fun (Lv,I8)=>some (I8.Code,I8.Dr,I8.D8,G3,G4,(IntKind.i64.wrap (Lv-1))) else ((bif (NW==1) then (Hg Gf 30).bind fun (Lw,I9)=>(idx G3 0).bind fun _b276=>some (I9.Code,I9.Dr,I9.D8,(G3.set (0:Int).toNat Lw),G4) else ((bif (NW==2) then (idx G4 0).bind fun _b284=>some ((G4.set (0:Int).toNat 1000000)) else some (G4))).bind fun MC=>some (Gf.Code,Gf.Dr,Gf.D8,G3,MC))).bind fun (MD,ME,MF,MH,MI)=>some (MD,ME,MF,MH,MI,HX))).bind fun (MJ,MK,ML,MN,MO,MP)=>some (MJ,MK,ML,MN,MO,MP)).bind fun (Kl,Km,Kn,Ko,Kp,Js)=>some ((⟨GC,Fb,Ko,Kp,Js⟩:DJ),(⟨Kl,Km,Kn⟩:Ev))
noncomputable def NX (a0:List Int):Option (DJ):=
 (Lu (⟨a0,0,0⟩:Ev)).bind fun (Ek,_b10)=>some Ek
noncomputable def MQ (a0:List Int):Option (DJ):=
 (NX a0).bind fun EO=>some EO
noncomputable def Ik (a0:Int) (a1:Int) (a2:Int):Option (Bool):=
 (bif (decide (a1≤a0)) then some (decide (a0≤a2)) else some false)
noncomputable def Pd (a0:List Int) (g1:Int→Option Bool) (x:(Int)):Option (LR (Int) (LR Unit (Int))):=
 match x with
 |(Ed)=>(bif (decide (Ed<(a0.length:Int))) then (idx a0 Ed).bind fun Fp=>(g1 Fp).bind fun Dy=>(bif Dy then some (LR.done (LR.done Ed)) else some (LR.next ((IntKind.i64.wrap (Ed+1))))) else some (LR.done (LR.next ())))
noncomputable def MR (a0:List Int) (g1:Int→Option Bool):Option (Int):=
 (eF (Pd a0 g1) (0)).bind fun y=>match y with|LR.next ()=>some (-1)|LR.done z=>some z
noncomputable def Ly (a0:List Int) (g1:Int→Option Bool):Option (Bool):=
 (MR a0 g1).bind fun b3=>some (decide (0≤b3))
noncomputable def NY (a0:Int):Option (Bool):=
 (Ik a0 20 100).bind fun b3=>some (!b3)
noncomputable def Lz (a0:List Int):Option (Bool):=
 (Ik (a0.length:Int) 1 4).bind fun b3=>(bif b3 then (Ly a0 NY).bind fun Gd=>some (!Gd) else some false)
noncomputable def LA (a0:Int):Option (Bool):=
 (Ik a0 1 20).bind fun b3=>some b3
noncomputable def NZ (a0:Int):Option (Bool):=
 (LA a0).bind fun b3=>some (!b3)
noncomputable def MS (a0:DJ) (x:(Int)):Option (LR (Int) (LR Unit (Bool))):=
 match x with
 |(Fy)=>(bif (decide (Fy<(a0.Dq.length:Int))) then (idx a0.Dq Fy).bind fun G5=>((bif (decide (30<(G5.length:Int))) then some (true) else (Ly G5 NZ).bind fun Pe=>some (Pe))).bind fun Eo=>(bif Eo then some (LR.done (LR.done false)) else ((idx a0.Dw Fy).bind fun HF=>(Ik HF 0 19).bind fun E8=>(bif (!E8) then some (true) else (bif ((G5.length:Int)==0) then (idx a0.Dw Fy).bind fun Pf=>(bif (decide (0<Pf)) then some (true) else (idx a0.Dx Fy).bind fun Fh=>(Ik Fh 0 1000000).bind fun Pg=>some ((!Pg))) else (idx a0.Dx Fy).bind fun Rx=>(Ik Rx 0 1000000).bind fun MT=>some ((!MT))))).bind fun GK=>(bif GK then some (LR.done (LR.done false)) else some (LR.next ((IntKind.i64.wrap (Fy+1)))))) else some (LR.done (LR.next ())))
noncomputable def HG (a0:DJ):Option (Bool):=
 ((Lz a0.Ds).bind fun FG=>(bif (!FG) then some (true) else (bif ((a0.Dq.length:Int) !=(a0.Ds.length:Int)) then some (true) else (bif ((a0.Dw.length:Int) !=(a0.Ds.length:Int)) then some (true) else (bif ((a0.Dx.length:Int) !=(a0.Ds.length:Int)) then some (true) else (Ik a0.Dr 0 (IntKind.i64.wrap ((a0.Ds.length:Int)-1))).bind fun GJ=>some ((!GJ))))))).bind fun Er=>(bif Er then some false else (eF (MS a0) (0)).bind fun y=>match y with|LR.next ()=>some true|LR.done z=>some z)
noncomputable def JR (a0:List Int):Option (List Int):=
 app 8 [] a0
noncomputable def N0 (a0:DJ) (x:(Int×(List (List Int)))):Option (LR (Int×(List (List Int))) ((List (List Int)))):=
 match x with
 |(G_,EQ)=>(bif (decide (G_<(a0.Dq.length:Int))) then (idx a0.Dq G_).bind fun DV=>(JR DV).bind fun EV=>(app 24 EQ ([EV]:List (List Int))).bind fun HS=>some (LR.next ((IntKind.i64.wrap (G_+1)),HS)) else some (LR.done (EQ)))
noncomputable def LB (a0:DJ):Option (DJ):=
 (JR a0.Ds).bind fun El=>(JR a0.Dw).bind fun Ej=>(JR a0.Dx).bind fun EY=>(eF (N0 a0) (0,([]:List (List Int)))).bind fun FH=>some (⟨El,FH,Ej,EY,a0.Dr⟩:DJ)
noncomputable def MU (a0:DJ) (x:((List Int)×(List (List Int))×(List Int)×(List Int))):Option (LR ((List Int)×(List (List Int))×(List Int)×(List Int)) ((List Int)×(List (List Int))×(List Int)×(List Int))):=
 match x with
 |(Fa,Eg,Eo,ED)=>((idx Eg a0.Dr).bind fun Il=>(bif (decide (0<(Il.length:Int))) then (idx Il 0).bind fun Ph=>(idx Eo a0.Dr).bind fun Kq=>some ((decide (Ph≤Kq))) else some (false))).bind fun MV=>(bif MV then (idx Eg a0.Dr).bind fun JS=>(idx JS 0).bind fun FC=>(f_ JS 1 (JS.length:Int)).bind fun HY=>(idx Eo a0.Dr).bind fun I_=>(idx Eo a0.Dr).bind fun _b88=>(idx ED a0.Dr).bind fun Hl=>(idx ED a0.Dr).bind fun _b93=>(app 8 Fa ([FC]:List Int)).bind fun JT=>some (LR.next (JT,(Eg.set a0.Dr.toNat HY),(Eo.set a0.Dr.toNat (IntKind.i64.wrap (I_-FC))),(ED.set a0.Dr.toNat (IntKind.i64.wrap (Hl+FC))))) else some (LR.done (Fa,Eg,Eo,ED)))
noncomputable def MW (a0:DJ):Option (List Int×Bool×DJ):=
 (md (IntKind.i64.wrap (a0.Dr+1)) (a0.Ds.length:Int)).bind fun Ed=>(idx a0.Dq a0.Dr).bind fun FF=>((bif (decide (0<(FF.length:Int))) then (idx a0.Dw a0.Dr).bind fun Fp=>(idx a0.Ds a0.Dr).bind fun DO=>(idx a0.Dw a0.Dr).bind fun _b23=>some ((a0.Dw.set a0.Dr.toNat (IntKind.i64.wrap (Fp+DO)))) else some (a0.Dw))).bind fun GA=>(eF (MU a0) ([],a0.Dq,GA,a0.Dx)).bind fun (EW,EA,FI,E2)=>(idx EA a0.Dr).bind fun IF=>((bif ((IF.length:Int)==0) then (idx FI a0.Dr).bind fun _b118=>some ((FI.set a0.Dr.toNat 0)) else some (FI))).bind fun Kr=>(idx E2 a0.Dr).bind fun LC=>some (EW,(decide (LC≤1000000)),(⟨a0.Ds,EA,Kr,E2,Ed⟩:DJ))
noncomputable def MX (a0:DJ):Option (DJ×List Int×Bool):=
 (HG a0).bind fun FF=>(bif (!FF) then some ((⟨([]:List Int),([]:List (List Int)),([]:List Int),([]:List Int),0⟩:DJ),([]:List Int),false) else (LB a0).bind fun Ew=>(MW Ew).bind fun (G5,N1,Eu)=>(bif (!N1) then some ((⟨([]:List Int),([]:List (List Int)),([]:List Int),([]:List Int),0⟩:DJ),([]:List Int),false) else some (Eu,G5,true)))
noncomputable def N2 (a0:List Int) (x:(Int×Int)):Option (LR (Int×Int) (Int)):=
 match x with
 |(Et,FD)=>(bif (decide (FD<(a0.length:Int))) then (idx a0 FD).bind fun DO=>some (LR.next ((IntKind.i64.wrap (Et+DO)),(IntKind.i64.wrap (FD+1)))) else some (LR.done (Et)))
noncomputable def LD (a0:List Int):Option (Int):=
 (eF (N2 a0) (0,0)).bind fun Er=>some Er
noncomputable def LF (a0:DJ):Option (Int×Bool):=
 (HG a0).bind fun Dt=>(bif (!Dt) then some (0,false) else (LD a0.Dx).bind fun Ek=>some (Ek,true))
noncomputable def Pj (a0:List Int) (x:(Int×Int)):Option (LR (Int×Int) (Int)):=
 match x with
 |(Et,FD)=>(bif (decide (FD<(a0.length:Int))) then (idx a0 FD).bind fun DO=>some (LR.next ((IntKind.i64.wrap (Et+DO)),(IntKind.i64.wrap (FD+1)))) else some (LR.done (Et)))
noncomputable def LG (a0:List Int):Option (Int):=
 (eF (Pj a0) (0,0)).bind fun Er=>some Er
noncomputable def MY (a0:DJ):Option (Int×Bool):=
 (Jq a0).bind fun Dt=>(bif (!Dt) then some (0,false) else (LG a0.Dx).bind fun Ek=>some (Ek,true))
noncomputable def MZ (a1:Int):Option (List Int):=
 ((bif (decide (a1<0)) then none else some ())).bind fun _=>((bif (decide (0<(IntKind.i64.wrap (a1-(IntKind.i64.wrap (0-0)))))) then (fy 8 (IntKind.i64.wrap (a1-(IntKind.i64.wrap (0-0)))) (0:Int)).bind fun GB=>(f_ GB 0 0).bind fun HZ=>some (HZ) else some ([]))).bind fun GX=>some GX
noncomputable def N3 (a0:List (List Int)) (x:(Int×Int)):Option (LR (Int×Int) (Int)):=
 match x with
 |(Et,FD)=>(bif (decide (FD<(a0.length:Int))) then ((idx a0 FD).bind fun Ks=>((bif (decide ((IntKind.i64.wrap (Et+(Ks.length:Int)))<0)) then none else some ())).bind fun _=>some ((IntKind.i64.wrap (Et+(Ks.length:Int))))).bind fun GB=>some (LR.next (GB,(IntKind.i64.wrap (FD+1)))) else some (LR.done (Et)))
noncomputable def N4 (a0:List (List Int)) (x:((List Int)×Int)):Option (LR ((List Int)×Int) ((List Int))):=
 match x with
 |(FI,Gr)=>(bif (decide (Gr<(a0.length:Int))) then (idx a0 Gr).bind fun Kd=>(app 8 FI Kd).bind fun Ry=>some (LR.next (Ry,(IntKind.i64.wrap (Gr+1)))) else some (LR.done (FI)))
noncomputable def M0 (a0:List (List Int)):Option (List Int):=
 (eF (N3 a0) (0,0)).bind fun Er=>(MZ Er).bind fun LH=>(eF (N4 a0) (LH,0)).bind fun HV=>some HV
noncomputable def LI (a0:DJ):Option (Int×Bool):=
 (HG a0).bind fun Dt=>(bif (!Dt) then some (0,false) else (M0 a0.Dq).bind fun Ek=>(LD Ek).bind fun FG=>some (FG,true))
noncomputable def N5 (a0:DJ) (x:(Int×Int)):Option (LR (Int×Int) (Int)):=
 match x with
 |(Er,D9)=>(bif (decide (D9<(a0.Dq.length:Int))) then (idx a0.Dq D9).bind fun D0=>(LG D0).bind fun DX=>some (LR.next ((IntKind.i64.wrap (Er+DX)),(IntKind.i64.wrap (D9+1)))) else some (LR.done (Er)))
noncomputable def N6 (a0:DJ):Option (Int):=
 (eF (N5 a0) (0,0)).bind fun M1=>some M1
noncomputable def M2 (a0:DJ):Option (Int×Bool):=
 (Jq a0).bind fun Dt=>(bif (!Dt) then some (0,false) else (N6 a0).bind fun Ek=>some (Ek,true))
noncomputable def N7 (a0:List Int) (a1:List Int) (x:(Int)):Option (LR (Int) (LR Unit (Bool))):=
 match x with
 |(Er)=>(bif (decide (Er<(a0.length:Int))) then (idx a0 Er).bind fun F8=>(idx a1 Er).bind fun D0=>(bif (F8 !=D0) then some (LR.done (LR.done false)) else some (LR.next ((IntKind.i64.wrap (Er+1))))) else some (LR.done (LR.next ())))
noncomputable def IG (a0:List Int) (a1:List Int):Option (Bool):=
 (bif ((a0.length:Int) !=(a1.length:Int)) then some false else (eF (N7 a0 a1) (0)).bind fun y=>match y with|LR.next ()=>some true|LR.done z=>some z)
noncomputable def N8 (a0:DJ) (a1:DJ) (x:(Int)):Option (LR (Int) (LR Unit (Bool))):=
 match x with
 |(IA)=>(bif (decide (IA<(a0.Dq.length:Int))) then (idx a0.Dq IA).bind fun HR=>(idx a1.Dq IA).bind fun LH=>(IG HR LH).bind fun Pk=>(bif (!Pk) then some (LR.done (LR.done false)) else some (LR.next ((IntKind.i64.wrap (IA+1))))) else some (LR.done (LR.next ())))
noncomputable def IH (a0:DJ) (a1:DJ):Option (Bool):=
 ((IG a0.Ds a1.Ds).bind fun GJ=>(bif (!GJ) then some (true) else (IG a0.Dw a1.Dw).bind fun IC=>(bif (!IC) then some (true) else (IG a0.Dx a1.Dx).bind fun EY=>(bif (!EY) then some (true) else (bif (a0.Dr !=a1.Dr) then some (true) else some (((a0.Dq.length:Int) !=(a1.Dq.length:Int)))))))).bind fun D9=>(bif D9 then some false else (eF (N8 a0 a1) (0)).bind fun y=>match y with|LR.next ()=>some true|LR.done z=>some z)
noncomputable def Pl (a0:List Int) (x:(Int×Int)):Option (LR (Int×Int) (Int)):=
 match x with
 |(Et,FD)=>(bif (decide (FD<(a0.length:Int))) then (idx a0 FD).bind fun DO=>some (LR.next ((IntKind.i64.wrap (Et+DO)),(IntKind.i64.wrap (FD+1)))) else some (LR.done (Et)))
noncomputable def LJ (a0:List Int):Option (Int):=
 (eF (Pl a0) (0,0)).bind fun Er=>some Er
noncomputable def Kt (a0:List Int):Option (DJ×Int×Int):=
 (Lu (⟨a0,0,0⟩:Ev)).bind fun (Ek,E6)=>(Hg E6 6).bind fun (DX,Ks)=>(JN Ks ([0,1,7,20,21]:List Int)).bind fun (Ha,_b30)=>some (Ek,(IntKind.i64.wrap (DX-1)),Ha)
noncomputable def Ku (a0:DJ) (a1:Int) (a2:Int):Option (DJ×Bool):=
 ((HG a0).bind fun GJ=>(bif (!GJ) then some (true) else (Ik a1 0 (IntKind.i64.wrap ((a0.Dq.length:Int)-1))).bind fun IC=>(bif (!IC) then some (true) else (LA a2).bind fun EY=>(bif (!EY) then some (true) else (idx a0.Dq a1).bind fun Lp=>some (((Lp.length:Int)==30)))))).bind fun D9=>(bif D9 then some ((⟨([]:List Int),([]:List (List Int)),([]:List Int),([]:List Int),0⟩:DJ),false) else (LB a0).bind fun DX=>(idx DX.Dq a1).bind fun Kv=>(app 8 Kv ([a2]:List Int)).bind fun Gr=>some ((⟨DX.Ds,(DX.Dq.set a1.toNat Gr),DX.Dw,DX.Dx,DX.Dr⟩:DJ),true))
noncomputable def Kw (a0:List Int):Option (List Int):=
 (Ln (⟨a0,0,0⟩:Ev)).bind fun (El,_b8)=>some El
noncomputable def Kx (a0:List Int):Option (DJ×Bool):=
 (Lz a0).bind fun Dt=>(bif (!Dt) then some ((⟨([]:List Int),([]:List (List Int)),([]:List Int),([]:List Int),0⟩:DJ),false) else (JR a0).bind fun EY=>(fy 24 (a0.length:Int) ([]:List Int)).bind fun HZ=>(fy 8 (a0.length:Int) (0:Int)).bind fun N9=>(fy 8 (a0.length:Int) (0:Int)).bind fun FH=>some ((⟨EY,HZ,N9,FH,0⟩:DJ),true))
noncomputable def M3 (a0:List Int) (a1:List Int):Option (Bool):=
 (bif (decide (1048576<(IntKind.i64.wrap ((a0.length:Int)+(a1.length:Int))))) then some true else (MQ a0).bind fun Dt=>(MX Dt).bind fun (Dy,DO,F8)=>(Ls Dt).bind fun (DV,EV,JO)=>(LF Dt).bind fun (HH,Rz)=>(MY Dt).bind fun (HW,ID)=>(LI Dt).bind fun (Im,FC)=>(M2 Dt).bind fun (RA,RB)=>((bif (!(F8==JO)) then some (true) else (IG DO EV).bind fun Pm=>(bif (!Pm) then some (true) else (IH Dy DV).bind fun Pn=>(bif (!Pn) then some (true) else (bif (!(Rz==ID)) then some (true) else (bif (HH !=HW) then some (true) else (bif (!(FC==RB)) then some (true) else (bif (Im !=RA) then some (true) else (HG Dt).bind fun Hl=>some ((!(Hl==ID))))))))))).bind fun Ge=>(bif Ge then some false else ((bif F8 then (LF Dy).bind fun (Po,RC)=>(LI Dy).bind fun (RD,RE)=>(idx Dt.Dq Dt.Dr).bind fun EB=>((HG Dy).bind fun Pp=>(bif (!Pp) then some (true) else (bif (!RC) then some (true) else (bif (!RE) then some (true) else (bif ((IntKind.i64.wrap (Po+RD)) !=(IntKind.i64.wrap (HH+Im))) then some (true) else (LJ DO).bind fun LC=>(bif (Po !=(IntKind.i64.wrap (HH+LC))) then some (true) else (bif (decide ((EB.length:Int)<(DO.length:Int))) then some (true) else (f_ EB 0 (DO.length:Int)).bind fun Jr=>(IG DO Jr).bind fun Pq=>(bif (!Pq) then some (true) else (idx Dy.Dq Dt.Dr).bind fun Ja=>(f_ EB (DO.length:Int) (EB.length:Int)).bind fun Pr=>(IG Ja Pr).bind fun N_=>some ((!N_)))))))))).bind fun IE=>(bif IE then some (LR.done false) else ((bif (decide ((DO.length:Int)<(EB.length:Int))) then (LJ DO).bind fun Ps=>(idx Dy.Dw Dt.Dr).bind fun RF=>(idx Dt.Dw Dt.Dr).bind fun RG=>(idx Dt.Ds Dt.Dr).bind fun RH=>(bif ((IntKind.i64.wrap (Ps+RF)) !=(IntKind.i64.wrap (RG+RH))) then some (true) else (idx EB (DO.length:Int)).bind fun RI=>(idx Dy.Dw Dt.Dr).bind fun RJ=>(bif (decide (RI≤RJ)) then some (true) else some (((DO.length:Int)==0)))) else some (false))).bind fun M4=>(bif M4 then some (LR.done false) else some (LR.next ()))) else some (LR.next ()))).bind fun y=>match y with|LR.next ()=>(Kt a1).bind fun (DK,M5,M6)=>(Ku DK M5 M6).bind fun (DN,Lt)=>(JQ DK M5 M6).bind fun (DW,RK)=>(Kw a1).bind fun FP=>(Kx FP).bind fun (D7,RL)=>(IB FP).bind fun (Ei,RM)=>(bif (Lt==RK) then (IH DN DW).bind fun Ky=>(bif Ky then (bif (RL==RM) then (IH D7 Ei).bind fun Kz=>(bif Kz then (bif (!Lt) then some true else (HG DN).bind fun KA=>some KA) else some false) else some false) else some false) else some false)|LR.done z=>some z))
end Go.HC
