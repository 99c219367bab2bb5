import Derived.Test.YtclgbpneokeaeaaGreatVeG2
import Derived.Test.YtclgbpneokeaeaaGreatProg
import Derived.Test.YtclgbpneokeaeaaGreatVaG
import Derived.KernelRfl
open Go Go.VS
set_option maxRecDepth 8000
set_option maxHeartbeats 4000000
namespace Go.GC
theorem Ze {a0:List Int} {a1:List Int} {r:(Bool)} (h:M6 a0 a1=some r) {F:List It} {H:J} (hS:az H (F)) {P:AV→J→Prop} (hP: ∀H',az H' (F)→P (.bool r) H'):aq C 3 [.fz (a0.map (AV.int .u8)),.fz (a1.map (AV.int .u8))] H P:=by
 refine Cn gC (res:=[.tmp 4]) (n:=276) rfl rfl rfl rfl fun K0 El=> ?_;simp only [W,Nat.reduceSub,Nat.reduceAdd,List.replicate];unfold M6 at h;refine B3 fun K1 Er=> ?_;refine Ck gC ?_;try simp only [W,Nat.reduceAdd]
 refine B_ Er ?_;refine B3 fun K2 zU=> ?_;refine B3 fun K3 EJ=> ?_;refine Ck gC ?_;try simp only [W,EE,Nat.reduceAdd]
 refine B_ EJ ?_;refine B8 ?_;simp only [W];refine Cj h (fun hc h=> ?_) (fun hc h=> ?_)
 ·refine B3 fun K4 EC=> ?_;refine Ck gC ?_;try simp only [W,Nat.reduceAdd]
  refine B_ EC ?_;refine B6 ?_;refine Ca zU ?_;refine Ch El rfl ?_;try obtain rfl:=Option.some.inj h
  exact hP _ hS
 ·refine B5 ?_;refine B_ zU ?_;refine B3 fun K5 EZ=> ?_;refine Cl (fz:=[(6,[([52],[.sc,.sl [.sc,.sc],.sl [.sc]])])]) gC ?_;try simp only [W,Nat.reduceAdd,Nat.reduceBEq]
  refine CB h fun Fi HS h=> ?_;obtain ⟨EA,Fo⟩:=Fi;try dsimp only at h
  refine Xw HS hS fun v9 LB v11 Gj H hS=> ?_;try simp only [W,Nat.reduceAdd,Nat.reduceBEq]
  refine Cr hS rfl rfl fun Js Jt H hS=> ?_;try simp only [W,Nat.reduceAdd]
  refine CY rfl ?_;refine CU rfl ?_;refine CX 1 hS rfl LB (fun _ _=>by simp [aY,aN,ck,dp,Ej]) fun H hS=> ?_
  refine CX 1 hS rfl Gj (fun _ _=>by simp [aY,aN,dp]) fun H hS=> ?_
  refine CT ?_;simp only [W,u3 (c:=(AV.int .i64)) (fun _=>rfl),u3 (c:=Ej) (fun _=>rfl)];try simp only [W,EE,EN,reduceIte,Nat.reduceAdd,Nat.reduceLeDiff,Nat.reduceBEq,Nat.reduceMul,Bool.false_eq_true]
  refine Cs (a:= .agg [.int .i64 EA.Next,.fz (EA.Em.map Ej),.fz (EA.Ek.map (AV.int .i64))]) (y' := .agg [.int .i64 EA.Next,.fz (EA.Em.map Ej),.fz (EA.Ek.map (AV.int .i64))]) 0 hS rfl rfl rfl rfl rfl rfl rfl rfl fun H hS=> ?_
  try simp only [W,Nat.reduceAdd,Nat.reduceBEq]
  refine B_ EZ ?_;refine B3 fun Gm EP=> ?_;refine Ck gC ?_;try simp only [W,EE,reduceIte,Nat.reduceAdd,Nat.reduceLeDiff,hS.var 0 rfl]
  refine CB h fun Gb KI h=> ?_;obtain ⟨Fp,Ez,FE,EW⟩:=Gb;try dsimp only at h
  refine Ty KI hS fun v21 JY v23 Hl H hS=> ?_;try simp only [W]
  refine Cr hS rfl rfl fun Ge Gf H hS=> ?_;try simp only [W]
  refine Cs (a:= .agg [.int .i64 Fp.Next,.fz (Fp.Em.map Ej),.fz (Fp.Ek.map (AV.int .i64))]) (y' := .agg [.int .i64 Fp.Next,.fz (Fp.Em.map Ej),.fz (Fp.Ek.map (AV.int .i64))]) 0 hS rfl rfl rfl rfl rfl rfl rfl rfl fun H hS=> ?_
  try simp only [W]
  refine B_ EP ?_;refine B3 fun Gn E2=> ?_;refine Ck gC ?_;try simp only [W,EE,reduceIte,Nat.reduceAdd,Nat.reduceLeDiff,hS.var 3 rfl]
  refine CB h fun Hu P7 h=> ?_;obtain ⟨G3,GG,G0,HN⟩:=Hu;try dsimp only at h
  refine S_ P7 hS fun v33 Im v35 ON v37 LI v39 Rh H hS=> ?_;try simp only [W]
  refine Cr hS rfl rfl fun adB adC H hS=> ?_;try simp only [W]
  refine Cs (a:= .agg [.int .i64 G3.Next,v33,v35]) (y' := .agg [.int .i64 G3.Next,v33,v35]) 0 hS rfl rfl rfl rfl rfl (by simp only [dD,List.all_cons,List.all_nil,Im.qu,ON.qu];rfl) rfl rfl fun H hS=> ?_
  try simp only [W]
  refine B_ E2 ?_;refine B3 fun Nx G8=> ?_;refine Ck gC ?_;try simp only [W,EE,reduceIte,Nat.reduceAdd,Nat.reduceLeDiff,hS.var 8 rfl]
  refine CB h fun Md Qq h=> ?_;obtain ⟨Hh,Lj⟩:=Md;try dsimp only at h
  refine TD Qq hS fun FB JZ H hS=> ?_;try simp only [W]
  refine B_ G8 ?_;refine B3 fun OB IP=> ?_;refine Ck gC ?_;try simp only [W,EE,reduceIte,Nat.reduceAdd,Nat.reduceLeDiff,hS.var 9 rfl]
  refine CB h fun I7 Q8 h=> ?_;obtain ⟨PP,JH⟩:=I7;try dsimp only at h
  refine Y5 Q8 hS fun v53 Zf H hS=> ?_;try simp only [W]
  refine B_ IP ?_;refine B3 fun Oq HD=> ?_;refine B3 fun Ot IH=> ?_;obtain ⟨Qh,h,Qi⟩:=Option.bind_eq_some_iff.1 h;refine CG gC (fun s H=> ∃GF:Bool,Qh=(GF)∧s=(u:: .fz (a1.map (AV.int .u8))::u::u::u:: .ptr Js Jt 0 0:: .fz (Fo.map Ej):: .ptr Ge Gf 0 0::v21::v23:: .bool EW::u::u::u::u::FB::u::u::u::u::u::u::u::u::u::u::u::u::u::u::u::u::u::u::u::u::u::u::u::u::u::u::u::u::u::u::u::u::u::u::u::u::u::u::u::u::u::u::u::u::u::u::u::u::u::u::u::u::u::u::u::u::u::u::u::u::u::u::u::u::u::u::u::u::u::u::u::u::u::u::u::u::u::u::u::u::u::u::u::u::u::u::u::u::u::u::u::u::u::u::u::u::u::u::u::u::u:: .bool GF::u::u::u::u::u::u::u::u::u::u::u::u::u::u::u::u::u::u::u::u::u::u::u::u::u::u::u::u::u::u::u::u::u::u::u::u::u::u::u::u::u::u::u::u::u::u::u::u::u::u::u::u::u::u::u::u::u::u::u::u::u::u::u::u::u::u::u::u::u::u::u::u::u::u::u::u::u::u::u::u::u::u::u::u::u::u::u::u::u::u::u::u::u::u::u::u::u::u::u::u::u::u::u::u::u::u::u::u::u::u::u::u::u::u::u::u::u::u::u::u::u::u::u::u::u::u::u::u::u::u::u::u::u::u::u::u::u::u::u::u::u::u::u::u::u::u::u::u::u::u::u::u::u::u::u::u::u::u::[])∧az H (⟨v21,1,Ez.map (AV.int .i64)⟩::⟨v23,1,FE.map (AV.int .i64)⟩::⟨FB,1,Hh.map (AV.int .i64)⟩::⟨.ptr Js Jt 0 0,3,[.agg [.int .i64 EA.Next,.fz (EA.Em.map Ej),.fz (EA.Ek.map (AV.int .i64))]]⟩::⟨.ptr Ge Gf 0 0,3,[.agg [.int .i64 Fp.Next,.fz (Fp.Em.map Ej),.fz (Fp.Ek.map (AV.int .i64))]]⟩::F)) (fun Qj G7=> ?_) (fun s H hq=> ?_)
  ·refine B3 fun OC GU=> ?_;refine Ck gC ?_;try simp only [W,EE,Nat.reduceAdd]
   rw [Cp _ _ _ _ (h:=rfl) rfl,tv];try simp only [W]
   refine C4 h (fun hc h=> ?_) (fun hc h=> ?_)
   ·try simp only [W,hc]
    refine B_ GU ?_;refine DP (s' :=(u:: .fz (a1.map (AV.int .u8))::u::u::u:: .ptr Js Jt 0 0:: .fz (Fo.map Ej):: .ptr Ge Gf 0 0::v21::v23:: .bool EW::u::u::u::u::FB::u::u::u::u::u::u::u::u::u::u::u::u::u::u::u::u::u::u::u::u::u::u::u::u::u::u::u::u::u::u::u::u::u::u::u::u::u::u::u::u::u::u::u::u::u::u::u::u::u::u::u::u::u::u::u::u::u::u::u::u::u::u::u::u::u::u::u::u::u::u::u::u::u::u::u::u::u::u::u::u::u::u::u::u::u::u::u::u::u::u::u::u::u::u::u::u::u::u::u::u::u:: .bool true::u::u::u::u::u::u::u::u::u::u::u::u::u::u::u::u::u::u::u::u::u::u::u::u::u::u::u::u::u::u::u::u::u::u::u::u::u::u::u::u::u::u::u::u::u::u::u::u::u::u::u::u::u::u::u::u::u::u::u::u::u::u::u::u::u::u::u::u::u::u::u::u::u::u::u::u::u::u::u::u::u::u::u::u::u::u::u::u::u::u::u::u::u::u::u::u::u::u::u::u::u::u::u::u::u::u::u::u::u::u::u::u::u::u::u::u::u::u::u::u::u::u::u::u::u::u::u::u::u::u::u::u::u::u::u::u::u::u::u::u::u::u::u::u::u::u::u::u::u::u::u::u::u::u::u::u::u::u::[])) rfl ?_
    exact CH G7 ⟨_,(Option.some.inj h).symm,rfl,(hS.C0 11 [8,9,1,10,7] (by decide))⟩
   ·try simp only [W,EE,reduceIte,Nat.reduceAdd,Nat.reduceLeDiff,hS.var 7 rfl,hS.var 2 rfl,hc]
    refine Dt (bP:=[[.sc]]) (ys:=[.agg [.int .i64 Fp.Next,.fz (Fp.Em.map Ej),.fz (Fp.Ek.map (AV.int .i64))],.agg [.int .i64 G3.Next,.fz (G3.Em.map Ej),.fz (G3.Ek.map (AV.int .i64))]]) h rfl (Dg rfl (Dg (Db (Ax rfl (Ax (Dd hS 3 rfl Im (fun _=>rfl)) (Ax (Dd hS 4 rfl ON (fun _=>rfl)) (Da _))))) Df)) fun IZ OD h=>⟨.bool IZ,Pa OD (az.nil _) fun H hS=>Dl rfl (Di rfl (Dh rfl)),⟨rfl,rfl,fun _=>rfl⟩,?_⟩;try simp only [W,reduceIte,Bool.false_eq_true]
    refine C4 h (fun hc h=> ?_) (fun hc h=> ?_)
    ·try simp only [W,hc]
     refine B_ GU ?_;refine DP (s' :=(u:: .fz (a1.map (AV.int .u8))::u::u::u:: .ptr Js Jt 0 0:: .fz (Fo.map Ej):: .ptr Ge Gf 0 0::v21::v23:: .bool EW::u::u::u::u::FB::u::u::u::u::u::u::u::u::u::u::u::u::u::u::u::u::u::u::u::u::u::u::u::u::u::u::u::u::u::u::u::u::u::u::u::u::u::u::u::u::u::u::u::u::u::u::u::u::u::u::u::u::u::u::u::u::u::u::u::u::u::u::u::u::u::u::u::u::u::u::u::u::u::u::u::u::u::u::u::u::u::u::u::u::u::u::u::u::u::u::u::u::u::u::u::u::u::u::u::u::u:: .bool true::u::u::u::u::u::u::u::u::u::u::u::u::u::u::u::u::u::u::u::u::u::u::u::u::u::u::u::u::u::u::u::u::u::u::u::u::u::u::u::u::u::u::u::u::u::u::u::u::u::u::u::u::u::u::u::u::u::u::u::u::u::u::u::u::u::u::u::u::u::u::u::u::u::u::u::u::u::u::u::u::u::u::u::u::u::u::u::u::u::u::u::u::u::u::u::u::u::u::u::u::u::u::u::u::u::u::u::u::u::u::u::u::u::u::u::u::u::u::u::u::u::u::u::u::u::u::u::u::u::u::u::u::u::u::u::u::u::u::u::u::u::u::u::u::u::u::u::u::u::u::u::u::u::u::u::u::u::u::[])) rfl ?_
     exact CH G7 ⟨_,(Option.some.inj h).symm,rfl,(hS.C0 11 [8,9,1,10,7] (by decide))⟩
    ·try simp only [W,hc]
     refine Dt (bP:=[[.sc]]) (ys:=[.fz (Ez.map (AV.int .i64)),.fz (GG.map (AV.int .i64))]) h rfl (Dg (Dd hS 8 rfl JY (fun _=>rfl)) (Dg (Dd hS 5 rfl LI (fun _=>rfl)) Df)) fun JF QT h=>⟨.bool JF,O_ QT (az.nil _) fun H hS=>Dl rfl (Di rfl (Dh rfl)),⟨rfl,rfl,fun _=>rfl⟩,?_⟩;try simp only [W,reduceIte,Bool.false_eq_true]
     refine C4 h (fun hc h=> ?_) (fun hc h=> ?_)
     ·try simp only [W,hc]
      refine B_ GU ?_;refine DP (s' :=(u:: .fz (a1.map (AV.int .u8))::u::u::u:: .ptr Js Jt 0 0:: .fz (Fo.map Ej):: .ptr Ge Gf 0 0::v21::v23:: .bool EW::u::u::u::u::FB::u::u::u::u::u::u::u::u::u::u::u::u::u::u::u::u::u::u::u::u::u::u::u::u::u::u::u::u::u::u::u::u::u::u::u::u::u::u::u::u::u::u::u::u::u::u::u::u::u::u::u::u::u::u::u::u::u::u::u::u::u::u::u::u::u::u::u::u::u::u::u::u::u::u::u::u::u::u::u::u::u::u::u::u::u::u::u::u::u::u::u::u::u::u::u::u::u::u::u::u::u:: .bool true::u::u::u::u::u::u::u::u::u::u::u::u::u::u::u::u::u::u::u::u::u::u::u::u::u::u::u::u::u::u::u::u::u::u::u::u::u::u::u::u::u::u::u::u::u::u::u::u::u::u::u::u::u::u::u::u::u::u::u::u::u::u::u::u::u::u::u::u::u::u::u::u::u::u::u::u::u::u::u::u::u::u::u::u::u::u::u::u::u::u::u::u::u::u::u::u::u::u::u::u::u::u::u::u::u::u::u::u::u::u::u::u::u::u::u::u::u::u::u::u::u::u::u::u::u::u::u::u::u::u::u::u::u::u::u::u::u::u::u::u::u::u::u::u::u::u::u::u::u::u::u::u::u::u::u::u::u::u::[])) rfl ?_
      exact CH G7 ⟨_,(Option.some.inj h).symm,rfl,(hS.C0 11 [8,9,1,10,7] (by decide))⟩
     ·try simp only [W,hc]
      refine Dt (bP:=[[.sc]]) (ys:=[.fz (FE.map (AV.int .i64)),.fz (G0.map (AV.int .i64))]) h rfl (Dg (Dd hS 9 rfl Hl (fun _=>rfl)) (Dg (Dd hS 6 rfl Rh (fun _=>rfl)) Df)) fun Ki Zg h=>⟨.bool Ki,O_ Zg (az.nil _) fun H hS=>Dl rfl (Di rfl (Dh rfl)),⟨rfl,rfl,fun _=>rfl⟩,?_⟩;try simp only [W,reduceIte,Bool.false_eq_true]
      refine C4 h (fun hc h=> ?_) (fun hc h=> ?_)
      ·try simp only [W,hc]
       refine B_ GU ?_;refine DP (s' :=(u:: .fz (a1.map (AV.int .u8))::u::u::u:: .ptr Js Jt 0 0:: .fz (Fo.map Ej):: .ptr Ge Gf 0 0::v21::v23:: .bool EW::u::u::u::u::FB::u::u::u::u::u::u::u::u::u::u::u::u::u::u::u::u::u::u::u::u::u::u::u::u::u::u::u::u::u::u::u::u::u::u::u::u::u::u::u::u::u::u::u::u::u::u::u::u::u::u::u::u::u::u::u::u::u::u::u::u::u::u::u::u::u::u::u::u::u::u::u::u::u::u::u::u::u::u::u::u::u::u::u::u::u::u::u::u::u::u::u::u::u::u::u::u::u::u::u::u::u:: .bool true::u::u::u::u::u::u::u::u::u::u::u::u::u::u::u::u::u::u::u::u::u::u::u::u::u::u::u::u::u::u::u::u::u::u::u::u::u::u::u::u::u::u::u::u::u::u::u::u::u::u::u::u::u::u::u::u::u::u::u::u::u::u::u::u::u::u::u::u::u::u::u::u::u::u::u::u::u::u::u::u::u::u::u::u::u::u::u::u::u::u::u::u::u::u::u::u::u::u::u::u::u::u::u::u::u::u::u::u::u::u::u::u::u::u::u::u::u::u::u::u::u::u::u::u::u::u::u::u::u::u::u::u::u::u::u::u::u::u::u::u::u::u::u::u::u::u::u::u::u::u::u::u::u::u::u::u::u::u::[])) rfl ?_
       exact CH G7 ⟨_,(Option.some.inj h).symm,rfl,(hS.C0 11 [8,9,1,10,7] (by decide))⟩
      ·try simp only [W,EE,hc]
       rw [Cp _ _ _ _ (h:=rfl) rfl,tv];try simp only [W,reduceIte,Bool.false_eq_true]
       refine C4 h (fun hc h=> ?_) (fun hc h=> ?_)
       ·try simp only [W,hc]
        refine B_ GU ?_;refine DP (s' :=(u:: .fz (a1.map (AV.int .u8))::u::u::u:: .ptr Js Jt 0 0:: .fz (Fo.map Ej):: .ptr Ge Gf 0 0::v21::v23:: .bool EW::u::u::u::u::FB::u::u::u::u::u::u::u::u::u::u::u::u::u::u::u::u::u::u::u::u::u::u::u::u::u::u::u::u::u::u::u::u::u::u::u::u::u::u::u::u::u::u::u::u::u::u::u::u::u::u::u::u::u::u::u::u::u::u::u::u::u::u::u::u::u::u::u::u::u::u::u::u::u::u::u::u::u::u::u::u::u::u::u::u::u::u::u::u::u::u::u::u::u::u::u::u::u::u::u::u::u:: .bool true::u::u::u::u::u::u::u::u::u::u::u::u::u::u::u::u::u::u::u::u::u::u::u::u::u::u::u::u::u::u::u::u::u::u::u::u::u::u::u::u::u::u::u::u::u::u::u::u::u::u::u::u::u::u::u::u::u::u::u::u::u::u::u::u::u::u::u::u::u::u::u::u::u::u::u::u::u::u::u::u::u::u::u::u::u::u::u::u::u::u::u::u::u::u::u::u::u::u::u::u::u::u::u::u::u::u::u::u::u::u::u::u::u::u::u::u::u::u::u::u::u::u::u::u::u::u::u::u::u::u::u::u::u::u::u::u::u::u::u::u::u::u::u::u::u::u::u::u::u::u::u::u::u::u::u::u::u::u::[])) rfl ?_
        exact CH G7 ⟨_,(Option.some.inj h).symm,rfl,(hS.C0 11 [8,9,1,10,7] (by decide))⟩
       ·try simp only [W,hc]
        refine Dt (bP:=[[.sc]]) (ys:=[.fz (Hh.map (AV.int .i64)),.fz (PP.map (AV.int .i64))]) h rfl (Dg (Dd hS 1 rfl JZ (fun _=>rfl)) (Dg (Dd hS 0 rfl Zf (fun _=>rfl)) Df)) fun HO SV h=>⟨.bool HO,O_ SV (az.nil _) fun H hS=>Dl rfl (Di rfl (Dh rfl)),⟨rfl,rfl,fun _=>rfl⟩,?_⟩;try simp only [W,reduceIte,Bool.false_eq_true]
        refine C4 h (fun hc h=> ?_) (fun hc h=> ?_)
        ·try simp only [W,hc]
         refine B_ GU ?_;refine DP (s' :=(u:: .fz (a1.map (AV.int .u8))::u::u::u:: .ptr Js Jt 0 0:: .fz (Fo.map Ej):: .ptr Ge Gf 0 0::v21::v23:: .bool EW::u::u::u::u::FB::u::u::u::u::u::u::u::u::u::u::u::u::u::u::u::u::u::u::u::u::u::u::u::u::u::u::u::u::u::u::u::u::u::u::u::u::u::u::u::u::u::u::u::u::u::u::u::u::u::u::u::u::u::u::u::u::u::u::u::u::u::u::u::u::u::u::u::u::u::u::u::u::u::u::u::u::u::u::u::u::u::u::u::u::u::u::u::u::u::u::u::u::u::u::u::u::u::u::u::u::u:: .bool true::u::u::u::u::u::u::u::u::u::u::u::u::u::u::u::u::u::u::u::u::u::u::u::u::u::u::u::u::u::u::u::u::u::u::u::u::u::u::u::u::u::u::u::u::u::u::u::u::u::u::u::u::u::u::u::u::u::u::u::u::u::u::u::u::u::u::u::u::u::u::u::u::u::u::u::u::u::u::u::u::u::u::u::u::u::u::u::u::u::u::u::u::u::u::u::u::u::u::u::u::u::u::u::u::u::u::u::u::u::u::u::u::u::u::u::u::u::u::u::u::u::u::u::u::u::u::u::u::u::u::u::u::u::u::u::u::u::u::u::u::u::u::u::u::u::u::u::u::u::u::u::u::u::u::u::u::u::u::[])) rfl ?_
         exact CH G7 ⟨_,(Option.some.inj h).symm,rfl,(hS.C0 11 [8,9,1,10,7] (by decide))⟩
        ·try simp only [W,EE,reduceIte,Nat.reduceAdd,Nat.reduceLeDiff,hS.var 10 rfl,hc]
         refine CB h fun I0 Qk h=> ?_;refine LK Qk hS fun H hS=> ?_;try simp only [W,EE]
         rw [Cp _ _ _ _ (h:=rfl) rfl,tv];try simp only [W,reduceIte,Bool.false_eq_true]
         refine B_ GU ?_;refine DP (s' :=(u:: .fz (a1.map (AV.int .u8))::u::u::u:: .ptr Js Jt 0 0:: .fz (Fo.map Ej):: .ptr Ge Gf 0 0::v21::v23:: .bool EW::u::u::u::u::FB::u::u::u::u::u::u::u::u::u::u::u::u::u::u::u::u::u::u::u::u::u::u::u::u::u::u::u::u::u::u::u::u::u::u::u::u::u::u::u::u::u::u::u::u::u::u::u::u::u::u::u::u::u::u::u::u::u::u::u::u::u::u::u::u::u::u::u::u::u::u::u::u::u::u::u::u::u::u::u::u::u::u::u::u::u::u::u::u::u::u::u::u::u::u::u::u::u::u::u::u::u:: .bool (!(I0==JH))::u::u::u::u::u::u::u::u::u::u::u::u::u::u::u::u::u::u::u::u::u::u::u::u::u::u::u::u::u::u::u::u::u::u::u::u::u::u::u::u::u::u::u::u::u::u::u::u::u::u::u::u::u::u::u::u::u::u::u::u::u::u::u::u::u::u::u::u::u::u::u::u::u::u::u::u::u::u::u::u::u::u::u::u::u::u::u::u::u::u::u::u::u::u::u::u::u::u::u::u::u::u::u::u::u::u::u::u::u::u::u::u::u::u::u::u::u::u::u::u::u::u::u::u::u::u::u::u::u::u::u::u::u::u::u::u::u::u::u::u::u::u::u::u::u::u::u::u::u::u::u::u::u::u::u::u::u::u::[])) rfl ?_
         exact CH G7 ⟨_,(Option.some.inj h).symm,rfl,(hS.C0 11 [8,9,1,10,7] (by decide))⟩
  ·obtain ⟨GF,Es,rfl,hS⟩:=hq;obtain rfl:=Es.symm;replace h:=Qi;try dsimp only at h
   refine B_ IH ?_;refine B8 ?_;simp only [W];refine Cj h (fun hc h=> ?_) (fun hc h=> ?_)
   ·refine B3 fun SZ Lv=> ?_;refine Ck gC ?_;try simp only [W,Nat.reduceAdd]
    refine B_ Lv ?_;refine B6 ?_;refine Ca HD ?_;refine Ch El rfl ?_;try obtain rfl:=Option.some.inj h
    exact hP _ (hS.C0 5 [] (by decide))
   ·refine B5 ?_;refine B_ HD ?_;refine B3 fun Tc Jk=> ?_;refine B3 fun Qu KB=> ?_;refine Ck gC ?_;try simp only [W,Nat.reduceAdd]
    refine B_ KB ?_;obtain ⟨Zh,h,Pb⟩:=Option.bind_eq_some_iff.1 h;refine CG gC (fun s H=>Zh=LR.next ()∧s=(u:: .fz (a1.map (AV.int .u8))::u::u::u::u::u::u::u::u::u::u::u::u::u::u::u::u::u::u::u::u::u::u::u::u::u::u::u::u::u::u::u::u::u::u::u::u::u::u::u::u::u::u::u::u::u::u::u::u::u::u::u::u::u::u::u::u::u::u::u::u::u::u::u::u::u::u::u::u::u::u::u::u::u::u::u::u::u::u::u::u::u::u::u::u::u::u::u::u::u::u::u::u::u::u::u::u::u::u::u::u::u::u::u::u::u::u::u::u::u::u::u::u::u::u::u::u::u::u::u::u::u::u::u::u::u::u::u::u::u::u::u::u::u::u::u::u::u::u::u::u::u::u::u::u::u::u::u::u::u::u::u::u::u::u::u::u::u::u::u::u::u::u::u::u::u::u::u::u::u::u::u::u::u::u::u::u::u::u::u::u::u::u::u::u::u::u::u::u::u::u::u::u::u::u::u::u::u::u::u::u::u::u::u::u::u::u::u::u::u::u::u::u::u::u::u::u::u::u::u::u::u::u::u::u::u::u::u::u::u::u::u::u::u::u::u::u::u::u::u::u::u::u::u::u::u::u::u::u::u::u::u::u::u::u::u::u::u::u::u::u::u::u::u::u::u::u::u::u::u::u::u::u::u::u::[])∧az H (F)) (fun Sr II=> ?_) (fun s H hq=> ?_)
    ·refine B3 fun Ss IJ=> ?_;refine B8 ?_;simp only [W];refine Cj h (fun hc h=> ?_) (fun hc h=> ?_)
     ·refine B3 fun Yz Rc=> ?_;refine Ck gC ?_;try simp only [W,EE,reduceIte,Nat.reduceAdd,Nat.reduceLeDiff,hS.var 4 rfl]
      refine CB h fun MQ Re h=> ?_;obtain ⟨JM,Og⟩:=MQ;try dsimp only at h
      refine TD Re hS fun v78 O7 H hS=> ?_;try simp only [W]
      refine B_ Rc ?_;refine B3 fun WW Nu=> ?_;refine Ck gC ?_;try simp only [W,EE,Nat.reduceAdd,Nat.reduceBEq,hS.var 5 rfl]
      refine CB h fun Zi Zj h=> ?_;obtain ⟨Ja,Kc⟩:=Zi;try dsimp only at h
      refine TE Zj hS fun H hS=> ?_;try simp only [W]
      refine B_ Nu ?_;refine B3 fun Ou IK=> ?_;refine Ck gC ?_;try simp only [W,EE,Nat.reduceAdd,Nat.reduceBEq,hS.var 4 rfl]
      refine CB h fun Zk Zl h=> ?_;obtain ⟨I4,Lk⟩:=Zk;try dsimp only at h
      refine TE Zl hS fun H hS=> ?_;try simp only [W]
      refine B_ IK ?_;refine B3 fun K88 TF=> ?_;refine B3 fun K89 Zm=> ?_;obtain ⟨Zn,h,Zo⟩:=Option.bind_eq_some_iff.1 h;refine CG gC (fun s H=> ∃Km:Bool,Zn=(Km)∧s=(u:: .fz (a1.map (AV.int .u8))::u::u::u::u:: .fz (Fo.map Ej):: .ptr Ge Gf 0 0::u::v23::u::u::u::u::u::FB::u::u::u::v78::u::u::u::u::u::u::u::u::u::u::u::u::u::u::u::u::u::u::u::u::u::u::u::u::u::u::u::u::u::u::u::u::u::u::u::u::u::u::u::u::u::u::u::u::u::u::u::u::u::u::u::u::u::u::u::u::u::u::u::u::u::u::u::u::u::u::u::u::u::u::u::u::u::u::u::u::u::u::u::u::u::u::u::u::u::u::u::u::u::u::u::u::u::u::u::u::u::u::u::u::u::u::u::u::u::u::u::u::u::u::u::u::u::u::u::u::u::u::u::u::u::u::u::u::u::u::u::u::u::u::u::u::u::u::u::u::u::u::u::u::u::u::u::u::u::u::u::u::u::u::u:: .bool Km::u::u::u::u::u::u::u::u::u::u::u::u::u::u::u::u::u::u::u::u::u::u::u::u::u::u::u::u::u::u::u::u::u::u::u::u::u::u::u::u::u::u::u::u::u::u::u::u::u::u::u::u::u::u::u::u::u::u::u::u::u::u::u::u::u::u::u::u::u::u::u::u::u::u::u::u::u::u::u::u::u::u::u::u::u::u::u::u::u::u::u::u::u::u::u::u::u::u::u::u::u::u::u::u::[])∧az H (⟨v23,1,FE.map (AV.int .i64)⟩::⟨FB,1,Hh.map (AV.int .i64)⟩::⟨v78,1,JM.map (AV.int .i64)⟩::⟨.ptr Ge Gf 0 0,3,[.agg [.int .i64 Fp.Next,.fz (Fp.Em.map Ej),.fz (Fp.Ek.map (AV.int .i64))]]⟩::F)) (fun S1 Io=> ?_) (fun s H hq=> ?_)
      ·refine B3 fun K94 LL=> ?_;refine Ck gC ?_;try simp only [W,EE,reduceIte,Nat.reduceAdd,Nat.reduceLeDiff,hS.var 5 rfl]
       refine CB h fun Oh Zp h=> ?_;refine LK Zp hS fun H hS=> ?_;try simp only [W]
       refine C4 h (fun hc h=> ?_) (fun hc h=> ?_)
       ·try simp only [W,hc]
        refine B_ LL ?_;refine DP (s' :=(u:: .fz (a1.map (AV.int .u8))::u::u::u::u:: .fz (Fo.map Ej):: .ptr Ge Gf 0 0::u::v23::u::u::u::u::u::FB::u::u::u::v78::u::u::u::u::u::u::u::u::u::u::u::u::u::u::u::u::u::u::u::u::u::u::u::u::u::u::u::u::u::u::u::u::u::u::u::u::u::u::u::u::u::u::u::u::u::u::u::u::u::u::u::u::u::u::u::u::u::u::u::u::u::u::u::u::u::u::u::u::u::u::u::u::u::u::u::u::u::u::u::u::u::u::u::u::u::u::u::u::u::u::u::u::u::u::u::u::u::u::u::u::u::u::u::u::u::u::u::u::u::u::u::u::u::u::u::u::u::u::u::u::u::u::u::u::u::u::u::u::u::u::u::u::u::u::u::u::u::u::u::u::u::u::u::u::u::u::u::u::u::u::u:: .bool true::u::u::u::u::u::u::u::u::u::u::u::u::u::u::u::u::u::u::u::u::u::u::u::u::u::u::u::u::u::u::u::u::u::u::u::u::u::u::u::u::u::u::u::u::u::u::u::u::u::u::u::u::u::u::u::u::u::u::u::u::u::u::u::u::u::u::u::u::u::u::u::u::u::u::u::u::u::u::u::u::u::u::u::u::u::u::u::u::u::u::u::u::u::u::u::u::u::u::u::u::u::u::u::u::[])) rfl ?_
        exact CH Io ⟨_,(Option.some.inj h).symm,rfl,(hS.C0 6 [2,3,0,5] (by decide))⟩
       ·try simp only [W,reduceIte,Bool.false_eq_true,hc]
        refine C4 h (fun hc h=> ?_) (fun hc h=> ?_)
        ·try simp only [W,hc]
         refine B_ LL ?_;refine DP (s' :=(u:: .fz (a1.map (AV.int .u8))::u::u::u::u:: .fz (Fo.map Ej):: .ptr Ge Gf 0 0::u::v23::u::u::u::u::u::FB::u::u::u::v78::u::u::u::u::u::u::u::u::u::u::u::u::u::u::u::u::u::u::u::u::u::u::u::u::u::u::u::u::u::u::u::u::u::u::u::u::u::u::u::u::u::u::u::u::u::u::u::u::u::u::u::u::u::u::u::u::u::u::u::u::u::u::u::u::u::u::u::u::u::u::u::u::u::u::u::u::u::u::u::u::u::u::u::u::u::u::u::u::u::u::u::u::u::u::u::u::u::u::u::u::u::u::u::u::u::u::u::u::u::u::u::u::u::u::u::u::u::u::u::u::u::u::u::u::u::u::u::u::u::u::u::u::u::u::u::u::u::u::u::u::u::u::u::u::u::u::u::u::u::u::u:: .bool true::u::u::u::u::u::u::u::u::u::u::u::u::u::u::u::u::u::u::u::u::u::u::u::u::u::u::u::u::u::u::u::u::u::u::u::u::u::u::u::u::u::u::u::u::u::u::u::u::u::u::u::u::u::u::u::u::u::u::u::u::u::u::u::u::u::u::u::u::u::u::u::u::u::u::u::u::u::u::u::u::u::u::u::u::u::u::u::u::u::u::u::u::u::u::u::u::u::u::u::u::u::u::u::u::[])) rfl ?_
         exact CH Io ⟨_,(Option.some.inj h).symm,rfl,(hS.C0 6 [2,3,0,5] (by decide))⟩
        ·try simp only [W,reduceIte,Bool.false_eq_true,hc]
         refine C4 h (fun hc h=> ?_) (fun hc h=> ?_)
         ·try simp only [W,hc]
          refine B_ LL ?_;refine DP (s' :=(u:: .fz (a1.map (AV.int .u8))::u::u::u::u:: .fz (Fo.map Ej):: .ptr Ge Gf 0 0::u::v23::u::u::u::u::u::FB::u::u::u::v78::u::u::u::u::u::u::u::u::u::u::u::u::u::u::u::u::u::u::u::u::u::u::u::u::u::u::u::u::u::u::u::u::u::u::u::u::u::u::u::u::u::u::u::u::u::u::u::u::u::u::u::u::u::u::u::u::u::u::u::u::u::u::u::u::u::u::u::u::u::u::u::u::u::u::u::u::u::u::u::u::u::u::u::u::u::u::u::u::u::u::u::u::u::u::u::u::u::u::u::u::u::u::u::u::u::u::u::u::u::u::u::u::u::u::u::u::u::u::u::u::u::u::u::u::u::u::u::u::u::u::u::u::u::u::u::u::u::u::u::u::u::u::u::u::u::u::u::u::u::u::u:: .bool true::u::u::u::u::u::u::u::u::u::u::u::u::u::u::u::u::u::u::u::u::u::u::u::u::u::u::u::u::u::u::u::u::u::u::u::u::u::u::u::u::u::u::u::u::u::u::u::u::u::u::u::u::u::u::u::u::u::u::u::u::u::u::u::u::u::u::u::u::u::u::u::u::u::u::u::u::u::u::u::u::u::u::u::u::u::u::u::u::u::u::u::u::u::u::u::u::u::u::u::u::u::u::u::u::[])) rfl ?_
          exact CH Io ⟨_,(Option.some.inj h).symm,rfl,(hS.C0 6 [2,3,0,5] (by decide))⟩
         ·try simp only [W,reduceIte,Bool.false_eq_true,hc]
          refine C4 h (fun hc h=> ?_) (fun hc h=> ?_)
          ·try simp only [W,hc]
           refine B_ LL ?_;refine DP (s' :=(u:: .fz (a1.map (AV.int .u8))::u::u::u::u:: .fz (Fo.map Ej):: .ptr Ge Gf 0 0::u::v23::u::u::u::u::u::FB::u::u::u::v78::u::u::u::u::u::u::u::u::u::u::u::u::u::u::u::u::u::u::u::u::u::u::u::u::u::u::u::u::u::u::u::u::u::u::u::u::u::u::u::u::u::u::u::u::u::u::u::u::u::u::u::u::u::u::u::u::u::u::u::u::u::u::u::u::u::u::u::u::u::u::u::u::u::u::u::u::u::u::u::u::u::u::u::u::u::u::u::u::u::u::u::u::u::u::u::u::u::u::u::u::u::u::u::u::u::u::u::u::u::u::u::u::u::u::u::u::u::u::u::u::u::u::u::u::u::u::u::u::u::u::u::u::u::u::u::u::u::u::u::u::u::u::u::u::u::u::u::u::u::u::u:: .bool true::u::u::u::u::u::u::u::u::u::u::u::u::u::u::u::u::u::u::u::u::u::u::u::u::u::u::u::u::u::u::u::u::u::u::u::u::u::u::u::u::u::u::u::u::u::u::u::u::u::u::u::u::u::u::u::u::u::u::u::u::u::u::u::u::u::u::u::u::u::u::u::u::u::u::u::u::u::u::u::u::u::u::u::u::u::u::u::u::u::u::u::u::u::u::u::u::u::u::u::u::u::u::u::u::[])) rfl ?_
           exact CH Io ⟨_,(Option.some.inj h).symm,rfl,(hS.C0 6 [2,3,0,5] (by decide))⟩
          ·try simp only [W,EE,hc]
           refine Cy 1 hS rfl JY rfl ?_;try simp only [W,EE,reduceIte,Bool.false_eq_true]
           refine C4 h (fun hc h=> ?_) (fun hc h=> ?_)
           ·try simp only [W,hc]
            refine B_ LL ?_;refine DP (s' :=(u:: .fz (a1.map (AV.int .u8))::u::u::u::u:: .fz (Fo.map Ej):: .ptr Ge Gf 0 0::u::v23::u::u::u::u::u::FB::u::u::u::v78::u::u::u::u::u::u::u::u::u::u::u::u::u::u::u::u::u::u::u::u::u::u::u::u::u::u::u::u::u::u::u::u::u::u::u::u::u::u::u::u::u::u::u::u::u::u::u::u::u::u::u::u::u::u::u::u::u::u::u::u::u::u::u::u::u::u::u::u::u::u::u::u::u::u::u::u::u::u::u::u::u::u::u::u::u::u::u::u::u::u::u::u::u::u::u::u::u::u::u::u::u::u::u::u::u::u::u::u::u::u::u::u::u::u::u::u::u::u::u::u::u::u::u::u::u::u::u::u::u::u::u::u::u::u::u::u::u::u::u::u::u::u::u::u::u::u::u::u::u::u::u:: .bool true::u::u::u::u::u::u::u::u::u::u::u::u::u::u::u::u::u::u::u::u::u::u::u::u::u::u::u::u::u::u::u::u::u::u::u::u::u::u::u::u::u::u::u::u::u::u::u::u::u::u::u::u::u::u::u::u::u::u::u::u::u::u::u::u::u::u::u::u::u::u::u::u::u::u::u::u::u::u::u::u::u::u::u::u::u::u::u::u::u::u::u::u::u::u::u::u::u::u::u::u::u::u::u::u::[])) rfl ?_
            exact CH Io ⟨_,(Option.some.inj h).symm,rfl,(hS.C0 6 [2,3,0,5] (by decide))⟩
           ·try simp only [W,EE,Nat.reduceAdd,Nat.reduceBEq,hS.var 5 rfl,hc]
            refine Cy 0 hS rfl O7 rfl ?_;try simp only [W,EE,reduceIte,Nat.reduceAdd,Nat.reduceBEq,Bool.false_eq_true,hS.var 5 rfl]
            refine B_ LL ?_;refine DP (s' :=(u:: .fz (a1.map (AV.int .u8))::u::u::u::u:: .fz (Fo.map Ej):: .ptr Ge Gf 0 0::u::v23::u::u::u::u::u::FB::u::u::u::v78::u::u::u::u::u::u::u::u::u::u::u::u::u::u::u::u::u::u::u::u::u::u::u::u::u::u::u::u::u::u::u::u::u::u::u::u::u::u::u::u::u::u::u::u::u::u::u::u::u::u::u::u::u::u::u::u::u::u::u::u::u::u::u::u::u::u::u::u::u::u::u::u::u::u::u::u::u::u::u::u::u::u::u::u::u::u::u::u::u::u::u::u::u::u::u::u::u::u::u::u::u::u::u::u::u::u::u::u::u::u::u::u::u::u::u::u::u::u::u::u::u::u::u::u::u::u::u::u::u::u::u::u::u::u::u::u::u::u::u::u::u::u::u::u::u::u::u::u::u::u::u:: .bool ((IntKind.i64.wrap ((IntKind.i64.wrap (Ja+(Fp.Ek.length:Int)))+(JM.length:Int))) !=Fp.Next)::u::u::u::u::u::u::u::u::u::u::u::u::u::u::u::u::u::u::u::u::u::u::u::u::u::u::u::u::u::u::u::u::u::u::u::u::u::u::u::u::u::u::u::u::u::u::u::u::u::u::u::u::u::u::u::u::u::u::u::u::u::u::u::u::u::u::u::u::u::u::u::u::u::u::u::u::u::u::u::u::u::u::u::u::u::u::u::u::u::u::u::u::u::u::u::u::u::u::u::u::u::u::u::u::[])) rfl ?_
            exact CH Io ⟨_,(Option.some.inj h).symm,rfl,(hS.C0 6 [2,3,0,5] (by decide))⟩
      ·obtain ⟨Km,Es,rfl,hS⟩:=hq;obtain rfl:=Es.symm;replace h:=Zo;try dsimp only at h
       refine B_ Zm ?_;refine B8 ?_;simp only [W];refine Cj h (fun hc h=> ?_) (fun hc h=> ?_)
       ·refine B3 fun K96 Zq=> ?_;refine Ck gC ?_;try simp only [W,Nat.reduceAdd]
        refine B_ Zq ?_;refine B6 ?_;refine Ca TF ?_;refine Ca IJ ?_;try obtain rfl:=Option.some.inj h
        obtain rfl:=Option.some.inj Pb;have h:(some false:Option (Bool))=some false:=rfl;refine CI II ?_;refine Ca Jk ?_;refine Ch El rfl ?_;try obtain rfl:=Option.some.inj h
        exact hP _ (hS.C0 4 [] (by decide))
       ·refine B5 ?_;refine B_ TF ?_;refine B3 fun K99 TG=> ?_;refine B3 fun adD Zr=> ?_;refine Ck gC ?_;try simp only [W,Nat.reduceAdd]
        refine Cz rfl rfl ?_;try simp only [W,EE]
        have hS:=hS.Aq 1;refine CP (l:=([]:List Int)) (c:=(AV.int .i64)) 0 hS rfl nt rfl rfl rfl (hS.il 1 rfl Hl) (fun _=>rfl) rfl h fun adE H M7 Zs hm h hS=> ?_;try simp only [W,EE]
        refine CP (l:=M7) (c:=(AV.int .i64)) 0 hS rfl Zs rfl rfl rfl (hS.il 3 rfl O7) (fun _=>rfl) rfl h fun TJ H I_ TK hm h hS=> ?_;try simp only [W,EE]
        refine Cy 0 hS rfl TK rfl ?_;try simp only [W]
        refine B_ Zr ?_;obtain ⟨Zt,Zu,OT⟩:=Option.bind_eq_some_iff.1 h;refine CG gC (fun s H=>Zt=LR.next ()∧s=(u:: .fz (a1.map (AV.int .u8))::u::u::u::u:: .fz (Fo.map Ej):: .ptr Ge Gf 0 0::u::u::u::u::u::u::u::u::u::u::u::u::u::u::u::u::u::u::u::u::u::u::u::u::u::u::u::u::u::u::u::u::u::u::u::u::u::u::u::u::u::u::u::u::u::u::u::u::u::u::u::u::u::u::u::u::u::u::u::u::u::u::u::u::u::u::u::u::u::u::u::u::u::u::u::u::u::u::u::u::u::u::u::u::u::u::u::u::u::u::u::u::u::u::u::u::u::u::u::u::u::u::u::u::u::u::u::u::u::u::u::u::u::u::u::u::u::u::u::u::u::u::u::u::u::u::u::u::u::u::u::u::u::u::u::u::u::u::u::u::u::u::u::u::u::u::u::u::u::u::u::u::u::u::u::u::u::u::u::u::u::u::u::u::u::u::u::u::u::u::u::u::u::u::u::u::u::u::u::u::u::u::u::u::u::u::u::u::u::u::u::u::u::u::u::u::u::u::u::u::u::u::u::u::u::u::u::u::u::u::u::u::u::u::u::u::u::u::u::u::u::u::u::u::u::u::u::u::u::u::u::u::u::u::u::u::u::u::u::u::u::u::u::u::u::u::u::u::u::u::u::u::u::u::u::u::u::u::u::u::u::u::u::u::u::u::u::u::[])∧az H (⟨.ptr Ge Gf 0 0,3,[.agg [.int .i64 Fp.Next,.fz (Fp.Em.map Ej),.fz (Fp.Ek.map (AV.int .i64))]]⟩::F)) (fun adF TL=> ?_) (fun s H hq=> ?_)
        ·refine B4 fun adG TM=> ?_;refine CC gC Zu (fun x s H=>s=(u:: .fz (a1.map (AV.int .u8))::u::u::u::u:: .fz (Fo.map Ej):: .ptr Ge Gf 0 0::u::u::u::u::u::u::u::FB::u::u::u::u::u::u::u::u::u::u::u::u::u::u::u::u::u::u::u::u::u::u::u::u::u::u::u::u::u::u::u::u::u::u::u::u::u::u::u::u::u::u::u::u::u::u::u::u::u::u::u::u::u::u::u::u::u::u::u::u::u::u::u::u::u::u::u::u::u::u::u::u::u::u::u::u::u::u::u::u::u::u::u::u::u::u::u::u::u::u::u::u::u::u::u::u::u::u::u::u::u::u::u::u::u::u::u::u::u::u::u::u::u::u::u::u::u::u::u::u::u::u::u::u::u::u::u::u::u::u::u::u::u::u::u::u::u::u::u::u::u::u::u::u::u::u::u::u::u::u::u::u::u::u::u::u::u::u::u::u::TJ:: .int .i64 (I_.length:Int):: .int .i64 x::u::u::u::u::u::u::u::u::u::u::u::u::u::u::u::u::u::u::u::u::u::u::u::u::u::u::u::u::u::u::u::u::u::u::u::u::u::u::u::u::u::u::u::u::u::u::u::u::u::u::u::u::u::u::u::u::u::u::u::u::u::u::u::u::u::u::u::u::u::u::u::u::u::u::u::u::u::u::u::u::u::u::u::u::u::u::u::u::u::u::u::u::u::u::u::u::u::[])∧az H (⟨FB,1,Hh.map (AV.int .i64)⟩::⟨TJ,1,I_.map (AV.int .i64)⟩::⟨.ptr Ge Gf 0 0,3,[.agg [.int .i64 Fp.Next,.fz (Fp.Em.map Ej),.fz (Fp.Ek.map (AV.int .i64))]]⟩::F)) ⟨rfl,(hS.C0 5 [2,0,4] (by decide))⟩ (fun IE Td s H h TN hi adH Rj=> ?_)
         skip
         try dsimp only at hi
         obtain ⟨rfl,hS⟩:=hi;simp only [M5] at h;refine B3 fun Te LF=> ?_;refine Ck gC ?_;try simp only [W,EE,Nat.reduceAdd]
         refine B_ LF ?_;refine B3 fun W2 Nv=> ?_;refine B8 ?_;simp only [W];refine Cj h (fun hc h=> ?_) (fun hc h=> ?_)
         ·refine B5 ?_;refine B_ Nv ?_;refine B3 fun adI TO=> ?_;refine B4 fun adJ TP=> ?_;refine B3 fun S4 Lz=> ?_;refine Ck gC ?_;try simp only [W,EE,Nat.reduceAdd]
          refine Cv 1 hS rfl rfl rfl rfl rfl h (fun PO adK adL adM Zv h Zw=> ?_) TK.ne;obtain ⟨adN,Zx,Zy⟩:=hS.elem 1 rfl Zw Zv;try simp only [W,EE,Zx,Zy]
          refine B_ Lz ?_;refine B3 fun adO Zz=> ?_;refine Ck gC ?_;try simp only [W,Nat.reduceAdd]
          refine Dt (bP:=[[.sc]]) (ys:=[.fz (Hh.map (AV.int .i64)),.int .i64 PO]) h rfl (Dg (Dd hS 0 rfl JZ (fun _=>rfl)) (Dg rfl Df)) fun I2 ZA h=>⟨.bool I2,Y9 ZA (az.nil _) fun H hS=>Dl rfl (Di rfl (Dh rfl)),⟨rfl,rfl,fun _=>rfl⟩,?_⟩;try simp only [W]
          refine B_ Zz ?_;refine B8 ?_;simp only [W];refine Cj h (fun hc h=> ?_) (fun hc h=> ?_)
          ·refine B3 fun SH Lo=> ?_;refine Ck gC ?_;try simp only [W,Nat.reduceAdd]
           refine B_ Lo ?_;refine B6 ?_;refine Cf TP ?_;refine Ca TO ?_;try obtain rfl:=Option.some.inj h
           obtain rfl:=TN _ rfl;have h:(some (LR.done (LR.done false)):Option (LR Unit (LR Unit (Bool))))=some (LR.done (LR.done false)):=rfl;refine CF Rj ?_;refine Cf TM ?_;try obtain rfl:=Option.some.inj h
           obtain rfl:=Option.some.inj OT;have h:(some (LR.done false):Option (LR Unit (Bool)))=some (LR.done false):=rfl;refine CI TL ?_;refine Ca TG ?_;refine Ca IJ ?_;try obtain rfl:=Option.some.inj h
           obtain rfl:=Option.some.inj Pb;have h:(some false:Option (Bool))=some false:=rfl;refine CI II ?_;refine Ca Jk ?_;refine Ch El rfl ?_;try obtain rfl:=Option.some.inj h
           exact hP _ (hS.C0 3 [] (by decide))
          ·refine B5 ?_;refine Cd TP ?_;refine B_ TO ?_;refine Ck gC ?_;try simp only [W,EE,Nat.reduceAdd]
           exact CD Rj h ⟨rfl,hS⟩
         ·refine B7 ?_;refine Cb Nv ?_;try obtain rfl:=Option.some.inj h
          obtain rfl:=TN _ rfl;have h:(some (LR.next ()):Option (LR Unit (LR Unit (Bool))))=some (LR.next ()):=rfl
          refine CE Rj ?_;refine Ce TM ?_;exact CH TL ⟨(Option.some.inj h).symm,rfl,(hS.C0 3 [2] (by decide))⟩
        ·obtain ⟨rfl,rfl,hS⟩:=hq;replace h:=OT;try dsimp only at h
         refine B_ TG ?_;refine B3 fun W_ OX=> ?_;refine Ck gC ?_;try simp only [W,EE,reduceIte,Nat.reduceAdd,Nat.reduceLeDiff,hS.var 0 rfl]
         refine CB h fun QM QN h=> ?_;obtain ⟨Hf,I3,M8,Oi⟩:=QM;try dsimp only at h
         refine Ty QN hS fun v141 QA v143 KJ H hS=> ?_;try simp only [W]
         refine Cr hS rfl rfl fun adP adQ H hS=> ?_;try simp only [W]
         refine Cs (a:= .agg [.int .i64 Hf.Next,.fz (Hf.Em.map Ej),.fz (Hf.Ek.map (AV.int .i64))]) (y' := .agg [.int .i64 Hf.Next,.fz (Hf.Em.map Ej),.fz (Hf.Ek.map (AV.int .i64))]) 0 hS rfl rfl rfl rfl rfl rfl rfl rfl fun H hS=> ?_
         try simp only [W]
         refine B_ OX ?_;refine B3 fun YX Rg=> ?_;obtain ⟨ZB,h,ZC⟩:=Option.bind_eq_some_iff.1 h;refine CG gC (fun s H=> ∃Kn:Bool,ZB=(Kn)∧s=(u:: .fz (a1.map (AV.int .u8))::u::u::u::u::u::u::u::u::u::u::u::u::u::u::u::u::u::u::u::u::u::u::u::u::u::u::u::u::u::u::u::u::u::u::u::u::u::u::u::u::u::u::u::u::u::u::u::u::u::u::u::u::u::u::u::u::u::u::u::u::u::u::u::u::u::u::u::u::u::u::u::u::u::u::u::u::u::u::u::u::u::u::u::u::u::u::u::u::u::u::u::u::u::u::u::u::u::u::u::u::u::u::u::u::u::u::u::u::u::u::u::u::u::u::u::u::u::u::u::u::u::u::u::u::u::u::u::u::u::u::u::u::u::u::u::u::u::u::u::u::u::u::u::u::u::u::u::u::u::u::u::u::u::u::u::u::u::u::u::u::u::u::u::u::u::u::u::u::u::u::u::u::u::u::u::u::u::u::u::u::u::u::u::u::u::u::u::u::u::u::u::u::u::u::u::u::u::u::u::u::u::u::u::u::u::u::u::u::u::u:: .bool Kn::u::u::u::u::u::u::u::u::u::u::u::u::u::u::u::u::u::u::u::u::u::u::u::u::u::u::u::u::u::u::u::u::u::u::u::u::u::u::u::u::u::u::u::u::u::u::u::u::u::u::u::u::u::u::u::u::u::u::u::u::u::u::u::[])∧az H (F)) (fun adR Pc=> ?_) (fun s H hq=> ?_)
         ·refine B3 fun adS Pd=> ?_;refine Ck gC ?_;try simp only [W,Nat.reduceAdd]
          refine C4 h (fun hc h=> ?_) (fun hc h=> ?_)
          ·try simp only [W,hc]
           refine B_ Pd ?_;refine DP (s' :=(u:: .fz (a1.map (AV.int .u8))::u::u::u::u::u::u::u::u::u::u::u::u::u::u::u::u::u::u::u::u::u::u::u::u::u::u::u::u::u::u::u::u::u::u::u::u::u::u::u::u::u::u::u::u::u::u::u::u::u::u::u::u::u::u::u::u::u::u::u::u::u::u::u::u::u::u::u::u::u::u::u::u::u::u::u::u::u::u::u::u::u::u::u::u::u::u::u::u::u::u::u::u::u::u::u::u::u::u::u::u::u::u::u::u::u::u::u::u::u::u::u::u::u::u::u::u::u::u::u::u::u::u::u::u::u::u::u::u::u::u::u::u::u::u::u::u::u::u::u::u::u::u::u::u::u::u::u::u::u::u::u::u::u::u::u::u::u::u::u::u::u::u::u::u::u::u::u::u::u::u::u::u::u::u::u::u::u::u::u::u::u::u::u::u::u::u::u::u::u::u::u::u::u::u::u::u::u::u::u::u::u::u::u::u::u::u::u::u::u::u:: .bool true::u::u::u::u::u::u::u::u::u::u::u::u::u::u::u::u::u::u::u::u::u::u::u::u::u::u::u::u::u::u::u::u::u::u::u::u::u::u::u::u::u::u::u::u::u::u::u::u::u::u::u::u::u::u::u::u::u::u::u::u::u::u::u::[])) rfl ?_
           exact CH Pc ⟨_,(Option.some.inj h).symm,rfl,(hS.C0 4 [] (by decide))⟩
          ·try simp only [W,EE,reduceIte,Nat.reduceAdd,Nat.reduceLeDiff,hS.var 0 rfl,hS.var 3 rfl,hc]
           refine CB h fun Oj ZD h=> ?_;refine Pa ZD hS fun H hS=> ?_;try simp only [W,reduceIte,Bool.false_eq_true]
           refine C4 h (fun hc h=> ?_) (fun hc h=> ?_)
           ·try simp only [W,hc]
            refine B_ Pd ?_;refine DP (s' :=(u:: .fz (a1.map (AV.int .u8))::u::u::u::u::u::u::u::u::u::u::u::u::u::u::u::u::u::u::u::u::u::u::u::u::u::u::u::u::u::u::u::u::u::u::u::u::u::u::u::u::u::u::u::u::u::u::u::u::u::u::u::u::u::u::u::u::u::u::u::u::u::u::u::u::u::u::u::u::u::u::u::u::u::u::u::u::u::u::u::u::u::u::u::u::u::u::u::u::u::u::u::u::u::u::u::u::u::u::u::u::u::u::u::u::u::u::u::u::u::u::u::u::u::u::u::u::u::u::u::u::u::u::u::u::u::u::u::u::u::u::u::u::u::u::u::u::u::u::u::u::u::u::u::u::u::u::u::u::u::u::u::u::u::u::u::u::u::u::u::u::u::u::u::u::u::u::u::u::u::u::u::u::u::u::u::u::u::u::u::u::u::u::u::u::u::u::u::u::u::u::u::u::u::u::u::u::u::u::u::u::u::u::u::u::u::u::u::u::u::u:: .bool true::u::u::u::u::u::u::u::u::u::u::u::u::u::u::u::u::u::u::u::u::u::u::u::u::u::u::u::u::u::u::u::u::u::u::u::u::u::u::u::u::u::u::u::u::u::u::u::u::u::u::u::u::u::u::u::u::u::u::u::u::u::u::u::[])) rfl ?_
            exact CH Pc ⟨_,(Option.some.inj h).symm,rfl,(hS.C0 4 [] (by decide))⟩
           ·try simp only [W,EE,hc]
            refine Cy 1 hS rfl QA rfl ?_;try simp only [W,EE,reduceIte,Bool.false_eq_true]
            refine C4 h (fun hc h=> ?_) (fun hc h=> ?_)
            ·try simp only [W,hc]
             refine B_ Pd ?_;refine DP (s' :=(u:: .fz (a1.map (AV.int .u8))::u::u::u::u::u::u::u::u::u::u::u::u::u::u::u::u::u::u::u::u::u::u::u::u::u::u::u::u::u::u::u::u::u::u::u::u::u::u::u::u::u::u::u::u::u::u::u::u::u::u::u::u::u::u::u::u::u::u::u::u::u::u::u::u::u::u::u::u::u::u::u::u::u::u::u::u::u::u::u::u::u::u::u::u::u::u::u::u::u::u::u::u::u::u::u::u::u::u::u::u::u::u::u::u::u::u::u::u::u::u::u::u::u::u::u::u::u::u::u::u::u::u::u::u::u::u::u::u::u::u::u::u::u::u::u::u::u::u::u::u::u::u::u::u::u::u::u::u::u::u::u::u::u::u::u::u::u::u::u::u::u::u::u::u::u::u::u::u::u::u::u::u::u::u::u::u::u::u::u::u::u::u::u::u::u::u::u::u::u::u::u::u::u::u::u::u::u::u::u::u::u::u::u::u::u::u::u::u::u::u:: .bool true::u::u::u::u::u::u::u::u::u::u::u::u::u::u::u::u::u::u::u::u::u::u::u::u::u::u::u::u::u::u::u::u::u::u::u::u::u::u::u::u::u::u::u::u::u::u::u::u::u::u::u::u::u::u::u::u::u::u::u::u::u::u::u::[])) rfl ?_
             exact CH Pc ⟨_,(Option.some.inj h).symm,rfl,(hS.C0 4 [] (by decide))⟩
            ·try simp only [W,EE,hc]
             refine Cy 2 hS rfl KJ rfl ?_;try simp only [W,EE,reduceIte,Bool.false_eq_true]
             refine B_ Pd ?_;refine DP (s' :=(u:: .fz (a1.map (AV.int .u8))::u::u::u::u::u::u::u::u::u::u::u::u::u::u::u::u::u::u::u::u::u::u::u::u::u::u::u::u::u::u::u::u::u::u::u::u::u::u::u::u::u::u::u::u::u::u::u::u::u::u::u::u::u::u::u::u::u::u::u::u::u::u::u::u::u::u::u::u::u::u::u::u::u::u::u::u::u::u::u::u::u::u::u::u::u::u::u::u::u::u::u::u::u::u::u::u::u::u::u::u::u::u::u::u::u::u::u::u::u::u::u::u::u::u::u::u::u::u::u::u::u::u::u::u::u::u::u::u::u::u::u::u::u::u::u::u::u::u::u::u::u::u::u::u::u::u::u::u::u::u::u::u::u::u::u::u::u::u::u::u::u::u::u::u::u::u::u::u::u::u::u::u::u::u::u::u::u::u::u::u::u::u::u::u::u::u::u::u::u::u::u::u::u::u::u::u::u::u::u::u::u::u::u::u::u::u::u::u::u::u:: .bool (decide (0<(M8.length:Int)))::u::u::u::u::u::u::u::u::u::u::u::u::u::u::u::u::u::u::u::u::u::u::u::u::u::u::u::u::u::u::u::u::u::u::u::u::u::u::u::u::u::u::u::u::u::u::u::u::u::u::u::u::u::u::u::u::u::u::u::u::u::u::u::[])) rfl ?_
             exact CH Pc ⟨_,(Option.some.inj h).symm,rfl,(hS.C0 4 [] (by decide))⟩
         ·obtain ⟨Kn,Es,rfl,hS⟩:=hq;obtain rfl:=Es.symm;replace h:=ZC;try dsimp only at h
          refine B_ Rg ?_;refine B8 ?_;simp only [W];refine Cj h (fun hc h=> ?_) (fun hc h=> ?_)
          ·refine B3 fun adT ZE=> ?_;refine Ck gC ?_;try simp only [W,Nat.reduceAdd]
           refine B_ ZE ?_;refine B6 ?_;refine Ca IJ ?_;try obtain rfl:=Option.some.inj h
           obtain rfl:=Option.some.inj Pb;have h:(some false:Option (Bool))=some false:=rfl;refine CI II ?_;refine Ca Jk ?_;refine Ch El rfl ?_;try obtain rfl:=Option.some.inj h
           exact hP _ hS
          ·refine B5 ?_;refine B_ IJ ?_;refine DP (s' :=(u:: .fz (a1.map (AV.int .u8))::u::u::u::u::u::u::u::u::u::u::u::u::u::u::u::u::u::u::u::u::u::u::u::u::u::u::u::u::u::u::u::u::u::u::u::u::u::u::u::u::u::u::u::u::u::u::u::u::u::u::u::u::u::u::u::u::u::u::u::u::u::u::u::u::u::u::u::u::u::u::u::u::u::u::u::u::u::u::u::u::u::u::u::u::u::u::u::u::u::u::u::u::u::u::u::u::u::u::u::u::u::u::u::u::u::u::u::u::u::u::u::u::u::u::u::u::u::u::u::u::u::u::u::u::u::u::u::u::u::u::u::u::u::u::u::u::u::u::u::u::u::u::u::u::u::u::u::u::u::u::u::u::u::u::u::u::u::u::u::u::u::u::u::u::u::u::u::u::u::u::u::u::u::u::u::u::u::u::u::u::u::u::u::u::u::u::u::u::u::u::u::u::u::u::u::u::u::u::u::u::u::u::u::u::u::u::u::u::u::u::u::u::u::u::u::u::u::u::u::u::u::u::u::u::u::u::u::u::u::u::u::u::u::u::u::u::u::u::u::u::u::u::u::u::u::u::u::u::u::u::u::u::u::u::u::u::u::u::u::u::u::u::u::u::u::u::u::u::u::u::u::u::u::u::[])) rfl ?_
           exact CH II ⟨(Option.some.inj h).symm,rfl,hS⟩
     ·refine B5 ?_;refine B_ IJ ?_;refine DP (s' :=(u:: .fz (a1.map (AV.int .u8))::u::u::u::u::u::u::u::u::u::u::u::u::u::u::u::u::u::u::u::u::u::u::u::u::u::u::u::u::u::u::u::u::u::u::u::u::u::u::u::u::u::u::u::u::u::u::u::u::u::u::u::u::u::u::u::u::u::u::u::u::u::u::u::u::u::u::u::u::u::u::u::u::u::u::u::u::u::u::u::u::u::u::u::u::u::u::u::u::u::u::u::u::u::u::u::u::u::u::u::u::u::u::u::u::u::u::u::u::u::u::u::u::u::u::u::u::u::u::u::u::u::u::u::u::u::u::u::u::u::u::u::u::u::u::u::u::u::u::u::u::u::u::u::u::u::u::u::u::u::u::u::u::u::u::u::u::u::u::u::u::u::u::u::u::u::u::u::u::u::u::u::u::u::u::u::u::u::u::u::u::u::u::u::u::u::u::u::u::u::u::u::u::u::u::u::u::u::u::u::u::u::u::u::u::u::u::u::u::u::u::u::u::u::u::u::u::u::u::u::u::u::u::u::u::u::u::u::u::u::u::u::u::u::u::u::u::u::u::u::u::u::u::u::u::u::u::u::u::u::u::u::u::u::u::u::u::u::u::u::u::u::u::u::u::u::u::u::u::u::u::u::u::u::u::[])) rfl ?_
      exact CH II ⟨(Option.some.inj h).symm,rfl,(hS.C0 5 [] (by decide))⟩
    ·obtain ⟨rfl,rfl,hS⟩:=hq;replace h:=Pb;try dsimp only at h
     refine B_ Jk ?_;refine B3 fun adU ZF=> ?_;refine Ck gC ?_;try simp only [W,Nat.reduceAdd]
     refine CB h fun HR ZG h=> ?_;refine Y_ ZG hS fun v159 Rk TQ Rl H hS=> ?_;try simp only [W]
     refine Cr hS rfl rfl fun adV adW H hS=> ?_;try simp only [W]
     refine Cs (a:= .agg [.int .i64 HR.Next,v159,TQ]) (y' := .agg [.int .i64 HR.Next,v159,TQ]) 0 hS rfl rfl rfl rfl rfl (by simp only [dD,List.all_cons,List.all_nil,Rk.qu,Rl.qu];rfl) rfl rfl fun H hS=> ?_
     try simp only [W]
     refine B_ ZF ?_;refine B3 fun adX ZH=> ?_;refine Ck gC ?_;try simp only [W,EE,reduceIte,Nat.reduceAdd,Nat.reduceLeDiff,Nat.reduceBEq,hS.var 0 rfl,List.contains_cons,Nat.reduceBEq,Bool.or_self]
     refine Du (bP:=[[.sc,.sl [.sc,.sc],.sl [.sc]],[.sc],[.sc]]) (ys:=[.agg [.int .i64 HR.Next,.fz (HR.Em.map Ej),.fz (HR.Ek.map (AV.int .i64))]]) h rfl (Dg (Db (Ax rfl (Ax (Dd hS 1 rfl Rk (fun _=>rfl)) (Ax (Dd hS 2 rfl Rl (fun _=>rfl)) (Da _))))) Df) fun LM ZI h=>⟨.ay [.agg [.int .i64 LM.1.Next,.own 2 (LM.1.Em.map Ej),.own 1 (LM.1.Ek.map (AV.int .i64))],.int .i64 LM.2.1,.bool LM.2.2],Za ZI (az.nil _) fun adY ZJ v171 ZK H hS=>Dl rfl (Dk (CU rfl (CX 0 hS rfl ZJ (fun _ _=>by simp [aY,aN,ck,dp,Ej]) fun H hS=>CX 0 hS rfl ZK (fun _ _=>by simp [aY,aN,dp]) fun H hS=>CT (Di rfl (Di rfl (Dh rfl)))))),(DA (Dy (Dz (Dy rfl (Dy (Dw _ (fun _=>rfl) _) (Dy (Dw _ (fun _=>rfl) _) Dx)))) (Dy rfl (Dy rfl Dx)))),?_⟩
     refine Ds ?_;refine Dq ?_;refine Dn (fun _=>rfl) ?_;refine Dp hS (fun _ _=>rfl) (fun _=>rfl) fun v173 H Rm hS=> ?_;refine Dp hS (fun _ _=>rfl) (fun _=>rfl) fun v175 H Rn hS=> ?_;refine Dm ?_;refine Dn (fun _=>rfl) ?_;refine Dn (fun _=>rfl) ?_;refine Dm ?_;try simp only [List.headD_cons]
     obtain ⟨Ig,PQ,PR⟩:=LM;try dsimp only at h
     try simp only [W]
     refine Cr hS rfl rfl fun adZ ad0 H hS=> ?_;try simp only [W]
     refine Cs (a:= .agg [.int .i64 Ig.Next,v173,v175]) (y' := .agg [.int .i64 Ig.Next,v173,v175]) 0 hS rfl rfl rfl rfl rfl (by simp only [dD,List.all_cons,List.all_nil,Rm.qu,Rn.qu];rfl) rfl rfl fun H hS=> ?_
     try simp only [W]
     refine B_ ZH ?_;refine B3 fun ad1 ZL=> ?_;refine Ck gC ?_;try simp only [W,EE,reduceIte,Nat.reduceAdd,Nat.reduceLeDiff,Nat.reduceBEq,hS.var 3 rfl,List.contains_cons,Nat.reduceBEq,Bool.or_self]
     refine Du (bP:=[[.sc,.sl [.sc,.sc],.sl [.sc]],[.sc],[.sc]]) (ys:=[.agg [.int .i64 HR.Next,.fz (HR.Em.map Ej),.fz (HR.Ek.map (AV.int .i64))]]) h rfl (Dg (Db (Ax rfl (Ax (Dd hS 4 rfl Rk (fun _=>rfl)) (Ax (Dd hS 5 rfl Rl (fun _=>rfl)) (Da _))))) Df) fun LN ZM h=>⟨.ay [.agg [.int .i64 LN.1.Next,.own 2 (LN.1.Em.map Ej),.own 1 (LN.1.Ek.map (AV.int .i64))],.int .i64 LN.2.1,.bool LN.2.2],Zb ZM (az.nil _) fun v183 ZN ad2 ZO H hS=>Dl rfl (Dk (CU rfl (CX 0 hS rfl ZN (fun _ _=>by simp [aY,aN,ck,dp,Ej]) fun H hS=>CX 0 hS rfl ZO (fun _ _=>by simp [aY,aN,dp]) fun H hS=>CT (Di rfl (Di rfl (Dh rfl)))))),(DA (Dy (Dz (Dy rfl (Dy (Dw _ (fun _=>rfl) _) (Dy (Dw _ (fun _=>rfl) _) Dx)))) (Dy rfl (Dy rfl Dx)))),?_⟩
     refine Ds ?_;refine Dq ?_;refine Dn (fun _=>rfl) ?_;refine Dp hS (fun _ _=>rfl) (fun _=>rfl) fun TR H TS hS=> ?_;refine Dp hS (fun _ _=>rfl) (fun _=>rfl) fun TT H TU hS=> ?_;refine Dm ?_;refine Dn (fun _=>rfl) ?_;refine Dn (fun _=>rfl) ?_;refine Dm ?_;try simp only [List.headD_cons]
     obtain ⟨Ko,R0,R1⟩:=LN;try dsimp only at h
     try simp only [W]
     refine Cr hS rfl rfl fun ad3 ad4 H hS=> ?_;try simp only [W]
     refine Cs (a:= .agg [.int .i64 Ko.Next,TR,TT]) (y' := .agg [.int .i64 Ko.Next,TR,TT]) 0 hS rfl rfl rfl rfl rfl (by simp only [dD,List.all_cons,List.all_nil,TS.qu,TU.qu];rfl) rfl rfl fun H hS=> ?_
     try simp only [W]
     refine B_ ZL ?_;refine B3 fun ad5 ZP=> ?_;refine Ck gC ?_;try simp only [W,Nat.reduceAdd]
     refine CB h fun PS ZQ h=> ?_;refine Zc ZQ hS fun H hS=> ?_;try simp only [W]
     refine B_ ZP ?_;refine B3 fun ad6 ZS=> ?_;refine Ck gC ?_;try simp only [W,Nat.reduceAdd]
     refine CB h fun ZT ZU h=> ?_;obtain ⟨Kp,R2⟩:=ZT;try dsimp only at h
     refine Zd ZU hS fun TW TX TY TZ H hS=> ?_;try simp only [W]
     refine Cr hS rfl rfl fun ad7 ad8 H hS=> ?_;try simp only [W]
     refine Cs (a:= .agg [.int .i64 Kp.Next,TW,TY]) (y' := .agg [.int .i64 Kp.Next,TW,TY]) 0 hS rfl rfl rfl rfl rfl (by simp only [dD,List.all_cons,List.all_nil,TX.qu,TZ.qu];rfl) rfl rfl fun H hS=> ?_
     try simp only [W]
     refine B_ ZS ?_;refine B3 fun ad9 ZV=> ?_;refine Ck gC ?_;try simp only [W,Nat.reduceAdd]
     refine CB h fun ZW ZX h=> ?_;obtain ⟨Kq,R3⟩:=ZW;try dsimp only at h
     refine Sm ZX hS fun T1 T2 T3 T4 H hS=> ?_;try simp only [W]
     refine Cr hS rfl rfl fun ad_ aea H hS=> ?_;try simp only [W]
     refine Cs (a:= .agg [.int .i64 Kq.Next,T1,T3]) (y' := .agg [.int .i64 Kq.Next,T1,T3]) 0 hS rfl rfl rfl rfl rfl (by simp only [dD,List.all_cons,List.all_nil,T2.qu,T4.qu];rfl) rfl rfl fun H hS=> ?_
     try simp only [W]
     refine B_ ZV ?_;refine B3 fun aeb J1=> ?_;refine Ck gC ?_;try simp only [W,EE,Nat.reduceAdd]
     rw [Co _ _ _ _ (h:=rfl) rfl,tv];try simp only [W]
     refine C4 h (fun hc h=> ?_) (fun hc h=> ?_)
     ·try simp only [W,EE,reduceIte,hc]
      refine C4 h (fun hc h=> ?_) (fun hc h=> ?_)
      ·try simp only [W,EE,reduceIte,Nat.reduceAdd,Nat.reduceLeDiff,hS.var 9 rfl,hS.var 6 rfl,hc]
       refine Dt (bP:=[[.sc]]) (ys:=[.agg [.int .i64 Ig.Next,.fz (Ig.Em.map Ej),.fz (Ig.Ek.map (AV.int .i64))],.agg [.int .i64 Ko.Next,.fz (Ko.Em.map Ej),.fz (Ko.Ek.map (AV.int .i64))]]) h rfl (Dg (Db (Ax rfl (Ax (Dd hS 11 rfl Rm (fun _=>rfl)) (Ax (Dd hS 10 rfl Rn (fun _=>rfl)) (Da _))))) (Dg (Db (Ax rfl (Ax (Dd hS 8 rfl TS (fun _=>rfl)) (Ax (Dd hS 7 rfl TU (fun _=>rfl)) (Da _))))) Df)) fun M9 ZY h=>⟨.bool M9,Pa ZY (az.nil _) fun H hS=>Dl rfl (Di rfl (Dh rfl)),⟨rfl,rfl,fun _=>rfl⟩,?_⟩;try simp only [W,reduceIte]
       refine C4 h (fun hc h=> ?_) (fun hc h=> ?_)
       ·try simp only [W,EE,hc]
        rw [Co _ _ _ _ (h:=rfl) rfl,tv];try simp only [W,reduceIte]
        refine C4 h (fun hc h=> ?_) (fun hc h=> ?_)
        ·try simp only [W,EE,reduceIte,Nat.reduceAdd,Nat.reduceLeDiff,hS.var 3 rfl,hS.var 0 rfl,hc]
         refine Dt (bP:=[[.sc]]) (ys:=[.agg [.int .i64 Kp.Next,.fz (Kp.Em.map Ej),.fz (Kp.Ek.map (AV.int .i64))],.agg [.int .i64 Kq.Next,.fz (Kq.Em.map Ej),.fz (Kq.Ek.map (AV.int .i64))]]) h rfl (Dg (Db (Ax rfl (Ax (Dd hS 4 rfl TX (fun _=>rfl)) (Ax (Dd hS 5 rfl TZ (fun _=>rfl)) (Da _))))) (Dg (Db (Ax rfl (Ax (Dd hS 1 rfl T2 (fun _=>rfl)) (Ax (Dd hS 2 rfl T4 (fun _=>rfl)) (Da _))))) Df)) fun M_ ZZ h=>⟨.bool M_,Pa ZZ (az.nil _) fun H hS=>Dl rfl (Di rfl (Dh rfl)),⟨rfl,rfl,fun _=>rfl⟩,?_⟩;try simp only [W,reduceIte]
         refine C4 h (fun hc h=> ?_) (fun hc h=> ?_)
         ·try simp only [W,hc]
          refine C4 h (fun hc h=> ?_) (fun hc h=> ?_)
          ·try simp only [W,reduceIte,hc]
           refine B_ J1 ?_;refine B6 ?_;refine Ch El rfl ?_;try obtain rfl:=Option.some.inj h
           exact hP _ (hS.C0 15 [] (by decide))
          ·try simp only [W,EE,reduceIte,Nat.reduceAdd,Nat.reduceLeDiff,hS.var 9 rfl,hc]
           refine Dt (bP:=[[.sc]]) (ys:=[.agg [.int .i64 Ig.Next,.fz (Ig.Em.map Ej),.fz (Ig.Ek.map (AV.int .i64))]]) h rfl (Dg (Db (Ax rfl (Ax (Dd hS 11 rfl Rm (fun _=>rfl)) (Ax (Dd hS 10 rfl Rn (fun _=>rfl)) (Da _))))) Df) fun Na Z0 h=>⟨.bool Na,LK Z0 (az.nil _) fun H hS=>Dl rfl (Di rfl (Dh rfl)),⟨rfl,rfl,fun _=>rfl⟩,?_⟩;try simp only [W]
           refine C4 h (fun hc h=> ?_) (fun hc h=> ?_)
           ·try simp only [W,EE,reduceIte,Nat.reduceAdd,Nat.reduceBEq,Bool.false_eq_true,hS.var 12 rfl,hc]
            refine B_ J1 ?_;refine B6 ?_;refine Ch El rfl ?_;try obtain rfl:=Option.some.inj h
            exact hP _ (hS.C0 15 [] (by decide))
           ·try simp only [W,reduceIte,Bool.false_eq_true,hc]
            refine B_ J1 ?_;refine B6 ?_;refine Ch El rfl ?_;try obtain rfl:=Option.some.inj h
            exact hP _ (hS.C0 15 [] (by decide))
         ·try simp only [W,hc]
          refine B_ J1 ?_;refine B6 ?_;refine Ch El rfl ?_;try obtain rfl:=Option.some.inj h
          exact hP _ (hS.C0 15 [] (by decide))
        ·try simp only [W,hc]
         refine B_ J1 ?_;refine B6 ?_;refine Ch El rfl ?_;try obtain rfl:=Option.some.inj h
         exact hP _ (hS.C0 15 [] (by decide))
       ·try simp only [W,hc]
        refine B_ J1 ?_;refine B6 ?_;refine Ch El rfl ?_;try obtain rfl:=Option.some.inj h
        exact hP _ (hS.C0 15 [] (by decide))
      ·try simp only [W,hc]
       refine B_ J1 ?_;refine B6 ?_;refine Ch El rfl ?_;try obtain rfl:=Option.some.inj h
       exact hP _ (hS.C0 15 [] (by decide))
     ·try simp only [W,hc]
      refine B_ J1 ?_;refine B6 ?_;refine Ch El rfl ?_;try obtain rfl:=Option.some.inj h
      exact hP _ (hS.C0 15 [] (by decide))
end Go.GC
