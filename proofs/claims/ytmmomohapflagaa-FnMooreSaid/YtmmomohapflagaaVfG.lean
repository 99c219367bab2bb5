import Derived.Test.YtmmomohapflagaaVfG1
import Derived.Test.YtmmomohapflagaaProg
import Derived.Test.YtmmomohapflagaaVaE
import Derived.KernelRfl
open Go Go.VS
set_option maxRecDepth 8000
set_option maxHeartbeats 4000000
namespace Go.Hr
theorem U3 {a0:List Int} {a1:List Int} {r:(Bool)} (h:KS a0 a1=some r) {F:List It} {H:J} (hS:ap H (F)) {P:AV→J→Prop} (hP: ∀H',ap H' (F)→P (.bool r) H'):aw C 21 [.fz (a0.map (AV.int .i64)),.fz (a1.map (AV.int .i64))] H P:=by
 refine B4 gC (res:=[.tmp 4]) (n:=26) rfl rfl rfl rfl fun K0 Ff=> ?_;simp only [W,Nat.reduceSub,Nat.reduceAdd,List.replicate];unfold KS at h;refine BC fun K1 Fh=> ?_;refine B1 gC ?_;try simp only [W,Nat.reduceAdd]
 refine BJ Fh ?_;refine BC fun K2 zF=> ?_;refine BC fun K3 Fw=> ?_;refine B1 gC ?_;try simp only [W,Fe,Nat.reduceAdd]
 refine BJ Fw ?_;refine BH ?_;simp only [W];refine B0 h (fun hc h=> ?_) (fun hc h=> ?_)
 ·refine BC fun K4 F6=> ?_;refine B1 gC ?_;try simp only [W,Nat.reduceAdd]
  refine BJ F6 ?_;refine BF ?_;refine BK zF ?_;refine BU Ff rfl ?_;try obtain rfl:=Option.some.inj h
  exact hP _ hS
 ·refine BE ?_;refine BJ zF ?_;refine BC fun K5 FQ=> ?_;refine BC fun K6 Gi=> ?_;refine B1 gC ?_;try simp only [W,Fe,Nat.reduceAdd]
  refine BJ Gi ?_;obtain ⟨Nz,NA,Ll⟩:=Option.bind_eq_some_iff.1 h;refine Cz gC (fun s H=>Nz=LR.next ()∧s=[u,u,u,u,u,u,u,u,u,u,u,u,u,u,u,u,u,u,u,u,u,u,u,u,u,u]∧ap H (F)) (fun MT Ih=> ?_) (fun s H hq=> ?_)
  ·refine BD fun JQ G4=> ?_;refine Cv gC NA (fun x s H=>s=[.fz (a0.map (AV.int .i64)),.fz (a1.map (AV.int .i64)),u,u,u,u,u,u,u,u,u,u,.int .i64 (a0.length:Int),.int .i64 x,u,u,u,u,u,u,u,u,u,u,u,u]∧ap H (F)) ⟨rfl,hS⟩ (fun F4 R7 s H h Ln hi Jh Gw=> ?_)
   skip
   try dsimp only at hi
   obtain ⟨rfl,hS⟩:=hi;simp only [Md] at h;refine BC fun HK FV=> ?_;refine B1 gC ?_;try simp only [W,Fe,Nat.reduceAdd]
   refine BJ FV ?_;refine BC fun Hm FL=> ?_;refine BH ?_;simp only [W];refine B0 h (fun hc h=> ?_) (fun hc h=> ?_)
   ·refine BE ?_;refine BJ FL ?_;refine BC fun IK Gq=> ?_;refine BD fun Ii Gh=> ?_;refine BC fun HB FX=> ?_;refine B1 gC ?_;try simp only [W,Nat.reduceAdd]
    refine BJ FX ?_;refine BC fun H8 Gn=> ?_;refine B3 gC (by kernel_rfl) ?_
    try simp only [W,Fe,Nat.reduceAdd]
    refine Co rfl rfl rfl (fun _=>rfl) h fun Ht P7 h=> ?_;try simp only [W,Fe]
    refine Co rfl rfl rfl (fun _=>rfl) h fun Ig Zj h=> ?_;try simp only [W,Fe]
    refine BJ Gn ?_;refine BH ?_;simp only [W];refine B0 h (fun hc h=> ?_) (fun hc h=> ?_)
    ·refine BC fun Jq GL=> ?_;refine B1 gC ?_;try simp only [W,Nat.reduceAdd]
     refine BJ GL ?_;refine BF ?_;refine BR Gh ?_;refine BK Gq ?_;try obtain rfl:=Option.some.inj h
     obtain rfl:=Ln _ rfl;have h:(some (LR.done false):Option (LR Unit (Bool)))=some (LR.done false):=rfl;refine Cy Gw ?_;refine BR G4 ?_;try obtain rfl:=Option.some.inj h
     obtain rfl:=Option.some.inj Ll;have h:(some false:Option (Bool))=some false:=rfl;refine CC Ih ?_;refine BK FQ ?_;refine BU Ff rfl ?_;try obtain rfl:=Option.some.inj h
     exact hP _ hS
    ·refine BE ?_;refine BN Gh ?_;refine BJ Gq ?_;refine B1 gC ?_;try simp only [W,Fe,Nat.reduceAdd]
     exact Cw Gw h ⟨rfl,hS⟩
   ·refine BG ?_;refine BL FL ?_;try obtain rfl:=Option.some.inj h
    obtain rfl:=Ln _ rfl;have h:(some (LR.next ()):Option (LR Unit (Bool)))=some (LR.next ()):=rfl
    refine Cx Gw ?_;refine BP G4 ?_;exact CA Ih ⟨(Option.some.inj h).symm,rfl,hS⟩
  ·obtain ⟨rfl,rfl,hS⟩:=hq;replace h:=Ll;try dsimp only at h
   refine BJ FQ ?_;refine BC fun K_ HD=> ?_;refine B1 gC ?_;try simp only [W,Nat.reduceAdd]
   refine BJ HD ?_;refine BF ?_;refine BU Ff rfl ?_;try obtain rfl:=Option.some.inj h
   exact hP _ hS
theorem U4 {a0:List Int} {a1:List Int} {r:(Bool)} (h:HY a0 a1=some r) {F:List It} {H:J} (hS:ap H (F)) {P:AV→J→Prop} (hP: ∀H',ap H' (F)→P (.bool r) H'):aw C 7 [.fz (a0.map (AV.int .u8)),.fz (a1.map (AV.int .u8))] H P:=by
 refine B4 gC (res:=[.tmp 4]) (n:=145) rfl rfl rfl rfl fun K0 Ff=> ?_;simp only [W,Nat.reduceSub,Nat.reduceAdd,List.replicate];unfold HY at h;refine BC fun K1 Fh=> ?_;refine B1 gC ?_;try simp only [W,Nat.reduceAdd]
 refine BJ Fh ?_;refine BC fun K2 zF=> ?_;refine BC fun K3 Fw=> ?_;refine B1 gC ?_;try simp only [W,Fe,Nat.reduceAdd]
 refine BJ Fw ?_;refine BH ?_;simp only [W];refine B0 h (fun hc h=> ?_) (fun hc h=> ?_)
 ·refine BC fun K4 F6=> ?_;refine B1 gC ?_;try simp only [W,Nat.reduceAdd]
  refine BJ F6 ?_;refine BF ?_;refine BK zF ?_;refine BU Ff rfl ?_;try obtain rfl:=Option.some.inj h
  exact hP _ hS
 ·refine BE ?_;refine BJ zF ?_;refine BC fun K5 FQ=> ?_;refine B1 gC ?_;try simp only [W,Nat.reduceAdd]
  refine Cu h fun FJ H4 h=> ?_;obtain ⟨Fm,Gl⟩:=FJ;try dsimp only at h
  refine RL H4 hS fun GQ G5 v11 Mr H hS=> ?_;try simp only [W]
  refine BJ FQ ?_;refine BC fun Hz F2=> ?_;refine B1 gC ?_;try simp only [W,Nat.reduceAdd]
  refine DG (bC:=[[.sc],[.sc]]) (ys:=[.fz (Fm.map Fg),.fz (Gl.map (AV.int .i64))]) h rfl (Ds (Dp hS 0 rfl G5 (fun _=>rfl)) (Ds (Dp hS 1 rfl Mr (fun _=>rfl)) Dr)) fun Mm U5 h=>⟨.aA [.int .i64 Mm.1,.bool Mm.2],PH U5 (ap.nil _) fun H hS=>Dy rfl (Du rfl (Du rfl (Dt rfl))),⟨rfl,rfl,fun _=>rfl⟩,?_⟩;obtain ⟨Hk,Hw⟩:=Mm;try dsimp only at h
  try simp only [W]
  refine BJ F2 ?_;refine BC fun Hm FL=> ?_;refine B1 gC ?_;try simp only [W,Nat.reduceAdd]
  refine DG (bC:=[[.sc],[.sc]]) (ys:=[.fz (Fm.map Fg),.fz (Gl.map (AV.int .i64))]) h rfl (Ds (Dp hS 0 rfl G5 (fun _=>rfl)) (Ds (Dp hS 1 rfl Mr (fun _=>rfl)) Dr)) fun Hb Ny h=>⟨.aA [.int .i64 Hb.1,.bool Hb.2],Sf Ny (ap.nil _) fun H hS=>Dy rfl (Du rfl (Du rfl (Dt rfl))),⟨rfl,rfl,fun _=>rfl⟩,?_⟩;obtain ⟨Hh,HT⟩:=Hb;try dsimp only at h
  try simp only [W]
  refine BJ FL ?_;refine BC fun H8 Gn=> ?_;refine B1 gC ?_;try simp only [W,Nat.reduceAdd,Nat.reduceBEq,List.contains_cons,Nat.reduceBEq,Bool.or_self]
  refine DH (bC:=[[.sl [.sc]],[.sc],[.sc]]) (ys:=[.fz (Fm.map Fg)]) h rfl (Ds (Dp hS 0 rfl G5 (fun _=>rfl)) Dr) fun Ht P7 h=>⟨.aA [.own 1 (Ht.1.map (AV.int .i64)),.int .i64 Ht.2.1,.bool Ht.2.2],TL P7 (ap.nil _) fun Ps KY H hS=>Dy rfl (Dw 0 hS rfl KY (fun _ _=>by simp [aR,aO,dD]) fun H hS=>Du rfl (Du rfl (Dt rfl))),(DN (DL (DJ _ (fun _=>rfl) _) (DL rfl (DL rfl DK)))),?_⟩
  refine DF ?_;refine DB hS (fun _ _=>rfl) (fun _=>rfl) fun H_ H P8 hS=> ?_;refine DA (fun _=>rfl) ?_;refine DA (fun _=>rfl) ?_;refine Dz ?_;try simp only [List.headD_cons]
  obtain ⟨Ig,FT,GI⟩:=Ht;try dsimp only at h
  try simp only [W]
  refine BJ Gn ?_;refine BC fun Lj Hp=> ?_;refine B1 gC ?_;try simp only [W,Nat.reduceAdd,Nat.reduceBEq,List.contains_cons,Nat.reduceBEq,Bool.or_self]
  refine DH (bC:=[[.sl [.sc]],[.sc],[.sc]]) (ys:=[.fz (Fm.map Fg)]) h rfl (Ds (Dp hS 1 rfl G5 (fun _=>rfl)) Dr) fun HW Lk h=>⟨.aA [.own 1 (HW.1.map (AV.int .i64)),.int .i64 HW.2.1,.bool HW.2.2],UH Lk (ap.nil _) fun Iv N4 H hS=>Dy rfl (Dw 0 hS rfl N4 (fun _ _=>by simp [aR,aO,dD]) fun H hS=>Du rfl (Du rfl (Dt rfl))),(DN (DL (DJ _ (fun _=>rfl) _) (DL rfl (DL rfl DK)))),?_⟩
  refine DF ?_;refine DB hS (fun _ _=>rfl) (fun _=>rfl) fun IA H N0 hS=> ?_;refine DA (fun _=>rfl) ?_;refine DA (fun _=>rfl) ?_;refine Dz ?_;try simp only [List.headD_cons]
  obtain ⟨MS,Ja,I9⟩:=HW;try dsimp only at h
  try simp only [W]
  refine BJ Hp ?_;refine BC fun Nv IV=> ?_;refine B1 gC ?_;try simp only [W,Nat.reduceAdd]
  refine DG (bC:=[[.sc],[.sc]]) (ys:=[.fz (Fm.map Fg)]) h rfl (Ds (Dp hS 2 rfl G5 (fun _=>rfl)) Dr) fun JG NM h=>⟨.aA [.int .i64 JG.1,.bool JG.2],UI NM (ap.nil _) fun H hS=>Dy rfl (Du rfl (Du rfl (Dt rfl))),⟨rfl,rfl,fun _=>rfl⟩,?_⟩;obtain ⟨Hy,G3⟩:=JG;try dsimp only at h
  try simp only [W]
  refine BJ IV ?_;refine BC fun PP JW=> ?_;refine B1 gC ?_;try simp only [W,Nat.reduceAdd]
  refine DG (bC:=[[.sc],[.sc]]) (ys:=[.fz (Fm.map Fg)]) h rfl (Ds (Dp hS 2 rfl G5 (fun _=>rfl)) Dr) fun N7 U6 h=>⟨.aA [.int .i64 N7.1,.bool N7.2],UJ U6 (ap.nil _) fun H hS=>Dy rfl (Du rfl (Du rfl (Dt rfl))),⟨rfl,rfl,fun _=>rfl⟩,?_⟩;obtain ⟨Hc,II⟩:=N7;try dsimp only at h
  try simp only [W]
  refine BJ JW ?_;refine BC fun Mf HL=> ?_;refine BC fun Mg Ij=> ?_;obtain ⟨U7,h,U8⟩:=Option.bind_eq_some_iff.1 h;refine Cz gC (fun s H=> ∃KT:Bool,U7=(KT)∧s=(u:: .fz (a1.map (AV.int .u8))::u::u::u::GQ::u:: .int .i64 Hk:: .bool Hw::u::u::H_:: .int .i64 FT:: .bool GI::u::u::u:: .int .i64 Hy:: .bool G3::u::u::u::u::u::u::u::u::u::u::u::u::u::u::u::u::u::u::u::u::u::u::u::u::u::u::u::u::u::u::u::u::u::u::u::u::u::u::u::u::u::u::u::u::u::u::u::u::u::u::u::u::u::u::u::u::u::u::u::u::u::u::u::u::u::u::u::u::u::u::u::u::u::u::u::u::u::u::u::u::u::u::u::u::u::u::u::u:: .bool KT::u::u::u::u::u::u::u::u::u::u::u::u::u::u::u::u::u::u::u::u::u::u::u::u::u::u::u::u::u::u::u::u::u::u::u::u::u::[])∧ap H (⟨GQ,2,Fm.map Fg⟩::⟨H_,1,Ig.map (AV.int .i64)⟩::F)) (fun SO H9=> ?_) (fun s H hq=> ?_)
  ·refine BC fun PT HE=> ?_;refine B1 gC ?_;try simp only [W,Fe,Nat.reduceAdd]
   rw [Ce _ _ _ _ (h:=rfl) rfl,tg];try simp only [W]
   refine C8 h (fun hc h=> ?_) (fun hc h=> ?_)
   ·try simp only [W,hc]
    refine BJ HE ?_;refine EB (s' :=(u:: .fz (a1.map (AV.int .u8))::u::u::u::GQ::u:: .int .i64 Hk:: .bool Hw::u::u::H_:: .int .i64 FT:: .bool GI::u::u::u:: .int .i64 Hy:: .bool G3::u::u::u::u::u::u::u::u::u::u::u::u::u::u::u::u::u::u::u::u::u::u::u::u::u::u::u::u::u::u::u::u::u::u::u::u::u::u::u::u::u::u::u::u::u::u::u::u::u::u::u::u::u::u::u::u::u::u::u::u::u::u::u::u::u::u::u::u::u::u::u::u::u::u::u::u::u::u::u::u::u::u::u::u::u::u::u::u:: .bool true::u::u::u::u::u::u::u::u::u::u::u::u::u::u::u::u::u::u::u::u::u::u::u::u::u::u::u::u::u::u::u::u::u::u::u::u::u::[])) rfl ?_
    exact CA H9 ⟨_,(Option.some.inj h).symm,rfl,(hS.C2 4 [2,1] (by decide))⟩
   ·try simp only [W,Fe,reduceIte,Bool.false_eq_true,hc]
    refine C8 h (fun hc h=> ?_) (fun hc h=> ?_)
    ·try simp only [W,hc]
     refine BJ HE ?_;refine EB (s' :=(u:: .fz (a1.map (AV.int .u8))::u::u::u::GQ::u:: .int .i64 Hk:: .bool Hw::u::u::H_:: .int .i64 FT:: .bool GI::u::u::u:: .int .i64 Hy:: .bool G3::u::u::u::u::u::u::u::u::u::u::u::u::u::u::u::u::u::u::u::u::u::u::u::u::u::u::u::u::u::u::u::u::u::u::u::u::u::u::u::u::u::u::u::u::u::u::u::u::u::u::u::u::u::u::u::u::u::u::u::u::u::u::u::u::u::u::u::u::u::u::u::u::u::u::u::u::u::u::u::u::u::u::u::u::u::u::u::u:: .bool true::u::u::u::u::u::u::u::u::u::u::u::u::u::u::u::u::u::u::u::u::u::u::u::u::u::u::u::u::u::u::u::u::u::u::u::u::u::[])) rfl ?_
     exact CA H9 ⟨_,(Option.some.inj h).symm,rfl,(hS.C2 4 [2,1] (by decide))⟩
    ·try simp only [W,Fe,hc]
     rw [Ce _ _ _ _ (h:=rfl) rfl,tg];try simp only [W,reduceIte,Bool.false_eq_true]
     refine C8 h (fun hc h=> ?_) (fun hc h=> ?_)
     ·try simp only [W,hc]
      refine BJ HE ?_;refine EB (s' :=(u:: .fz (a1.map (AV.int .u8))::u::u::u::GQ::u:: .int .i64 Hk:: .bool Hw::u::u::H_:: .int .i64 FT:: .bool GI::u::u::u:: .int .i64 Hy:: .bool G3::u::u::u::u::u::u::u::u::u::u::u::u::u::u::u::u::u::u::u::u::u::u::u::u::u::u::u::u::u::u::u::u::u::u::u::u::u::u::u::u::u::u::u::u::u::u::u::u::u::u::u::u::u::u::u::u::u::u::u::u::u::u::u::u::u::u::u::u::u::u::u::u::u::u::u::u::u::u::u::u::u::u::u::u::u::u::u::u:: .bool true::u::u::u::u::u::u::u::u::u::u::u::u::u::u::u::u::u::u::u::u::u::u::u::u::u::u::u::u::u::u::u::u::u::u::u::u::u::[])) rfl ?_
      exact CA H9 ⟨_,(Option.some.inj h).symm,rfl,(hS.C2 4 [2,1] (by decide))⟩
     ·try simp only [W,Fe,reduceIte,Bool.false_eq_true,hc]
      refine C8 h (fun hc h=> ?_) (fun hc h=> ?_)
      ·try simp only [W,hc]
       refine BJ HE ?_;refine EB (s' :=(u:: .fz (a1.map (AV.int .u8))::u::u::u::GQ::u:: .int .i64 Hk:: .bool Hw::u::u::H_:: .int .i64 FT:: .bool GI::u::u::u:: .int .i64 Hy:: .bool G3::u::u::u::u::u::u::u::u::u::u::u::u::u::u::u::u::u::u::u::u::u::u::u::u::u::u::u::u::u::u::u::u::u::u::u::u::u::u::u::u::u::u::u::u::u::u::u::u::u::u::u::u::u::u::u::u::u::u::u::u::u::u::u::u::u::u::u::u::u::u::u::u::u::u::u::u::u::u::u::u::u::u::u::u::u::u::u::u:: .bool true::u::u::u::u::u::u::u::u::u::u::u::u::u::u::u::u::u::u::u::u::u::u::u::u::u::u::u::u::u::u::u::u::u::u::u::u::u::[])) rfl ?_
       exact CA H9 ⟨_,(Option.some.inj h).symm,rfl,(hS.C2 4 [2,1] (by decide))⟩
      ·try simp only [W,hc]
       refine DG (bC:=[[.sc]]) (ys:=[.fz (Ig.map (AV.int .i64)),.fz (MS.map (AV.int .i64))]) h rfl (Ds (Dp hS 1 rfl P8 (fun _=>rfl)) (Ds (Dp hS 0 rfl N0 (fun _=>rfl)) Dr)) fun I7 U9 h=>⟨.bool I7,U3 U9 (ap.nil _) fun H hS=>Dy rfl (Du rfl (Dt rfl)),⟨rfl,rfl,fun _=>rfl⟩,?_⟩;try simp only [W,reduceIte,Bool.false_eq_true]
       refine C8 h (fun hc h=> ?_) (fun hc h=> ?_)
       ·try simp only [W,hc]
        refine BJ HE ?_;refine EB (s' :=(u:: .fz (a1.map (AV.int .u8))::u::u::u::GQ::u:: .int .i64 Hk:: .bool Hw::u::u::H_:: .int .i64 FT:: .bool GI::u::u::u:: .int .i64 Hy:: .bool G3::u::u::u::u::u::u::u::u::u::u::u::u::u::u::u::u::u::u::u::u::u::u::u::u::u::u::u::u::u::u::u::u::u::u::u::u::u::u::u::u::u::u::u::u::u::u::u::u::u::u::u::u::u::u::u::u::u::u::u::u::u::u::u::u::u::u::u::u::u::u::u::u::u::u::u::u::u::u::u::u::u::u::u::u::u::u::u::u:: .bool true::u::u::u::u::u::u::u::u::u::u::u::u::u::u::u::u::u::u::u::u::u::u::u::u::u::u::u::u::u::u::u::u::u::u::u::u::u::[])) rfl ?_
        exact CA H9 ⟨_,(Option.some.inj h).symm,rfl,(hS.C2 4 [2,1] (by decide))⟩
       ·try simp only [W,Fe,hc]
        rw [Ce _ _ _ _ (h:=rfl) rfl,tg];try simp only [W,reduceIte,Bool.false_eq_true]
        refine C8 h (fun hc h=> ?_) (fun hc h=> ?_)
        ·try simp only [W,hc]
         refine BJ HE ?_;refine EB (s' :=(u:: .fz (a1.map (AV.int .u8))::u::u::u::GQ::u:: .int .i64 Hk:: .bool Hw::u::u::H_:: .int .i64 FT:: .bool GI::u::u::u:: .int .i64 Hy:: .bool G3::u::u::u::u::u::u::u::u::u::u::u::u::u::u::u::u::u::u::u::u::u::u::u::u::u::u::u::u::u::u::u::u::u::u::u::u::u::u::u::u::u::u::u::u::u::u::u::u::u::u::u::u::u::u::u::u::u::u::u::u::u::u::u::u::u::u::u::u::u::u::u::u::u::u::u::u::u::u::u::u::u::u::u::u::u::u::u::u:: .bool true::u::u::u::u::u::u::u::u::u::u::u::u::u::u::u::u::u::u::u::u::u::u::u::u::u::u::u::u::u::u::u::u::u::u::u::u::u::[])) rfl ?_
         exact CA H9 ⟨_,(Option.some.inj h).symm,rfl,(hS.C2 4 [2,1] (by decide))⟩
        ·try simp only [W,Fe,reduceIte,Bool.false_eq_true,hc]
         refine C8 h (fun hc h=> ?_) (fun hc h=> ?_)
         ·try simp only [W,hc]
          refine BJ HE ?_;refine EB (s' :=(u:: .fz (a1.map (AV.int .u8))::u::u::u::GQ::u:: .int .i64 Hk:: .bool Hw::u::u::H_:: .int .i64 FT:: .bool GI::u::u::u:: .int .i64 Hy:: .bool G3::u::u::u::u::u::u::u::u::u::u::u::u::u::u::u::u::u::u::u::u::u::u::u::u::u::u::u::u::u::u::u::u::u::u::u::u::u::u::u::u::u::u::u::u::u::u::u::u::u::u::u::u::u::u::u::u::u::u::u::u::u::u::u::u::u::u::u::u::u::u::u::u::u::u::u::u::u::u::u::u::u::u::u::u::u::u::u::u:: .bool true::u::u::u::u::u::u::u::u::u::u::u::u::u::u::u::u::u::u::u::u::u::u::u::u::u::u::u::u::u::u::u::u::u::u::u::u::u::[])) rfl ?_
          exact CA H9 ⟨_,(Option.some.inj h).symm,rfl,(hS.C2 4 [2,1] (by decide))⟩
         ·try simp only [W,hc]
          refine DG (bC:=[[.sc]]) (ys:=[.fz (Fm.map Fg)]) h rfl (Ds (Dp hS 2 rfl G5 (fun _=>rfl)) Dr) fun FN NV h=>⟨.bool FN,Mo NV (ap.nil _) fun H hS=>Dy rfl (Du rfl (Dt rfl)),⟨rfl,rfl,fun _=>rfl⟩,?_⟩;try simp only [W,Fe]
          rw [Ce _ _ _ _ (h:=rfl) rfl,tg];try simp only [W,reduceIte,Bool.false_eq_true]
          refine BJ HE ?_;refine EB (s' :=(u:: .fz (a1.map (AV.int .u8))::u::u::u::GQ::u:: .int .i64 Hk:: .bool Hw::u::u::H_:: .int .i64 FT:: .bool GI::u::u::u:: .int .i64 Hy:: .bool G3::u::u::u::u::u::u::u::u::u::u::u::u::u::u::u::u::u::u::u::u::u::u::u::u::u::u::u::u::u::u::u::u::u::u::u::u::u::u::u::u::u::u::u::u::u::u::u::u::u::u::u::u::u::u::u::u::u::u::u::u::u::u::u::u::u::u::u::u::u::u::u::u::u::u::u::u::u::u::u::u::u::u::u::u::u::u::u::u:: .bool (!(FN==I9))::u::u::u::u::u::u::u::u::u::u::u::u::u::u::u::u::u::u::u::u::u::u::u::u::u::u::u::u::u::u::u::u::u::u::u::u::u::[])) rfl ?_
          exact CA H9 ⟨_,(Option.some.inj h).symm,rfl,(hS.C2 4 [2,1] (by decide))⟩
  ·obtain ⟨KT,Fl,rfl,hS⟩:=hq;obtain rfl:=Fl.symm;replace h:=U8;try dsimp only at h
   refine BJ Ij ?_;refine BH ?_;simp only [W];refine B0 h (fun hc h=> ?_) (fun hc h=> ?_)
   ·refine BC fun NW I0=> ?_;refine B1 gC ?_;try simp only [W,Nat.reduceAdd]
    refine BJ I0 ?_;refine BF ?_;refine BK HL ?_;refine BU Ff rfl ?_;try obtain rfl:=Option.some.inj h
    exact hP _ (hS.C2 2 [] (by decide))
   ·refine BE ?_;refine BJ HL ?_;refine BC fun NQ IY=> ?_;refine BC fun PU Ls=> ?_;refine B1 gC ?_;try simp only [W,Nat.reduceAdd]
    refine BJ Ls ?_;obtain ⟨U_,h,P9⟩:=Option.bind_eq_some_iff.1 h;refine Cz gC (fun s H=>U_=LR.next ()∧s=(u:: .fz (a1.map (AV.int .u8))::u::u::u::u::u::u::u::u::u::u::u::u::u::u::u::u::u::u::u::u::u::u::u::u::u::u::u::u::u::u::u::u::u::u::u::u::u::u::u::u::u::u::u::u::u::u::u::u::u::u::u::u::u::u::u::u::u::u::u::u::u::u::u::u::u::u::u::u::u::u::u::u::u::u::u::u::u::u::u::u::u::u::u::u::u::u::u::u::u::u::u::u::u::u::u::u::u::u::u::u::u::u::u::u::u::u::u::u::u::u::u::u::u::u::u::u::u::u::u::u::u::u::u::u::u::u::u::u::u::u::u::u::u::u::u::u::u::u::u::u::u::u::u::[])∧ap H (F)) (fun Ni Im=> ?_) (fun s H hq=> ?_)
    ·refine BC fun Pv Jm=> ?_;refine BH ?_;simp only [W];refine B0 h (fun hc h=> ?_) (fun hc h=> ?_)
     ·refine BC fun Mh Ik=> ?_;refine B1 gC ?_;try simp only [W,Nat.reduceAdd]
      refine DG (bC:=[[.sc],[.sc]]) (ys:=[.fz (Fm.map Fg),.fz (Ig.map (AV.int .i64))]) h rfl (Ds (Dp hS 0 rfl G5 (fun _=>rfl)) (Ds (Dp hS 1 rfl P8 (fun _=>rfl)) Dr)) fun Lc Nj h=>⟨.aA [.int .i64 Lc.1,.bool Lc.2],PH Nj (ap.nil _) fun H hS=>Dy rfl (Du rfl (Du rfl (Dt rfl))),⟨rfl,rfl,fun _=>rfl⟩,?_⟩;obtain ⟨GZ,Kd⟩:=Lc;try dsimp only at h
      try simp only [W]
      refine BJ Ik ?_;refine BC fun Mk Io=> ?_;obtain ⟨M6,h,M7⟩:=Option.bind_eq_some_iff.1 h;refine Cz gC (fun s H=> ∃GY:Bool,M6=(GY)∧s=(u:: .fz (a1.map (AV.int .u8))::u::u::u::u::u::u::u::u::u::u::u::u::u::u::u::u::u::u::u::u::u::u::u::u::u::u::u::u::u::u::u::u::u::u::u::u::u::u::u::u::u::u::u::u::u::u::u::u::u::u::u::u::u::u::u::u::u::u::u::u::u::u::u::u::u::u::u::u::u::u::u::u::u::u::u::u::u::u::u::u::u::u::u::u::u::u::u::u::u::u::u::u::u::u::u::u::u::u::u::u::u::u::u::u::u::u::u::u::u::u::u::u::u::u::u::u::u::u::u::u::u::u::u::u::u::u::u::u::u::u::u::u::u::u::u::u::u::u::u:: .bool GY::u::u::u::[])∧ap H (F)) (fun Pn HM=> ?_) (fun s H hq=> ?_)
      ·refine BC fun Po HN=> ?_;refine B1 gC ?_;try simp only [W,Nat.reduceAdd]
       refine C8 h (fun hc h=> ?_) (fun hc h=> ?_)
       ·try simp only [W,hc]
        refine BJ HN ?_;refine EB (s' :=(u:: .fz (a1.map (AV.int .u8))::u::u::u::u::u::u::u::u::u::u::u::u::u::u::u::u::u::u::u::u::u::u::u::u::u::u::u::u::u::u::u::u::u::u::u::u::u::u::u::u::u::u::u::u::u::u::u::u::u::u::u::u::u::u::u::u::u::u::u::u::u::u::u::u::u::u::u::u::u::u::u::u::u::u::u::u::u::u::u::u::u::u::u::u::u::u::u::u::u::u::u::u::u::u::u::u::u::u::u::u::u::u::u::u::u::u::u::u::u::u::u::u::u::u::u::u::u::u::u::u::u::u::u::u::u::u::u::u::u::u::u::u::u::u::u::u::u::u::u:: .bool true::u::u::u::[])) rfl ?_
        exact CA HM ⟨_,(Option.some.inj h).symm,rfl,(hS.C2 2 [] (by decide))⟩
       ·try simp only [W,Fe,reduceIte,Bool.false_eq_true,hc]
        refine C8 h (fun hc h=> ?_) (fun hc h=> ?_)
        ·try simp only [W,hc]
         refine BJ HN ?_;refine EB (s' :=(u:: .fz (a1.map (AV.int .u8))::u::u::u::u::u::u::u::u::u::u::u::u::u::u::u::u::u::u::u::u::u::u::u::u::u::u::u::u::u::u::u::u::u::u::u::u::u::u::u::u::u::u::u::u::u::u::u::u::u::u::u::u::u::u::u::u::u::u::u::u::u::u::u::u::u::u::u::u::u::u::u::u::u::u::u::u::u::u::u::u::u::u::u::u::u::u::u::u::u::u::u::u::u::u::u::u::u::u::u::u::u::u::u::u::u::u::u::u::u::u::u::u::u::u::u::u::u::u::u::u::u::u::u::u::u::u::u::u::u::u::u::u::u::u::u::u::u::u::u:: .bool true::u::u::u::[])) rfl ?_
         exact CA HM ⟨_,(Option.some.inj h).symm,rfl,(hS.C2 2 [] (by decide))⟩
        ·try simp only [W,reduceIte,Bool.false_eq_true,hc]
         refine C8 h (fun hc h=> ?_) (fun hc h=> ?_)
         ·try simp only [W,hc]
          refine BJ HN ?_;refine EB (s' :=(u:: .fz (a1.map (AV.int .u8))::u::u::u::u::u::u::u::u::u::u::u::u::u::u::u::u::u::u::u::u::u::u::u::u::u::u::u::u::u::u::u::u::u::u::u::u::u::u::u::u::u::u::u::u::u::u::u::u::u::u::u::u::u::u::u::u::u::u::u::u::u::u::u::u::u::u::u::u::u::u::u::u::u::u::u::u::u::u::u::u::u::u::u::u::u::u::u::u::u::u::u::u::u::u::u::u::u::u::u::u::u::u::u::u::u::u::u::u::u::u::u::u::u::u::u::u::u::u::u::u::u::u::u::u::u::u::u::u::u::u::u::u::u::u::u::u::u::u::u:: .bool true::u::u::u::[])) rfl ?_
          exact CA HM ⟨_,(Option.some.inj h).symm,rfl,(hS.C2 2 [] (by decide))⟩
         ·try simp only [W,Fe,hc]
          refine uE 0 hS rfl G5 rfl ?_;try simp only [W,Fe,reduceIte,Bool.false_eq_true]
          refine C8 h (fun hc h=> ?_) (fun hc h=> ?_)
          ·try simp only [W,hc]
           refine BJ HN ?_;refine EB (s' :=(u:: .fz (a1.map (AV.int .u8))::u::u::u::u::u::u::u::u::u::u::u::u::u::u::u::u::u::u::u::u::u::u::u::u::u::u::u::u::u::u::u::u::u::u::u::u::u::u::u::u::u::u::u::u::u::u::u::u::u::u::u::u::u::u::u::u::u::u::u::u::u::u::u::u::u::u::u::u::u::u::u::u::u::u::u::u::u::u::u::u::u::u::u::u::u::u::u::u::u::u::u::u::u::u::u::u::u::u::u::u::u::u::u::u::u::u::u::u::u::u::u::u::u::u::u::u::u::u::u::u::u::u::u::u::u::u::u::u::u::u::u::u::u::u::u::u::u::u::u:: .bool true::u::u::u::[])) rfl ?_
           exact CA HM ⟨_,(Option.some.inj h).symm,rfl,(hS.C2 2 [] (by decide))⟩
          ·try simp only [W,hc]
           refine C8 h (fun hc h=> ?_) (fun hc h=> ?_)
           ·try simp only [W,Fe,reduceIte,Bool.false_eq_true,hc]
            refine BJ HN ?_;refine EB (s' :=(u:: .fz (a1.map (AV.int .u8))::u::u::u::u::u::u::u::u::u::u::u::u::u::u::u::u::u::u::u::u::u::u::u::u::u::u::u::u::u::u::u::u::u::u::u::u::u::u::u::u::u::u::u::u::u::u::u::u::u::u::u::u::u::u::u::u::u::u::u::u::u::u::u::u::u::u::u::u::u::u::u::u::u::u::u::u::u::u::u::u::u::u::u::u::u::u::u::u::u::u::u::u::u::u::u::u::u::u::u::u::u::u::u::u::u::u::u::u::u::u::u::u::u::u::u::u::u::u::u::u::u::u::u::u::u::u::u::u::u::u::u::u::u::u::u::u::u::u::u:: .bool (decide (Hk<GZ))::u::u::u::[])) rfl ?_
            exact CA HM ⟨_,(Option.some.inj h).symm,rfl,(hS.C2 2 [] (by decide))⟩
           ·try simp only [W,reduceIte,Bool.false_eq_true,hc]
            refine BJ HN ?_;refine EB (s' :=(u:: .fz (a1.map (AV.int .u8))::u::u::u::u::u::u::u::u::u::u::u::u::u::u::u::u::u::u::u::u::u::u::u::u::u::u::u::u::u::u::u::u::u::u::u::u::u::u::u::u::u::u::u::u::u::u::u::u::u::u::u::u::u::u::u::u::u::u::u::u::u::u::u::u::u::u::u::u::u::u::u::u::u::u::u::u::u::u::u::u::u::u::u::u::u::u::u::u::u::u::u::u::u::u::u::u::u::u::u::u::u::u::u::u::u::u::u::u::u::u::u::u::u::u::u::u::u::u::u::u::u::u::u::u::u::u::u::u::u::u::u::u::u::u::u::u::u::u::u:: .bool false::u::u::u::[])) rfl ?_
            exact CA HM ⟨_,(Option.some.inj h).symm,rfl,(hS.C2 2 [] (by decide))⟩
      ·obtain ⟨GY,Fl,rfl,hS⟩:=hq;obtain rfl:=Fl.symm;replace h:=M7;try dsimp only at h
       refine BJ Io ?_;refine BH ?_;simp only [W];refine B0 h (fun hc h=> ?_) (fun hc h=> ?_)
       ·refine BC fun PY JY=> ?_;refine B1 gC ?_;try simp only [W,Nat.reduceAdd]
        refine BJ JY ?_;refine BF ?_;refine BK Jm ?_;try obtain rfl:=Option.some.inj h
        obtain rfl:=Option.some.inj P9;have h:(some false:Option (Bool))=some false:=rfl;refine CC Im ?_;refine BK IY ?_;refine BU Ff rfl ?_;try obtain rfl:=Option.some.inj h
        exact hP _ hS
       ·refine BE ?_;refine BJ Jm ?_;refine EB (s' :=(u:: .fz (a1.map (AV.int .u8))::u::u::u::u::u::u::u::u::u::u::u::u::u::u::u::u::u::u::u::u::u::u::u::u::u::u::u::u::u::u::u::u::u::u::u::u::u::u::u::u::u::u::u::u::u::u::u::u::u::u::u::u::u::u::u::u::u::u::u::u::u::u::u::u::u::u::u::u::u::u::u::u::u::u::u::u::u::u::u::u::u::u::u::u::u::u::u::u::u::u::u::u::u::u::u::u::u::u::u::u::u::u::u::u::u::u::u::u::u::u::u::u::u::u::u::u::u::u::u::u::u::u::u::u::u::u::u::u::u::u::u::u::u::u::u::u::u::u::u::u::u::u::u::[])) rfl ?_
        exact CA Im ⟨(Option.some.inj h).symm,rfl,hS⟩
     ·refine BE ?_;refine BJ Jm ?_;refine EB (s' :=(u:: .fz (a1.map (AV.int .u8))::u::u::u::u::u::u::u::u::u::u::u::u::u::u::u::u::u::u::u::u::u::u::u::u::u::u::u::u::u::u::u::u::u::u::u::u::u::u::u::u::u::u::u::u::u::u::u::u::u::u::u::u::u::u::u::u::u::u::u::u::u::u::u::u::u::u::u::u::u::u::u::u::u::u::u::u::u::u::u::u::u::u::u::u::u::u::u::u::u::u::u::u::u::u::u::u::u::u::u::u::u::u::u::u::u::u::u::u::u::u::u::u::u::u::u::u::u::u::u::u::u::u::u::u::u::u::u::u::u::u::u::u::u::u::u::u::u::u::u::u::u::u::u::[])) rfl ?_
      exact CA Im ⟨(Option.some.inj h).symm,rfl,(hS.C2 2 [] (by decide))⟩
    ·obtain ⟨rfl,rfl,hS⟩:=hq;replace h:=P9;try dsimp only at h
     refine BJ IY ?_;refine BC fun P4 Lv=> ?_;refine B1 gC ?_;try simp only [W,Fe,Nat.reduceAdd]
     refine BJ Lv ?_;refine BF ?_;refine BU Ff rfl ?_;try obtain rfl:=Option.some.inj h
     exact hP _ hS
end Go.Hr
