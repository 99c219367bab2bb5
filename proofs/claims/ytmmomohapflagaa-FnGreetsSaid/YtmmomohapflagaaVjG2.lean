import Derived.Test.YtmmomohapflagaaVjG1
import Derived.Test.YtmmomohapflagaaProg
import Derived.Test.YtmmomohapflagaaVaE
import Derived.KernelRfl
open Go Go.VS
set_option maxRecDepth 8000
set_option maxHeartbeats 4000000
namespace Go.Gq
theorem NS {a0:C5} {r:(Bool)} (h:GR a0=some r) {F:List It} {H:J} (hS:ay H (F)) {P:AV→J→Prop} (hP: ∀H',ay H' (F)→P (.bool r) H'):au C 71 [.agg [.int .i64 a0.C0,.int .i64 a0.CY,.int .i64 a0.X,.int .i64 a0.Y,.int .i64 a0.C1,.int .i64 a0.CZ,.int .i64 a0.CW,.int .i64 a0.CX,.fz (a0.C2.map CV),.fz (a0.C3.map CV),.fz (a0.C4.map CV)]] H P:=by
 refine AW gC (res:=[.tmp 2]) (n:=108) rfl rfl rfl rfl fun K0 C8=> ?_;simp only [W,Nat.reduceSub,Nat.reduceAdd,List.replicate];unfold GR at h;refine Aw fun K1 Da=> ?_;refine AS gC ?_;try simp only [W,Nat.reduceAdd]
 refine A7 hS rfl rfl rfl rfl fun C6 C7 H hS=> ?_;try simp only [W]
 refine AE Da ?_;refine Aw fun K4 Df=> ?_;refine Aw fun K5 D7=> ?_;obtain ⟨Kt,h,g8⟩:=Option.bind_eq_some_iff.1 h;refine Bm gC (fun s H=> ∃Ew:Bool,Kt=(Ew)∧s=(u:: .ptr C6 C7 0 0::u::u::u::u::u::u::u::u::u::u::u::u::u::u::u::u::u::u::u::u::u::u::u::u::u::u::u::u::u::u::u:: .bool Ew::u::u::u::u::u::u::u::u::u::u::u::u::u::u::u::u::u::u::u::u::u::u::u::u::u::u::u::u::u::u::u::u::u::u::u::u::u::u::u::u::u::u::u::u::u::u::u::u::u::u::u::u::u::u::u::u::u::u::u::u::u::u::u::u::u::u::u::u::u::u::u::u::u::u::[])∧ay H (⟨.ptr C6 C7 0 0,11,[.agg [.int .i64 a0.C0,.int .i64 a0.CY,.int .i64 a0.X,.int .i64 a0.Y,.int .i64 a0.C1,.int .i64 a0.CZ,.int .i64 a0.CW,.int .i64 a0.CX,.fz (a0.C2.map CV),.fz (a0.C3.map CV),.fz (a0.C4.map CV)]]⟩::F)) (fun K9 Dy=> ?_) (fun s H hq=> ?_)
 ·refine Aw fun HS DG=> ?_;refine AS gC ?_;try simp only [W,EE,Nat.reduceAdd,Nat.reduceBEq,hS.var 0 rfl]
  refine Bh h fun C_ Kq h=> ?_;refine IC Kq hS fun H hS=> ?_;try simp only [W]
  refine BE h (fun hc h=> ?_) (fun hc h=> ?_)
  ·try simp only [W,hc]
   refine AE DG ?_;refine CC (s' :=(u:: .ptr C6 C7 0 0::u::u::u::u::u::u::u::u::u::u::u::u::u::u::u::u::u::u::u::u::u::u::u::u::u::u::u::u::u::u::u:: .bool true::u::u::u::u::u::u::u::u::u::u::u::u::u::u::u::u::u::u::u::u::u::u::u::u::u::u::u::u::u::u::u::u::u::u::u::u::u::u::u::u::u::u::u::u::u::u::u::u::u::u::u::u::u::u::u::u::u::u::u::u::u::u::u::u::u::u::u::u::u::u::u::u::u::u::[])) rfl ?_
   exact Bn Dy ⟨_,(Option.some.inj h).symm,rfl,hS⟩
  ·try simp only [W,EE,Nat.reduceAdd,Nat.reduceBEq,hS.var 0 rfl,hc]
   refine Bh h fun IH Rn h=> ?_;refine IC Rn hS fun H hS=> ?_;try simp only [W,reduceIte,Bool.false_eq_true]
   refine BE h (fun hc h=> ?_) (fun hc h=> ?_)
   ·try simp only [W,hc]
    refine AE DG ?_;refine CC (s' :=(u:: .ptr C6 C7 0 0::u::u::u::u::u::u::u::u::u::u::u::u::u::u::u::u::u::u::u::u::u::u::u::u::u::u::u::u::u::u::u:: .bool true::u::u::u::u::u::u::u::u::u::u::u::u::u::u::u::u::u::u::u::u::u::u::u::u::u::u::u::u::u::u::u::u::u::u::u::u::u::u::u::u::u::u::u::u::u::u::u::u::u::u::u::u::u::u::u::u::u::u::u::u::u::u::u::u::u::u::u::u::u::u::u::u::u::u::[])) rfl ?_
    exact Bn Dy ⟨_,(Option.some.inj h).symm,rfl,hS⟩
   ·try simp only [W,EE,reduceIte,Nat.reduceAdd,Nat.reduceBEq,Bool.false_eq_true,hS.var 0 rfl,hc]
    refine BE h (fun hc h=> ?_) (fun hc h=> ?_)
    ·try simp only [W,hc]
     refine AE DG ?_;refine CC (s' :=(u:: .ptr C6 C7 0 0::u::u::u::u::u::u::u::u::u::u::u::u::u::u::u::u::u::u::u::u::u::u::u::u::u::u::u::u::u::u::u:: .bool true::u::u::u::u::u::u::u::u::u::u::u::u::u::u::u::u::u::u::u::u::u::u::u::u::u::u::u::u::u::u::u::u::u::u::u::u::u::u::u::u::u::u::u::u::u::u::u::u::u::u::u::u::u::u::u::u::u::u::u::u::u::u::u::u::u::u::u::u::u::u::u::u::u::u::[])) rfl ?_
     exact Bn Dy ⟨_,(Option.some.inj h).symm,rfl,hS⟩
    ·try simp only [W,EE,reduceIte,Nat.reduceAdd,Nat.reduceBEq,Bool.false_eq_true,hS.var 0 rfl,hc]
     refine BE h (fun hc h=> ?_) (fun hc h=> ?_)
     ·try simp only [W,hc]
      refine AE DG ?_;refine CC (s' :=(u:: .ptr C6 C7 0 0::u::u::u::u::u::u::u::u::u::u::u::u::u::u::u::u::u::u::u::u::u::u::u::u::u::u::u::u::u::u::u:: .bool true::u::u::u::u::u::u::u::u::u::u::u::u::u::u::u::u::u::u::u::u::u::u::u::u::u::u::u::u::u::u::u::u::u::u::u::u::u::u::u::u::u::u::u::u::u::u::u::u::u::u::u::u::u::u::u::u::u::u::u::u::u::u::u::u::u::u::u::u::u::u::u::u::u::u::[])) rfl ?_
      exact Bn Dy ⟨_,(Option.some.inj h).symm,rfl,hS⟩
     ·try simp only [W,EE,reduceIte,Nat.reduceAdd,Nat.reduceBEq,Bool.false_eq_true,hS.var 0 rfl,hc]
      refine AE DG ?_;refine CC (s' :=(u:: .ptr C6 C7 0 0::u::u::u::u::u::u::u::u::u::u::u::u::u::u::u::u::u::u::u::u::u::u::u::u::u::u::u::u::u::u::u:: .bool (decide (300<(a0.C4.length:Int)))::u::u::u::u::u::u::u::u::u::u::u::u::u::u::u::u::u::u::u::u::u::u::u::u::u::u::u::u::u::u::u::u::u::u::u::u::u::u::u::u::u::u::u::u::u::u::u::u::u::u::u::u::u::u::u::u::u::u::u::u::u::u::u::u::u::u::u::u::u::u::u::u::u::u::[])) rfl ?_
      exact Bn Dy ⟨_,(Option.some.inj h).symm,rfl,hS⟩
 ·obtain ⟨Ew,Dg,rfl,hS⟩:=hq;obtain rfl:=Dg.symm;replace h:=g8;try dsimp only at h
  refine AE D7 ?_;refine AB ?_;simp only [W];refine AR h (fun hc h=> ?_) (fun hc h=> ?_)
  ·refine Aw fun Nq GU=> ?_;refine AS gC ?_;try simp only [W,Nat.reduceAdd]
   refine AE GU ?_;refine Az ?_;refine AF Df ?_;refine AO C8 rfl ?_;try obtain rfl:=Option.some.inj h
   exact hP _ (hS.BA 1 [] (by decide))
  ·refine Ay ?_;refine AE Df ?_;refine Aw fun OM GV=> ?_;refine AS gC ?_;try simp only [W,Nat.reduceAdd]
   refine AE GV ?_;refine Aw fun J2 FI=> ?_;refine Aw fun Hk Ek=> ?_;refine AS gC ?_;try simp only [W,EE,Nat.reduceAdd,Nat.reduceBEq,hS.var 0 rfl]
   refine AE Ek ?_;obtain ⟨Ro,h,Rp⟩:=Option.bind_eq_some_iff.1 h;refine Bm gC (fun s H=> ∃Ef:Bool,Ro=(Ef)∧s=(u:: .ptr C6 C7 0 0::u:: .bool Ef:: .bool false::u::u::u::u::u::u::u::u::u::u::u::u::u::u::u::u::u::u::u::u::u::u::u::u::u::u::u::u::u::u::u::u::u::u::u::u::u::u::u::u::u::u::u::u::u::u::u::u::u::u::u::u::u::u::u::u::u::u::u::u::u::u::u::u::u::u::u::u::u::u::u::u::u::u::u::u::u::u::u::u::u::u::u::u::u::u::u::u::u::u::u::u::u::u::u::u::u::u::u::u::u::u::u::[])∧ay H (⟨.ptr C6 C7 0 0,11,[.agg [.int .i64 a0.C0,.int .i64 a0.CY,.int .i64 a0.X,.int .i64 a0.Y,.int .i64 a0.C1,.int .i64 a0.CZ,.int .i64 a0.CW,.int .i64 a0.CX,.fz (a0.C2.map CV),.fz (a0.C3.map CV),.fz (a0.C4.map CV)]]⟩::F)) (fun IU E8=> ?_) (fun s H hq=> ?_)
   ·refine Ax fun GX Ea=> ?_;refine Aw fun Ik E0=> ?_;refine AS gC ?_;try simp only [W,EE,Nat.reduceAdd]
    refine AE E0 ?_;obtain ⟨Wm,h,Wn⟩:=Option.bind_eq_some_iff.1 h;refine Bm gC (fun s H=> ∃Ed:Bool,Wm=(Ed)∧s=(u:: .ptr C6 C7 0 0::u:: .bool Ed:: .bool false::u::u::u::u::u::u::u::u::u::u::u::u::u::u::u::u::u::u::u::u::u::u::u::u::u::u::u::u::u::u::u::u::u::u::u::u::u::u::u::u::u::u::u::u::u::u::u::u::u::u::u::u::u::u::u::u::u::u::u::u::u::u::u::u::u::u::u::u::u::u::u::u::u::u::u::u::u::u::u::u::u::u::u::u::u::u::u::u::u::u::u::u::u::u::u::u::u::u::u::u::u::u::u::[])∧ay H (⟨.ptr C6 C7 0 0,11,[.agg [.int .i64 a0.C0,.int .i64 a0.CY,.int .i64 a0.X,.int .i64 a0.Y,.int .i64 a0.C1,.int .i64 a0.CZ,.int .i64 a0.CW,.int .i64 a0.CX,.fz (a0.C2.map CV),.fz (a0.C3.map CV),.fz (a0.C4.map CV)]]⟩::F)) (fun Tq LJ=> ?_) (fun s H hq=> ?_)
    ·refine Aw fun NR G6=> ?_;refine AB ?_;simp only [W];refine AR h (fun hc h=> ?_) (fun hc h=> ?_)
     ·obtain ⟨Wo,h,Wp⟩:=Option.bind_eq_some_iff.1 h;refine Bm gC (fun s H=> ∃D8:Bool,Wo=(D8)∧s=(u:: .ptr C6 C7 0 0::u:: .bool D8:: .bool false::u::u::u::u::u::u::u::u::u::u::u::u::u::u::u::u::u::u::u::u::u::u::u::u::u::u::u::u::u::u::u::u::u::u::u::u::u::u::u::u::u::u::u::u::u::u::u::u::u::u::u::u::u::u::u::u::u::u::u::u::u::u::u::u::u::u::u::u::u::u::u::u::u::u::u::u::u::u::u::u::u::u::u::u::u::u::u::u::u::u::u::u::u::u::u::u::u::u::u::u::u::u::u::[])∧ay H (⟨.ptr C6 C7 0 0,11,[.agg [.int .i64 a0.C0,.int .i64 a0.CY,.int .i64 a0.X,.int .i64 a0.Y,.int .i64 a0.C1,.int .i64 a0.CZ,.int .i64 a0.CW,.int .i64 a0.CX,.fz (a0.C2.map CV),.fz (a0.C3.map CV),.fz (a0.C4.map CV)]]⟩::F)) (fun Ps H_=> ?_) (fun s H hq=> ?_)
      ·refine Aw fun QC IW=> ?_;refine AS gC ?_;try simp only [W,EE,Nat.reduceAdd,Nat.reduceBEq,hS.var 0 rfl]
       refine BE h (fun hc h=> ?_) (fun hc h=> ?_)
       ·try simp only [W,EE,reduceIte,Nat.reduceAdd,Nat.reduceBEq,hS.var 0 rfl,hc]
        refine AE IW ?_;refine CC (s' :=(u:: .ptr C6 C7 0 0::u:: .bool (a0.CZ==0):: .bool false::u::u::u::u::u::u::u::u::u::u::u::u::u::u::u::u::u::u::u::u::u::u::u::u::u::u::u::u::u::u::u::u::u::u::u::u::u::u::u::u::u::u::u::u::u::u::u::u::u::u::u::u::u::u::u::u::u::u::u::u::u::u::u::u::u::u::u::u::u::u::u::u::u::u::u::u::u::u::u::u::u::u::u::u::u::u::u::u::u::u::u::u::u::u::u::u::u::u::u::u::u::u::u::[])) rfl ?_
        exact Bn H_ ⟨_,(Option.some.inj h).symm,rfl,hS⟩
       ·try simp only [W,hc]
        refine AE IW ?_;refine CC (s' :=(u:: .ptr C6 C7 0 0::u:: .bool false:: .bool false::u::u::u::u::u::u::u::u::u::u::u::u::u::u::u::u::u::u::u::u::u::u::u::u::u::u::u::u::u::u::u::u::u::u::u::u::u::u::u::u::u::u::u::u::u::u::u::u::u::u::u::u::u::u::u::u::u::u::u::u::u::u::u::u::u::u::u::u::u::u::u::u::u::u::u::u::u::u::u::u::u::u::u::u::u::u::u::u::u::u::u::u::u::u::u::u::u::u::u::u::u::u::u::[])) rfl ?_
        exact Bn H_ ⟨_,(Option.some.inj h).symm,rfl,hS⟩
      ·obtain ⟨D8,Dg,rfl,hS⟩:=hq;obtain rfl:=Dg.symm;replace h:=Wp;try dsimp only at h
       refine AE G6 ?_;refine CC (s' :=(u:: .ptr C6 C7 0 0::u:: .bool D8:: .bool false::u::u::u::u::u::u::u::u::u::u::u::u::u::u::u::u::u::u::u::u::u::u::u::u::u::u::u::u::u::u::u::u::u::u::u::u::u::u::u::u::u::u::u::u::u::u::u::u::u::u::u::u::u::u::u::u::u::u::u::u::u::u::u::u::u::u::u::u::u::u::u::u::u::u::u::u::u::u::u::u::u::u::u::u::u::u::u::u::u::u::u::u::u::u::u::u::u::u::u::u::u::u::u::[])) rfl ?_
       exact Bn LJ ⟨_,(Option.some.inj h).symm,rfl,hS⟩
     ·refine Aw fun O0 Hs=> ?_;refine AS gC ?_;try simp only [W,EE,Nat.reduceAdd]
      refine AE Hs ?_;obtain ⟨Rq,h,Rr⟩:=Option.bind_eq_some_iff.1 h;refine Bm gC (fun s H=> ∃Ee:Bool,Rq=(Ee)∧s=(u:: .ptr C6 C7 0 0::u:: .bool Ee:: .bool false::u::u::u::u::u::u::u::u::u::u::u::u::u::u::u::u::u::u::u::u::u::u::u::u::u::u::u::u::u::u::u::u::u::u::u::u::u::u::u::u::u::u::u::u::u::u::u::u::u::u::u::u::u::u::u::u::u::u::u::u::u::u::u::u::u::u::u::u::u::u::u::u::u::u::u::u::u::u::u::u::u::u::u::u::u::u::u::u::u::u::u::u::u::u::u::u::u::u::u::u::u::u::u::[])∧ay H (⟨.ptr C6 C7 0 0,11,[.agg [.int .i64 a0.C0,.int .i64 a0.CY,.int .i64 a0.X,.int .i64 a0.Y,.int .i64 a0.C1,.int .i64 a0.CZ,.int .i64 a0.CW,.int .i64 a0.CX,.fz (a0.C2.map CV),.fz (a0.C3.map CV),.fz (a0.C4.map CV)]]⟩::F)) (fun Ty Ku=> ?_) (fun s H hq=> ?_)
      ·refine Aw fun Lc FQ=> ?_;refine AB ?_;simp only [W];refine AR h (fun hc h=> ?_) (fun hc h=> ?_)
       ·obtain ⟨Rs,h,Pt⟩:=Option.bind_eq_some_iff.1 h;refine Bm gC (fun s H=> ∃Jm:Bool,Rs=(Jm)∧s=(u:: .ptr C6 C7 0 0::u:: .bool Jm:: .bool false::u::u::u::u::u::u::u::u::u::u::u::u::u::u::u::u::u::u::u::u::u::u::u::u::u::u::u::u::u::u::u::u::u::u::u::u::u::u::u::u::u::u::u::u::u::u::u::u::u::u::u::u::u::u::u::u::u::u::u::u::u::u::u::u::u::u::u::u::u::u::u::u::u::u::u::u::u::u::u::u::u::u::u::u::u::u::u::u::u::u::u::u::u::u::u::u::u::u::u::u::u::u::u::[])∧ay H (⟨.ptr C6 C7 0 0,11,[.agg [.int .i64 a0.C0,.int .i64 a0.CY,.int .i64 a0.X,.int .i64 a0.Y,.int .i64 a0.C1,.int .i64 a0.CZ,.int .i64 a0.CW,.int .i64 a0.CX,.fz (a0.C2.map CV),.fz (a0.C3.map CV),.fz (a0.C4.map CV)]]⟩::F)) (fun Rt Ia=> ?_) (fun s H hq=> ?_)
        ·refine Aw fun Tz JM=> ?_;refine AS gC ?_;try simp only [W,EE,Nat.reduceAdd,Nat.reduceBEq,hS.var 0 rfl]
         refine Bh h fun Gd Pu h=> ?_;refine IC Pu hS fun H hS=> ?_;try simp only [W]
         refine BE h (fun hc h=> ?_) (fun hc h=> ?_)
         ·try simp only [W,EE,reduceIte,Nat.reduceAdd,Nat.reduceBEq,hS.var 0 rfl,hc]
          refine AE JM ?_;refine CC (s' :=(u:: .ptr C6 C7 0 0::u:: .bool (a0.CZ==0):: .bool false::u::u::u::u::u::u::u::u::u::u::u::u::u::u::u::u::u::u::u::u::u::u::u::u::u::u::u::u::u::u::u::u::u::u::u::u::u::u::u::u::u::u::u::u::u::u::u::u::u::u::u::u::u::u::u::u::u::u::u::u::u::u::u::u::u::u::u::u::u::u::u::u::u::u::u::u::u::u::u::u::u::u::u::u::u::u::u::u::u::u::u::u::u::u::u::u::u::u::u::u::u::u::u::[])) rfl ?_
          exact Bn Ia ⟨_,(Option.some.inj h).symm,rfl,hS⟩
         ·try simp only [W,hc]
          refine AE JM ?_;refine CC (s' :=(u:: .ptr C6 C7 0 0::u:: .bool false:: .bool false::u::u::u::u::u::u::u::u::u::u::u::u::u::u::u::u::u::u::u::u::u::u::u::u::u::u::u::u::u::u::u::u::u::u::u::u::u::u::u::u::u::u::u::u::u::u::u::u::u::u::u::u::u::u::u::u::u::u::u::u::u::u::u::u::u::u::u::u::u::u::u::u::u::u::u::u::u::u::u::u::u::u::u::u::u::u::u::u::u::u::u::u::u::u::u::u::u::u::u::u::u::u::u::[])) rfl ?_
          exact Bn Ia ⟨_,(Option.some.inj h).symm,rfl,hS⟩
        ·obtain ⟨Jm,Dg,rfl,hS⟩:=hq;obtain rfl:=Dg.symm;replace h:=Pt;try dsimp only at h
         refine AE FQ ?_;refine CC (s' :=(u:: .ptr C6 C7 0 0::u:: .bool Jm:: .bool false::u::u::u::u::u::u::u::u::u::u::u::u::u::u::u::u::u::u::u::u::u::u::u::u::u::u::u::u::u::u::u::u::u::u::u::u::u::u::u::u::u::u::u::u::u::u::u::u::u::u::u::u::u::u::u::u::u::u::u::u::u::u::u::u::u::u::u::u::u::u::u::u::u::u::u::u::u::u::u::u::u::u::u::u::u::u::u::u::u::u::u::u::u::u::u::u::u::u::u::u::u::u::u::[])) rfl ?_
         exact Bn Ku ⟨_,(Option.some.inj h).symm,rfl,hS⟩
       ·refine Aw fun SP J4=> ?_;refine AS gC ?_;try simp only [W,EE,Nat.reduceAdd]
        refine AE J4 ?_;obtain ⟨Q6,h,Q7⟩:=Option.bind_eq_some_iff.1 h;refine Bm gC (fun s H=> ∃E2:Bool,Q6=(E2)∧s=(u:: .ptr C6 C7 0 0::u:: .bool E2:: .bool false::u::u::u::u::u::u::u::u::u::u::u::u::u::u::u::u::u::u::u::u::u::u::u::u::u::u::u::u::u::u::u::u::u::u::u::u::u::u::u::u::u::u::u::u::u::u::u::u::u::u::u::u::u::u::u::u::u::u::u::u::u::u::u::u::u::u::u::u::u::u::u::u::u::u::u::u::u::u::u::u::u::u::u::u::u::u::u::u::u::u::u::u::u::u::u::u::u::u::u::u::u::u::u::[])∧ay H (⟨.ptr C6 C7 0 0,11,[.agg [.int .i64 a0.C0,.int .i64 a0.CY,.int .i64 a0.X,.int .i64 a0.Y,.int .i64 a0.C1,.int .i64 a0.CZ,.int .i64 a0.CW,.int .i64 a0.CX,.fz (a0.C2.map CV),.fz (a0.C3.map CV),.fz (a0.C4.map CV)]]⟩::F)) (fun Lk Gh=> ?_) (fun s H hq=> ?_)
        ·refine Aw fun Ll FT=> ?_;refine AB ?_;simp only [W];refine AR h (fun hc h=> ?_) (fun hc h=> ?_)
         ·refine AS gC ?_;try simp only [W,EE,Nat.reduceAdd,Nat.reduceBEq,hS.var 0 rfl]
          refine Bh h fun Dv J5 h=> ?_;refine Pq J5 (List.mem_of_getElem? (i:=0) rfl) hS fun H hS=> ?_;try simp only [W]
          refine AE FT ?_;refine CC (s' :=(u:: .ptr C6 C7 0 0::u:: .bool Dv:: .bool false::u::u::u::u::u::u::u::u::u::u::u::u::u::u::u::u::u::u::u::u::u::u::u::u::u::u::u::u::u::u::u::u::u::u::u::u::u::u::u::u::u::u::u::u::u::u::u::u::u::u::u::u::u::u::u::u::u::u::u::u::u::u::u::u::u::u::u::u::u::u::u::u::u::u::u::u::u::u::u::u::u::u::u::u::u::u::u::u::u::u::u::u::u::u::u::u::u::u::u::u::u::u::u::[])) rfl ?_
          exact Bn Gh ⟨_,(Option.some.inj h).symm,rfl,hS⟩
         ·refine Ay ?_;refine AE FT ?_;refine CC (s' :=(u:: .ptr C6 C7 0 0::u:: .bool false:: .bool false::u::u::u::u::u::u::u::u::u::u::u::u::u::u::u::u::u::u::u::u::u::u::u::u::u::u::u::u::u::u::u::u::u::u::u::u::u::u::u::u::u::u::u::u::u::u::u::u::u::u::u::u::u::u::u::u::u::u::u::u::u::u::u::u::u::u::u::u::u::u::u::u::u::u::u::u::u::u::u::u::u::u::u::u::u::u::u::u::u::u::u::u::u::u::u::u::u::u::u::u::u::u::u::[])) rfl ?_
          exact Bn Gh ⟨_,(Option.some.inj h).symm,rfl,hS⟩
        ·obtain ⟨E2,Dg,rfl,hS⟩:=hq;obtain rfl:=Dg.symm;replace h:=Q7;try dsimp only at h
         refine AE FQ ?_;refine CC (s' :=(u:: .ptr C6 C7 0 0::u:: .bool E2:: .bool false::u::u::u::u::u::u::u::u::u::u::u::u::u::u::u::u::u::u::u::u::u::u::u::u::u::u::u::u::u::u::u::u::u::u::u::u::u::u::u::u::u::u::u::u::u::u::u::u::u::u::u::u::u::u::u::u::u::u::u::u::u::u::u::u::u::u::u::u::u::u::u::u::u::u::u::u::u::u::u::u::u::u::u::u::u::u::u::u::u::u::u::u::u::u::u::u::u::u::u::u::u::u::u::[])) rfl ?_
         exact Bn Ku ⟨_,(Option.some.inj h).symm,rfl,hS⟩
      ·obtain ⟨Ee,Dg,rfl,hS⟩:=hq;obtain rfl:=Dg.symm;replace h:=Rr;try dsimp only at h
       refine AE G6 ?_;refine CC (s' :=(u:: .ptr C6 C7 0 0::u:: .bool Ee:: .bool false::u::u::u::u::u::u::u::u::u::u::u::u::u::u::u::u::u::u::u::u::u::u::u::u::u::u::u::u::u::u::u::u::u::u::u::u::u::u::u::u::u::u::u::u::u::u::u::u::u::u::u::u::u::u::u::u::u::u::u::u::u::u::u::u::u::u::u::u::u::u::u::u::u::u::u::u::u::u::u::u::u::u::u::u::u::u::u::u::u::u::u::u::u::u::u::u::u::u::u::u::u::u::u::[])) rfl ?_
       exact Bn LJ ⟨_,(Option.some.inj h).symm,rfl,hS⟩
    ·obtain ⟨Ed,Dg,rfl,hS⟩:=hq;obtain rfl:=Dg.symm;replace h:=Wn;try dsimp only at h
     refine AI Ea ?_;exact Bn E8 ⟨_,(Option.some.inj h).symm,rfl,hS⟩
   ·obtain ⟨Ef,Dg,rfl,hS⟩:=hq;obtain rfl:=Dg.symm;replace h:=Rp;try dsimp only at h
    refine AE FI ?_;refine Aw fun QL Iu=> ?_;refine Aw fun QM Hz=> ?_;refine AS gC ?_;try simp only [W,EE,Nat.reduceAdd,Nat.reduceBEq,hS.var 0 rfl]
    refine AE Hz ?_;obtain ⟨Wq,h,Wr⟩:=Option.bind_eq_some_iff.1 h;refine Bm gC (fun s H=> ∃Hf:Bool,Wq=(Hf)∧s=(u:: .ptr C6 C7 0 0::u:: .bool Ef:: .bool Hf::u::u::u::u::u::u::u::u::u::u::u::u::u::u::u::u::u::u::u::u::u::u::u::u::u::u::u::u::u::u::u::u::u::u::u::u::u::u::u::u::u::u::u::u::u::u::u::u::u::u::u::u::u::u::u::u::u::u::u::u::u::u::u::u::u::u::u::u::u::u::u::u::u::u::u::u::u::u::u::u::u::u::u::u::u::u::u::u::u::u::u::u::u::u::u::u::u::u::u::u::u::u::u::[])∧ay H (⟨.ptr C6 C7 0 0,11,[.agg [.int .i64 a0.C0,.int .i64 a0.CY,.int .i64 a0.X,.int .i64 a0.Y,.int .i64 a0.C1,.int .i64 a0.CZ,.int .i64 a0.CW,.int .i64 a0.CX,.fz (a0.C2.map CV),.fz (a0.C3.map CV),.fz (a0.C4.map CV)]]⟩::F)) (fun O6 I0=> ?_) (fun s H hq=> ?_)
    ·refine Ax fun NE GD=> ?_;refine Aw fun NF G3=> ?_;refine AS gC ?_;try simp only [W,EE,Nat.reduceAdd]
     refine AE G3 ?_;obtain ⟨Ws,h,Wt⟩:=Option.bind_eq_some_iff.1 h;refine Bm gC (fun s H=> ∃DR:Bool,Ws=(DR)∧s=(u:: .ptr C6 C7 0 0::u:: .bool Ef:: .bool DR::u::u::u::u::u::u::u::u::u::u::u::u::u::u::u::u::u::u::u::u::u::u::u::u::u::u::u::u::u::u::u::u::u::u::u::u::u::u::u::u::u::u::u::u::u::u::u::u::u::u::u::u::u::u::u::u::u::u::u::u::u::u::u::u::u::u::u::u::u::u::u::u::u::u::u::u::u::u::u::u::u::u::u::u::u::u::u::u::u::u::u::u::u::u::u::u::u::u::u::u::u::u::u::[])∧ay H (⟨.ptr C6 C7 0 0,11,[.agg [.int .i64 a0.C0,.int .i64 a0.CY,.int .i64 a0.X,.int .i64 a0.Y,.int .i64 a0.C1,.int .i64 a0.CZ,.int .i64 a0.CW,.int .i64 a0.CX,.fz (a0.C2.map CV),.fz (a0.C3.map CV),.fz (a0.C4.map CV)]]⟩::F)) (fun VT Pl=> ?_) (fun s H hq=> ?_)
     ·refine Aw fun Wu LL=> ?_;refine AB ?_;simp only [W];refine AR h (fun hc h=> ?_) (fun hc h=> ?_)
      ·obtain ⟨Ru,h,Wv⟩:=Option.bind_eq_some_iff.1 h;refine Bm gC (fun s H=> ∃DX:Bool,Ru=(DX)∧s=(u:: .ptr C6 C7 0 0::u:: .bool Ef:: .bool DX::u::u::u::u::u::u::u::u::u::u::u::u::u::u::u::u::u::u::u::u::u::u::u::u::u::u::u::u::u::u::u::u::u::u::u::u::u::u::u::u::u::u::u::u::u::u::u::u::u::u::u::u::u::u::u::u::u::u::u::u::u::u::u::u::u::u::u::u::u::u::u::u::u::u::u::u::u::u::u::u::u::u::u::u::u::u::u::u::u::u::u::u::u::u::u::u::u::u::u::u::u::u::u::[])∧ay H (⟨.ptr C6 C7 0 0,11,[.agg [.int .i64 a0.C0,.int .i64 a0.CY,.int .i64 a0.X,.int .i64 a0.Y,.int .i64 a0.C1,.int .i64 a0.CZ,.int .i64 a0.CW,.int .i64 a0.CX,.fz (a0.C2.map CV),.fz (a0.C3.map CV),.fz (a0.C4.map CV)]]⟩::F)) (fun O7 HA=> ?_) (fun s H hq=> ?_)
       ·refine Aw fun O2 HZ=> ?_;refine AS gC ?_;try simp only [W,EE,Nat.reduceAdd,Nat.reduceBEq,hS.var 0 rfl]
        refine BE h (fun hc h=> ?_) (fun hc h=> ?_)
        ·try simp only [W,EE,reduceIte,Nat.reduceAdd,Nat.reduceBEq,hS.var 0 rfl,hc]
         refine AE HZ ?_;refine CC (s' :=(u:: .ptr C6 C7 0 0::u:: .bool Ef:: .bool (a0.Y==0)::u::u::u::u::u::u::u::u::u::u::u::u::u::u::u::u::u::u::u::u::u::u::u::u::u::u::u::u::u::u::u::u::u::u::u::u::u::u::u::u::u::u::u::u::u::u::u::u::u::u::u::u::u::u::u::u::u::u::u::u::u::u::u::u::u::u::u::u::u::u::u::u::u::u::u::u::u::u::u::u::u::u::u::u::u::u::u::u::u::u::u::u::u::u::u::u::u::u::u::u::u::u::u::[])) rfl ?_
         exact Bn HA ⟨_,(Option.some.inj h).symm,rfl,hS⟩
        ·try simp only [W,hc]
         refine AE HZ ?_;refine CC (s' :=(u:: .ptr C6 C7 0 0::u:: .bool Ef:: .bool false::u::u::u::u::u::u::u::u::u::u::u::u::u::u::u::u::u::u::u::u::u::u::u::u::u::u::u::u::u::u::u::u::u::u::u::u::u::u::u::u::u::u::u::u::u::u::u::u::u::u::u::u::u::u::u::u::u::u::u::u::u::u::u::u::u::u::u::u::u::u::u::u::u::u::u::u::u::u::u::u::u::u::u::u::u::u::u::u::u::u::u::u::u::u::u::u::u::u::u::u::u::u::u::[])) rfl ?_
         exact Bn HA ⟨_,(Option.some.inj h).symm,rfl,hS⟩
       ·obtain ⟨DX,Dg,rfl,hS⟩:=hq;obtain rfl:=Dg.symm;replace h:=Wv;try dsimp only at h
        refine AE LL ?_;refine CC (s' :=(u:: .ptr C6 C7 0 0::u:: .bool Ef:: .bool DX::u::u::u::u::u::u::u::u::u::u::u::u::u::u::u::u::u::u::u::u::u::u::u::u::u::u::u::u::u::u::u::u::u::u::u::u::u::u::u::u::u::u::u::u::u::u::u::u::u::u::u::u::u::u::u::u::u::u::u::u::u::u::u::u::u::u::u::u::u::u::u::u::u::u::u::u::u::u::u::u::u::u::u::u::u::u::u::u::u::u::u::u::u::u::u::u::u::u::u::u::u::u::u::[])) rfl ?_
        exact Bn Pl ⟨_,(Option.some.inj h).symm,rfl,hS⟩
      ·refine Aw fun Qv IQ=> ?_;refine Aw fun SV Ny=> ?_;refine AS gC ?_;try simp only [W,EE,Nat.reduceAdd]
       refine AE Ny ?_;obtain ⟨QE,h,QF⟩:=Option.bind_eq_some_iff.1 h;refine Bm gC (fun s H=> ∃Et:Bool,QE=(Et)∧s=(u:: .ptr C6 C7 0 0::u:: .bool Ef:: .bool false::u::u::u::u::u::u::u::u::u::u::u::u::u::u::u::u::u::u::u::u::u::u::u::u::u::u::u::u::u::u::u::u::u::u::u::u::u::u::u::u::u::u::u::u::u::u::u::u::u::u::u::u::u::u::u::u::u::u::u::u::u::u::u::u::u::u::u::u::u::u::u::u:: .bool Et::u::u::u::u::u::u::u::u::u::u::u::u::u::u::u::u::u::u::u::u::u::u::u::u::u::u::u::u::u::u::[])∧ay H (⟨.ptr C6 C7 0 0,11,[.agg [.int .i64 a0.C0,.int .i64 a0.CY,.int .i64 a0.X,.int .i64 a0.Y,.int .i64 a0.C1,.int .i64 a0.CZ,.int .i64 a0.CW,.int .i64 a0.CX,.fz (a0.C2.map CV),.fz (a0.C3.map CV),.fz (a0.C4.map CV)]]⟩::F)) (fun S4 IY=> ?_) (fun s H hq=> ?_)
       ·refine Aw fun QH H4=> ?_;refine AB ?_;simp only [W];refine AR h (fun hc h=> ?_) (fun hc h=> ?_)
        ·refine Ay ?_;refine AE H4 ?_;refine CC (s' :=(u:: .ptr C6 C7 0 0::u:: .bool Ef:: .bool false::u::u::u::u::u::u::u::u::u::u::u::u::u::u::u::u::u::u::u::u::u::u::u::u::u::u::u::u::u::u::u::u::u::u::u::u::u::u::u::u::u::u::u::u::u::u::u::u::u::u::u::u::u::u::u::u::u::u::u::u::u::u::u::u::u::u::u::u::u::u::u::u:: .bool (a0.CY==1)::u::u::u::u::u::u::u::u::u::u::u::u::u::u::u::u::u::u::u::u::u::u::u::u::u::u::u::u::u::u::[])) rfl ?_
         exact Bn IY ⟨_,(Option.some.inj h).symm,rfl,hS⟩
        ·refine AS gC ?_;try simp only [W,EE,Nat.reduceAdd]
         refine AE H4 ?_;refine CC (s' :=(u:: .ptr C6 C7 0 0::u:: .bool Ef:: .bool false::u::u::u::u::u::u::u::u::u::u::u::u::u::u::u::u::u::u::u::u::u::u::u::u::u::u::u::u::u::u::u::u::u::u::u::u::u::u::u::u::u::u::u::u::u::u::u::u::u::u::u::u::u::u::u::u::u::u::u::u::u::u::u::u::u::u::u::u::u::u::u::u:: .bool (a0.CY==2)::u::u::u::u::u::u::u::u::u::u::u::u::u::u::u::u::u::u::u::u::u::u::u::u::u::u::u::u::u::u::[])) rfl ?_
         exact Bn IY ⟨_,(Option.some.inj h).symm,rfl,hS⟩
       ·obtain ⟨Et,Dg,rfl,hS⟩:=hq;obtain rfl:=Dg.symm;replace h:=QF;try dsimp only at h
        refine AE IQ ?_;obtain ⟨Ww,h,Wx⟩:=Option.bind_eq_some_iff.1 h;refine Bm gC (fun s H=> ∃D0:Bool,Ww=(D0)∧s=(u:: .ptr C6 C7 0 0::u:: .bool Ef:: .bool D0::u::u::u::u::u::u::u::u::u::u::u::u::u::u::u::u::u::u::u::u::u::u::u::u::u::u::u::u::u::u::u::u::u::u::u::u::u::u::u::u::u::u::u::u::u::u::u::u::u::u::u::u::u::u::u::u::u::u::u::u::u::u::u::u::u::u::u::u::u::u::u::u:: .bool Et::u::u::u::u::u::u::u::u::u::u::u::u::u::u::u::u::u::u::u::u::u::u::u::u::u::u::u::u::u::u::[])∧ay H (⟨.ptr C6 C7 0 0,11,[.agg [.int .i64 a0.C0,.int .i64 a0.CY,.int .i64 a0.X,.int .i64 a0.Y,.int .i64 a0.C1,.int .i64 a0.CZ,.int .i64 a0.CW,.int .i64 a0.CX,.fz (a0.C2.map CV),.fz (a0.C3.map CV),.fz (a0.C4.map CV)]]⟩::F)) (fun Wy NT=> ?_) (fun s H hq=> ?_)
        ·refine Aw fun Wz LM=> ?_;refine AB ?_;simp only [W];refine AR h (fun hc h=> ?_) (fun hc h=> ?_)
         ·refine AS gC ?_;try simp only [W,EE,Nat.reduceAdd,Nat.reduceBEq,hS.var 0 rfl]
          refine Bh h fun Fz Rv h=> ?_;refine Pq Rv (List.mem_of_getElem? (i:=0) rfl) hS fun H hS=> ?_;try simp only [W]
          refine AE LM ?_;refine CC (s' :=(u:: .ptr C6 C7 0 0::u:: .bool Ef:: .bool Fz::u::u::u::u::u::u::u::u::u::u::u::u::u::u::u::u::u::u::u::u::u::u::u::u::u::u::u::u::u::u::u::u::u::u::u::u::u::u::u::u::u::u::u::u::u::u::u::u::u::u::u::u::u::u::u::u::u::u::u::u::u::u::u::u::u::u::u::u::u::u::u::u:: .bool Et::u::u::u::u::u::u::u::u::u::u::u::u::u::u::u::u::u::u::u::u::u::u::u::u::u::u::u::u::u::u::[])) rfl ?_
          exact Bn NT ⟨_,(Option.some.inj h).symm,rfl,hS⟩
         ·refine Ay ?_;refine AE LM ?_;refine CC (s' :=(u:: .ptr C6 C7 0 0::u:: .bool Ef:: .bool false::u::u::u::u::u::u::u::u::u::u::u::u::u::u::u::u::u::u::u::u::u::u::u::u::u::u::u::u::u::u::u::u::u::u::u::u::u::u::u::u::u::u::u::u::u::u::u::u::u::u::u::u::u::u::u::u::u::u::u::u::u::u::u::u::u::u::u::u::u::u::u::u:: .bool Et::u::u::u::u::u::u::u::u::u::u::u::u::u::u::u::u::u::u::u::u::u::u::u::u::u::u::u::u::u::u::[])) rfl ?_
          exact Bn NT ⟨_,(Option.some.inj h).symm,rfl,hS⟩
        ·obtain ⟨D0,Dg,rfl,hS⟩:=hq;obtain rfl:=Dg.symm;replace h:=Wx;try dsimp only at h
         refine AE LL ?_;refine CC (s' :=(u:: .ptr C6 C7 0 0::u:: .bool Ef:: .bool D0::u::u::u::u::u::u::u::u::u::u::u::u::u::u::u::u::u::u::u::u::u::u::u::u::u::u::u::u::u::u::u::u::u::u::u::u::u::u::u::u::u::u::u::u::u::u::u::u::u::u::u::u::u::u::u::u::u::u::u::u::u::u::u::u::u::u::u::u::u::u::u::u::u::u::u::u::u::u::u::u::u::u::u::u::u::u::u::u::u::u::u::u::u::u::u::u::u::u::u::u::u::u::u::[])) rfl ?_
         exact Bn Pl ⟨_,(Option.some.inj h).symm,rfl,hS⟩
     ·obtain ⟨DR,Dg,rfl,hS⟩:=hq;obtain rfl:=Dg.symm;replace h:=Wt;try dsimp only at h
      refine AI GD ?_;exact Bn I0 ⟨_,(Option.some.inj h).symm,rfl,hS⟩
    ·obtain ⟨Hf,Dg,rfl,hS⟩:=hq;obtain rfl:=Dg.symm;replace h:=Wr;try dsimp only at h
     refine AE Iu ?_;refine Aw fun O3 Is=> ?_;refine AS gC ?_;try simp only [W,EE,Nat.reduceAdd,Nat.reduceBEq,hS.var 0 rfl,List.contains_cons,Nat.reduceBEq,Bool.or_self]
     refine Bg (el:=([a0.C3,a0.C4]:List (List Hello)).map (zh CV)) hS rfl rfl rfl rfl rfl rfl rfl fun v84 H WA hS=> ?_;try simp only [W]
     refine B9 (bO:=[[.sl [.sc,.sc,.sc]]]) (ys:=[.fz (([a0.C3,a0.C4]:List (List Hello)).map (zh CV))]) h rfl (BW (BT hS 0 rfl WA (fun _=>rfl)) BV) fun GM QJ h=>⟨.own 3 (GM.map CV),Wa QJ (ay.nil _) fun IZ Hu H hS=>B1 rfl (BZ 0 hS rfl Hu (fun _ _=>by simp [aX,aO,cg,dl,CV]) fun H hS=>BX rfl),(Ca _ (fun _=>rfl) _),?_⟩
     refine B6 ?_;refine B4 hS (fun _ _=>rfl) (fun _=>rfl) fun JE H JF hS=> ?_;refine B2 ?_;try simp only [List.headD_cons]
     try simp only [W]
     refine AE Is ?_;refine Aw fun Qx Ho=> ?_;refine AS gC ?_;try simp only [W,Nat.reduceAdd]
     refine BE h (fun hc h=> ?_) (fun hc h=> ?_)
     ·try simp only [W,reduceIte,hc]
      refine BE h (fun hc h=> ?_) (fun hc h=> ?_)
      ·try simp only [W,EE,Nat.reduceAdd,Nat.reduceBEq,hS.var 2 rfl,hc]
       refine Bh h fun JY WB h=> ?_;refine Tw WB (fun h _ n hL _ hS _ hP=>Wg h (BB hL (List.mem_of_getElem? (i:=2) rfl)) hS hP) hS fun H hS=> ?_;try simp only [W,reduceIte]
       refine BE h (fun hc h=> ?_) (fun hc h=> ?_)
       ·try simp only [W,hc]
        refine B8 (bO:=[[.sc]]) (ys:=[.fz (GM.map CV),.fn 218 [.fe (.agg [.int .i64 a0.C0,.int .i64 a0.CY,.int .i64 a0.X,.int .i64 a0.Y,.int .i64 a0.C1,.int .i64 a0.CZ,.int .i64 a0.CW,.int .i64 a0.CX,.fz (a0.C2.map CV),.fz (a0.C3.map CV),.fz (a0.C4.map CV)]) 0]]) h rfl (BW (BT hS 0 rfl JF (fun _=>rfl)) (BW (BS (zk (BU hS 2 rfl rfl) (BQ _))) BV)) fun Qk WC h=>⟨.bool Qk,Tw WC (fun h _ n hL _ hS _ hP=>Wl h hS hP) (ay.nil _) fun H hS=>B1 rfl (BY rfl (BX rfl)),⟨rfl,rfl,fun _=>rfl⟩,?_⟩;try simp only [W,reduceIte]
        refine AE Ho ?_;refine Az ?_;refine AO C8 rfl ?_;try obtain rfl:=Option.some.inj h
        exact hP _ (hS.BA 3 [] (by decide))
       ·try simp only [W,hc]
        refine AE Ho ?_;refine Az ?_;refine AO C8 rfl ?_;try obtain rfl:=Option.some.inj h
        exact hP _ (hS.BA 3 [] (by decide))
      ·try simp only [W,hc]
       refine AE Ho ?_;refine Az ?_;refine AO C8 rfl ?_;try obtain rfl:=Option.some.inj h
       exact hP _ (hS.BA 3 [] (by decide))
     ·try simp only [W,hc]
      refine AE Ho ?_;refine Az ?_;refine AO C8 rfl ?_;try obtain rfl:=Option.some.inj h
      exact hP _ (hS.BA 3 [] (by decide))
theorem Pv {a0:C5} {a1:Hello} {i0:Nat} {w0:Nat} {Dq:AV} {Dl:AV} {Dm:AV} {r:(C5)} (h:Jn a0 a1=some r) {F:List It} {H:J} (hS:ay H (⟨.ptr i0 w0 0 0,11,[.agg [.int .i64 a0.C0,.int .i64 a0.CY,.int .i64 a0.X,.int .i64 a0.Y,.int .i64 a0.C1,.int .i64 a0.CZ,.int .i64 a0.CW,.int .i64 a0.CX,Dq,Dl,Dm]]⟩::⟨Dq,3,a0.C2.map CV⟩::⟨Dl,3,a0.C3.map CV⟩::⟨Dm,3,a0.C4.map CV⟩::F)) (EC:bm Dq) (E9:bm Dl) (E_:bm Dm) {P:AV→J→Prop} (hP: ∀Ib:AV,bm Ib→ ∀Ic:AV,bm Ic→ ∀Ie:AV,bm Ie→ ∀H',ay H' (⟨.ptr i0 w0 0 0,11,[.agg [.int .i64 r.C0,.int .i64 r.CY,.int .i64 r.X,.int .i64 r.Y,.int .i64 r.C1,.int .i64 r.CZ,.int .i64 r.CW,.int .i64 r.CX,Ib,Ic,Ie]]⟩::⟨Ib,3,r.C2.map CV⟩::⟨Ic,3,r.C3.map CV⟩::⟨Ie,3,r.C4.map CV⟩::F)→P (.aC []) H'):au C 298 [.ptr i0 w0 0 0,.agg [.int .i64 a1.Kind,.int .i64 a1.X,.int .i64 a1.Y]] H P:=by
 refine AW gC (res:=[]) (n:=20) rfl rfl rfl rfl fun K0 C8=> ?_;simp only [W,Nat.reduceSub,Nat.reduceAdd,List.replicate];unfold Jn at h;refine Aw fun K1 Da=> ?_;refine AS gC ?_;try simp only [W,Nat.reduceAdd]
 refine A7 hS rfl rfl rfl rfl fun C6 C7 H hS=> ?_;try simp only [W]
 refine AE Da ?_;refine Aw fun K4 Df=> ?_;refine AS gC ?_;try simp only [W,EE,Nat.reduceAdd,Nat.reduceBEq,hS.var 1 rfl]
 refine Be 2 hS rfl EC rfl ?_;try simp only [W,EE]
 refine AE Df ?_;refine AB ?_;simp only [W];refine AR h (fun hc h=> ?_) (fun hc h=> ?_)
 ·refine BG gC [(7,[0]),(10,[])] (by kernel_rfl) rfl (by kernel_rfl) ?_
  try simp only [W,EE,reduceIte,Nat.reduceAdd,Nat.reduceLeDiff,Nat.reduceBEq,hS.var 1 rfl,hS.var 0 rfl,iC,lh,Nat.reduceEqDiff]
  refine Bg (el:=([a1]:List Hello).map CV) hS rfl rfl rfl rfl rfl rfl rfl fun Jw H WD hS=> ?_;try simp only [W,EE]
  refine Bu (l:=a0.C2) (c:=CV) 3 hS rfl EC rfl rfl rfl (hS.hI 0 rfl WD) (fun _=>rfl) rfl h fun Ix H Gy Gn hm h hS=> ?_;refine BH ?_;refine BI (by first|rfl|(simp [aL,W,EE,EN,bN,jl,aG,AV.cells,hS.var 1 rfl,hS.var 2 rfl];done)) ?_
  refine BJ ?_;try simp only [W,EE,Nat.reduceAdd,Nat.reduceBEq,hS.var 2 rfl]
  refine A9 (a:=Ix) (y' := .agg [.int .i64 a0.C0,.int .i64 a0.CY,.int .i64 a0.X,.int .i64 a0.Y,.int .i64 a0.C1,.int .i64 a0.CZ,.int .i64 a0.CW,.int .i64 a0.CX,Ix,Dl,Dm]) 2 hS rfl rfl rfl rfl (by rw [Gn.cells];rfl) Gn.Bd (Gn.wr _ _ (by simp)) rfl fun H hS=> ?_
  try simp only [W]
  refine AQ C8 ?_;try obtain rfl:=Option.some.inj h
  exact hP _ Gn _ E9 _ E_ _ (hS.BA 6 [2,3,4,5] (by decide))
 ·refine Ay ?_;refine AQ C8 ?_;try obtain rfl:=Option.some.inj h
  exact hP _ EC _ E9 _ E_ _ (hS.BA 5 [1,2,3,4] (by decide))
theorem WE {a0:List Hello} {a1:Int} {a2:Int} {m0:AV} {r:(List Hello)} (h:Ml a0 a1 a2=some r) {F:List It} {H:J} (hS:ay H (⟨m0,3,a0.map CV⟩::F)) (Iq:bm m0) {P:AV→J→Prop} (hP: ∀FV:AV,bm FV→ ∀H',ay H' (⟨FV,3,r.map CV⟩::F)→P (FV) H'):au C 299 [m0,.int .i64 a1,.int .i64 a2] H P:=by
 refine AW gC (res:=[.tmp 6]) (n:=33) rfl rfl rfl rfl fun K0 C8=> ?_;simp only [W,Nat.reduceSub,Nat.reduceAdd,List.replicate];unfold Ml at h;refine Aw fun K1 Da=> ?_;refine AS gC ?_;try simp only [W,Nat.reduceAdd]
 refine AE Da ?_;refine Aw fun K2 yP=> ?_;refine AS gC ?_;try simp only [W,EE,Nat.reduceAdd]
 refine Be 0 hS rfl Iq rfl ?_;try simp only [W,EE]
 refine Ct 0 hS rfl Iq rfl rfl rfl rfl h fun v4 x3 pv h=> ?_;try simp only [W]
 refine AE yP ?_;refine Aw fun K5 D7=> ?_;refine Aw fun K6 Dx=> ?_;refine AS gC ?_;try simp only [W,EE,Nat.reduceAdd]
 refine AE Dx ?_;refine AB ?_;simp only [W];refine AR h (fun hc h=> ?_) (fun hc h=> ?_)
 ·refine Aw fun K7 Ez=> ?_;refine AS gC ?_;try simp only [W,Nat.reduceAdd]
  refine AE Ez ?_;refine Az ?_;refine AF D7 ?_;refine AO C8 rfl ?_;try obtain rfl:=Option.some.inj h
  exact hP _ Iq _ hS
 ·refine Ay ?_;refine AE D7 ?_;refine Aw fun K8 Dp=> ?_;refine AS gC ?_;try simp only [W,EE,Nat.reduceAdd]
  refine Be 0 hS rfl Iq rfl ?_;try simp only [W]
  refine AE Dp ?_;refine Aw fun K9 Dy=> ?_;refine BG gC [(6,[])] (by kernel_rfl) rfl (by kernel_rfl) ?_
  try simp only [W,EE,reduceIte,Nat.reduceAdd,iC,lh,Nat.reduceEqDiff]
  refine Cr 0 hS rfl Iq rfl rfl rfl h fun v11 Jh Fw WG Rw h=> ?_;try simp only [W,EE]
  refine Cr 0 hS rfl Iq rfl rfl rfl h fun EX Ei EP WH Rx h=> ?_;try simp only [W,EE]
  refine Cu (l:=a0) (c:=CV) 0 hS rfl Fw WG Rw rfl rfl rfl (hS.Cs 0 rfl WH Rx) (fun _=>rfl) rfl h fun FM H EF Gb WI h hS WJ=> ?_;try simp only [W]
  refine AE Dy ?_;refine Aw fun GX Ea=> ?_;refine AS gC ?_;try simp only [W,EE,Nat.reduceAdd]
  refine Be 0 hS rfl Gb rfl ?_;try simp only [W,EE]
  have TA:=WJ rfl (by obtain ⟨_,_,_,_⟩:=CA pv;obtain ⟨_,_,_,_⟩:=CA Rw;obtain ⟨_,_,_,_⟩:=CA Rx;simp only [Option.getD_some,Option.getD_none] at*;omega)
  have TB:(EF).length≤(a0).length:=by have:=Cz WI;obtain ⟨_,_,_,_⟩:=CA pv;obtain ⟨_,_,_,_⟩:=CA Rw;obtain ⟨_,_,_,_⟩:=CA Rx;simp only [Option.getD_some,Option.getD_none] at*;omega
  refine Cv 0 hS rfl rfl rfl rfl TA rfl TB fun Kr WK=> ?_;try simp only [W]
  refine Cy 0 hS rfl rfl rfl rfl rfl TA TB WK fun H hS=> ?_;try simp only [W]
  refine AE Ea ?_;refine Aw fun J9 FK=> ?_;refine AS gC ?_;try simp only [W,Nat.reduceAdd]
  refine AE FK ?_;refine Az ?_;refine AO C8 rfl ?_;try obtain rfl:=Option.some.inj h
  exact hP _ Gb _ hS
theorem WL {a0:C5} {a1:Hello} {i0:Nat} {w0:Nat} {Dq:AV} {Dl:AV} {Dm:AV} {r:(C5)} (h:Mm a0 a1=some r) {F:List It} {H:J} (hS:ay H (⟨.ptr i0 w0 0 0,11,[.agg [.int .i64 a0.C0,.int .i64 a0.CY,.int .i64 a0.X,.int .i64 a0.Y,.int .i64 a0.C1,.int .i64 a0.CZ,.int .i64 a0.CW,.int .i64 a0.CX,Dq,Dl,Dm]]⟩::⟨Dq,3,a0.C2.map CV⟩::⟨Dl,3,a0.C3.map CV⟩::⟨Dm,3,a0.C4.map CV⟩::F)) (EC:bm Dq) (E9:bm Dl) (E_:bm Dm) {P:AV→J→Prop} (hP: ∀Ib:AV,bm Ib→ ∀Ic:AV,bm Ic→ ∀Ie:AV,bm Ie→ ∀H',ay H' (⟨.ptr i0 w0 0 0,11,[.agg [.int .i64 r.C0,.int .i64 r.CY,.int .i64 r.X,.int .i64 r.Y,.int .i64 r.C1,.int .i64 r.CZ,.int .i64 r.CW,.int .i64 r.CX,Ib,Ic,Ie]]⟩::⟨Ib,3,r.C2.map CV⟩::⟨Ic,3,r.C3.map CV⟩::⟨Ie,3,r.C4.map CV⟩::F)→P (.aC []) H'):au C 300 [.ptr i0 w0 0 0,.agg [.int .i64 a1.Kind,.int .i64 a1.X,.int .i64 a1.Y]] H P:=by
 refine AW gC (res:=[]) (n:=162) rfl rfl rfl rfl fun K0 C8=> ?_;simp only [W,Nat.reduceSub,Nat.reduceAdd,List.replicate];unfold Mm at h;refine Aw fun K1 Da=> ?_;refine AS gC ?_;try simp only [W,Nat.reduceAdd]
 refine A7 hS rfl rfl rfl rfl fun C6 C7 H hS=> ?_;try simp only [W]
 refine AE Da ?_;refine Aw fun K4 Df=> ?_;refine AS gC ?_;try simp only [W,EE,Nat.reduceAdd,Nat.reduceBEq,hS.var 0 rfl]
 refine BF rfl rfl rfl rfl rfl ?_;try simp only [W]
 refine A8 hS rfl rfl fun FW FX H hS=> ?_;try simp only [W]
 refine A9 (a:= .agg [.int .i64 3,.int .i64 a1.X,.int .i64 a1.Y]) (y' := .agg [.int .i64 3,.int .i64 a1.X,.int .i64 a1.Y]) 0 hS rfl rfl rfl rfl rfl rfl rfl rfl fun H hS=> ?_
 try simp only [W]
 refine AE Df ?_;refine Aw fun K7 Ez=> ?_;refine AS gC ?_;try simp only [W,EE,Nat.reduceAdd,Nat.reduceBEq,hS.var 1 rfl]
 refine AE Ez ?_;refine Ax fun K8 Dp=> ?_;refine Aw fun K9 Dy=> ?_;refine AS gC ?_;try simp only [W,EE,Nat.reduceAdd]
 refine AE Dy ?_;refine AB ?_;simp only [W];refine AR h (fun hc h=> ?_) (fun hc h=> ?_)
 ·refine Aw fun HS DG=> ?_;obtain ⟨WM,h,WN⟩:=Option.bind_eq_some_iff.1 h;refine Bm gC (fun s H=> ∃FY:Bool,WM=(FY)∧s=(.ptr i0 w0 0 0::u::u:: .ptr C6 C7 0 0::u::u::u::u::u::u::u::u::u::u::u::u::u::u::u::u::u::u::u::u::u:: .bool FY::u::u::u::u::u::u::u::u::u::u::u::u::u::u::u::u::u::u::u::u::u::u::u::u::u::u::u::u::u::u::u::u::u::u::u::u::u::u::u::u::u::u::u::u::u::u::u::u::u::u::u::u::u::u::u::u::u::u::u::u::u::u::u::u::u::u::u::u::u::u::u::u::u::u::u::u::u::u::u::u::u::u::u::u::u::u::u::u::u::u::u::u::u::u::u::u::u::u::u::u::u::u::u::u::u::u::u::u::u::u::u::u::u::u::u::u::u::u::u::u::u::u::u::u::u::u::u::u::u::u::u::u::u::u::u::u::[])∧ay H (⟨Dq,3,a0.C2.map CV⟩::⟨Dl,3,a0.C3.map CV⟩::⟨Dm,3,a0.C4.map CV⟩::⟨.ptr i0 w0 0 0,11,[.agg [.int .i64 a0.C0,.int .i64 a0.CY,.int .i64 a0.X,.int .i64 a0.Y,.int .i64 a0.C1,.int .i64 a0.CZ,.int .i64 a0.CW,.int .i64 a0.CX,Dq,Dl,Dm]]⟩::⟨.ptr C6 C7 0 0,3,[.agg [.int .i64 a1.Kind,.int .i64 a1.X,.int .i64 a1.Y]]⟩::F)) (fun OM GV=> ?_) (fun s H hq=> ?_)
  ·refine Aw fun J2 FI=> ?_;refine AS gC ?_;try simp only [W,EE,Nat.reduceAdd,Nat.reduceBEq,hS.var 2 rfl]
   refine BE h (fun hc h=> ?_) (fun hc h=> ?_)
   ·try simp only [W,EE,reduceIte,Nat.reduceAdd,Nat.reduceBEq,hS.var 2 rfl,hc]
    refine AE FI ?_;refine CC (s' :=(.ptr i0 w0 0 0::u::u:: .ptr C6 C7 0 0::u::u::u::u::u::u::u::u::u::u::u::u::u::u::u::u::u::u::u::u::u:: .bool (decide (a0.CX<1000))::u::u::u::u::u::u::u::u::u::u::u::u::u::u::u::u::u::u::u::u::u::u::u::u::u::u::u::u::u::u::u::u::u::u::u::u::u::u::u::u::u::u::u::u::u::u::u::u::u::u::u::u::u::u::u::u::u::u::u::u::u::u::u::u::u::u::u::u::u::u::u::u::u::u::u::u::u::u::u::u::u::u::u::u::u::u::u::u::u::u::u::u::u::u::u::u::u::u::u::u::u::u::u::u::u::u::u::u::u::u::u::u::u::u::u::u::u::u::u::u::u::u::u::u::u::u::u::u::u::u::u::u::u::u::u::u::[])) rfl ?_
    exact Bn GV ⟨_,(Option.some.inj h).symm,rfl,(hS.BA 6 [3,4,5,2,1] (by decide))⟩
   ·try simp only [W,hc]
    refine AE FI ?_;refine CC (s' :=(.ptr i0 w0 0 0::u::u:: .ptr C6 C7 0 0::u::u::u::u::u::u::u::u::u::u::u::u::u::u::u::u::u::u::u::u::u:: .bool false::u::u::u::u::u::u::u::u::u::u::u::u::u::u::u::u::u::u::u::u::u::u::u::u::u::u::u::u::u::u::u::u::u::u::u::u::u::u::u::u::u::u::u::u::u::u::u::u::u::u::u::u::u::u::u::u::u::u::u::u::u::u::u::u::u::u::u::u::u::u::u::u::u::u::u::u::u::u::u::u::u::u::u::u::u::u::u::u::u::u::u::u::u::u::u::u::u::u::u::u::u::u::u::u::u::u::u::u::u::u::u::u::u::u::u::u::u::u::u::u::u::u::u::u::u::u::u::u::u::u::u::u::u::u::u::u::[])) rfl ?_
    exact Bn GV ⟨_,(Option.some.inj h).symm,rfl,(hS.BA 6 [3,4,5,2,1] (by decide))⟩
  ·obtain ⟨FY,Dg,rfl,hS⟩:=hq;obtain rfl:=Dg.symm;replace h:=WN;try dsimp only at h
   refine AE DG ?_;refine AB ?_;simp only [W];refine AR h (fun hc h=> ?_) (fun hc h=> ?_)
   ·refine Aw fun Hk Ek=> ?_;refine AS gC ?_;try simp only [W,EE,Nat.reduceAdd,Nat.reduceBEq,hS.var 3 rfl]
    refine A9 (a:= .int .i64 (IntKind.i64.wrap (a0.CX+1))) (y' := .agg [.int .i64 a0.C0,.int .i64 a0.CY,.int .i64 a0.X,.int .i64 a0.Y,.int .i64 a0.C1,.int .i64 a0.CZ,.int .i64 a0.CW,.int .i64 (IntKind.i64.wrap (a0.CX+1)),Dq,Dl,Dm]) 3 hS rfl rfl rfl rfl rfl rfl rfl rfl fun H hS=> ?_
    try simp only [W]
    refine AE Ek ?_;refine Aw fun GX Ea=> ?_;refine BG gC [(11,[1,2,3,4]),(14,[2]),(17,[])] (by kernel_rfl) rfl (by kernel_rfl) ?_
    try simp only [W,EE,reduceIte,Nat.reduceAdd,Nat.reduceBEq,hS.var 3 rfl,hS.var 4 rfl,iC,lh,Nat.reduceEqDiff]
    refine A9 (a:= .int .i64 1) (y' := .agg [.int .i64 a0.C0,.int .i64 1,.int .i64 a0.X,.int .i64 a0.Y,.int .i64 a0.C1,.int .i64 a0.CZ,.int .i64 a0.CW,.int .i64 (IntKind.i64.wrap (a0.CX+1)),Dq,Dl,Dm]) 3 hS rfl rfl rfl rfl rfl rfl rfl rfl fun H hS=> ?_
    refine BH ?_;refine BI (by first|rfl|(simp [aL,W,EE,EN,bN,jl,aG,AV.cells,hS.var 3 rfl,hS.var 4 rfl];done)) ?_
    refine BI (by first|rfl|(simp [aL,W,EE,EN,bN,jl,aG,AV.cells,hS.var 3 rfl,hS.var 4 rfl];done)) ?_
    refine BI (by first|rfl|(simp [aL,W,EE,hS.var 4 rfl];done)) ?_
    refine BI (by first|rfl|(simp [aL,W,EE,bN,jl,aG,AV.cells,hS.var 4 rfl];done)) ?_
    refine BJ ?_;try simp only [W,EE,Nat.reduceAdd,Nat.reduceBEq,hS.var 3 rfl]
    refine A9 (a:= .int .i64 a1.X) (y' := .agg [.int .i64 a0.C0,.int .i64 1,.int .i64 a0.X,.int .i64 a0.Y,.int .i64 a1.X,.int .i64 a0.CZ,.int .i64 a0.CW,.int .i64 (IntKind.i64.wrap (a0.CX+1)),Dq,Dl,Dm]) 3 hS rfl rfl rfl rfl rfl rfl rfl rfl fun H hS=> ?_
    refine BH ?_;refine BI (by first|rfl|(simp [aL,W,EE,EN,bN,jl,aG,AV.cells,hS.var 3 rfl,hS.var 4 rfl];done)) ?_
    refine BJ ?_;try simp only [W,EE,Nat.reduceAdd,Nat.reduceBEq,hS.var 3 rfl]
    refine A9 (a:= .int .i64 (IntKind.i64.wrap (a0.CX+1))) (y' := .agg [.int .i64 a0.C0,.int .i64 1,.int .i64 a0.X,.int .i64 (IntKind.i64.wrap (a0.CX+1)),.int .i64 a1.X,.int .i64 a0.CZ,.int .i64 a0.CW,.int .i64 (IntKind.i64.wrap (a0.CX+1)),Dq,Dl,Dm]) 3 hS rfl rfl rfl rfl rfl rfl rfl rfl fun H hS=> ?_
    try simp only [W]
    refine AE Ea ?_;refine BG gC [(10,[])] (by kernel_rfl) rfl (by kernel_rfl) ?_
    try simp only [W,EE,reduceIte,Nat.reduceAdd,Nat.reduceBEq,hS.var 3 rfl,iC,lh,Nat.reduceEqDiff]
    refine BF rfl rfl rfl rfl rfl ?_;try simp only [W]
    refine Bh h fun Sg WO h=> ?_;refine Pv WO (hS.BA 5 [3,0,1,2,4] (by decide)) EC E9 E_ fun Hp Ip v20 Jy FV Kk H hS=> ?_
    try simp only [W]
    refine AJ Dp ?_;refine AQ C8 ?_;try obtain rfl:=Option.some.inj h
    exact hP _ Ip _ Jy _ Kk _ (hS.BA 5 [0,1,2,3] (by decide))
   ·refine Ay ?_;refine AJ Dp ?_;refine AQ C8 ?_;try obtain rfl:=Option.some.inj h
    exact hP _ EC _ E9 _ E_ _ (hS.BA 5 [3,0,1,2] (by decide))
 ·refine Aw fun Ik E0=> ?_;refine AS gC ?_;try simp only [W,EE,Nat.reduceAdd]
  refine AE E0 ?_;refine AB ?_;simp only [W];refine AR h (fun hc h=> ?_) (fun hc h=> ?_)
  ·refine Ax fun Nv GY=> ?_;refine Aw fun NC HX=> ?_;obtain ⟨WQ,h,WR⟩:=Option.bind_eq_some_iff.1 h;refine Bm gC (fun s H=> ∃D1:Bool,WQ=(D1)∧s=(.ptr i0 w0 0 0::u::u:: .ptr C6 C7 0 0:: .ptr FW FX 0 0::u::u::u::u::u::u::u::u::u::u::u::u::u::u::u::u::u::u::u::u::u::u::u::u::u::u::u::u::u::u::u::u::u::u::u::u::u::u::u::u::u::u::u::u::u::u::u::u::u::u::u::u::u::u::u::u:: .bool D1::u::u::u::u::u::u::u::u::u::u::u::u::u::u::u::u::u::u::u::u::u::u::u::u::u::u::u::u::u::u::u::u::u::u::u::u::u::u::u::u::u::u::u::u::u::u::u::u::u::u::u::u::u::u::u::u::u::u::u::u::u::u::u::u::u::u::u::u::u::u::u::u::u::u::u::u::u::u::u::u::u::u::u::u::u::u::u::u::u::u::u::u::u::u::u::u::u::u::u::u::[])∧ay H (⟨Dq,3,a0.C2.map CV⟩::⟨Dl,3,a0.C3.map CV⟩::⟨Dm,3,a0.C4.map CV⟩::⟨.ptr i0 w0 0 0,11,[.agg [.int .i64 a0.C0,.int .i64 a0.CY,.int .i64 a0.X,.int .i64 a0.Y,.int .i64 a0.C1,.int .i64 a0.CZ,.int .i64 a0.CW,.int .i64 a0.CX,Dq,Dl,Dm]]⟩::⟨.ptr C6 C7 0 0,3,[.agg [.int .i64 a1.Kind,.int .i64 a1.X,.int .i64 a1.Y]]⟩::⟨.ptr FW FX 0 0,3,[.agg [.int .i64 3,.int .i64 a1.X,.int .i64 a1.Y]]⟩::F)) (fun NP G5=> ?_) (fun s H hq=> ?_)
   ·refine Aw fun Pk IA=> ?_;refine AU gC (by kernel_rfl) ?_
    try simp only [W,EE,Nat.reduceAdd,Nat.reduceBEq,hS.var 2 rfl]
    refine BE h (fun hc h=> ?_) (fun hc h=> ?_)
    ·try simp only [W,EE,reduceIte,Nat.reduceAdd,Nat.reduceBEq,hS.var 2 rfl,hS.var 1 rfl,hc]
     refine AE IA ?_;refine CC (s' :=(.ptr i0 w0 0 0::u::u:: .ptr C6 C7 0 0:: .ptr FW FX 0 0::u::u::u::u::u::u::u::u::u::u::u::u::u::u::u::u::u::u::u::u::u::u::u::u::u::u::u::u::u::u::u::u::u::u::u::u::u::u::u::u::u::u::u::u::u::u::u::u::u::u::u::u::u::u::u::u:: .bool (a0.X==a1.X)::u::u::u::u::u::u::u::u::u::u::u::u::u::u::u::u::u::u::u::u::u::u::u::u::u::u::u::u::u::u::u::u::u::u::u::u::u::u::u::u::u::u::u::u::u::u::u::u::u::u::u::u::u::u::u::u::u::u::u::u::u::u::u::u::u::u::u::u::u::u::u::u::u::u::u::u::u::u::u::u::u::u::u::u::u::u::u::u::u::u::u::u::u::u::u::u::u::u::u::u::[])) rfl ?_
     exact Bn G5 ⟨_,(Option.some.inj h).symm,rfl,(hS.BA 6 [3,4,5,2,1,0] (by decide))⟩
    ·try simp only [W,hc]
     refine AE IA ?_;refine CC (s' :=(.ptr i0 w0 0 0::u::u:: .ptr C6 C7 0 0:: .ptr FW FX 0 0::u::u::u::u::u::u::u::u::u::u::u::u::u::u::u::u::u::u::u::u::u::u::u::u::u::u::u::u::u::u::u::u::u::u::u::u::u::u::u::u::u::u::u::u::u::u::u::u::u::u::u::u::u::u::u::u:: .bool false::u::u::u::u::u::u::u::u::u::u::u::u::u::u::u::u::u::u::u::u::u::u::u::u::u::u::u::u::u::u::u::u::u::u::u::u::u::u::u::u::u::u::u::u::u::u::u::u::u::u::u::u::u::u::u::u::u::u::u::u::u::u::u::u::u::u::u::u::u::u::u::u::u::u::u::u::u::u::u::u::u::u::u::u::u::u::u::u::u::u::u::u::u::u::u::u::u::u::u::u::[])) rfl ?_
     exact Bn G5 ⟨_,(Option.some.inj h).symm,rfl,(hS.BA 6 [3,4,5,2,1,0] (by decide))⟩
   ·obtain ⟨D1,Dg,rfl,hS⟩:=hq;obtain rfl:=Dg.symm;replace h:=WR;try dsimp only at h
    refine AE HX ?_;refine AB ?_;simp only [W];refine AR h (fun hc h=> ?_) (fun hc h=> ?_)
    ·refine Aw fun Pp IB=> ?_;refine BG gC [(6,[1,2,3]),(9,[])] (by kernel_rfl) rfl (by kernel_rfl) ?_
     try simp only [W,EE,reduceIte,Nat.reduceAdd,Nat.reduceBEq,hS.var 3 rfl,hS.var 4 rfl,iC,lh,Nat.reduceEqDiff]
     refine A9 (a:= .int .i64 2) (y' := .agg [.int .i64 2,.int .i64 a0.CY,.int .i64 a0.X,.int .i64 a0.Y,.int .i64 a0.C1,.int .i64 a0.CZ,.int .i64 a0.CW,.int .i64 a0.CX,Dq,Dl,Dm]) 3 hS rfl rfl rfl rfl rfl rfl rfl rfl fun H hS=> ?_
     refine BH ?_;refine BI (by first|rfl|(simp [aL,W,EE,EN,bN,jl,aG,AV.cells,hS.var 3 rfl,hS.var 4 rfl,hS.var 5 rfl];done)) ?_
     refine BI (by first|rfl|(simp [aL,W,EE,hS.var 4 rfl];done)) ?_
     refine BI (by first|rfl|(simp [aL,W,EE,bN,jl,aG,AV.cells,hS.var 4 rfl];done)) ?_
     refine BJ ?_;try simp only [W,EE,Nat.reduceAdd,Nat.reduceBEq,hS.var 3 rfl]
     refine A9 (a:= .int .i64 a1.Y) (y' := .agg [.int .i64 2,.int .i64 a0.CY,.int .i64 a0.X,.int .i64 a0.Y,.int .i64 a0.C1,.int .i64 a1.Y,.int .i64 a0.CW,.int .i64 a0.CX,Dq,Dl,Dm]) 3 hS rfl rfl rfl rfl rfl rfl rfl rfl fun H hS=> ?_
     try simp only [W]
     refine AE IB ?_;refine Aw fun Ps H_=> ?_;refine BG gC [(7,[0]),(10,[])] (by kernel_rfl) rfl (by kernel_rfl) ?_
     try simp only [W,EE,reduceIte,Nat.reduceAdd,Nat.reduceLeDiff,Nat.reduceBEq,hS.var 3 rfl,hS.var 5 rfl,iC,lh,Nat.reduceEqDiff]
     refine Bg (el:=([(⟨3,a1.X,a1.Y⟩:Hello)]:List Hello).map CV) hS rfl rfl rfl rfl rfl rfl rfl fun Fg H Io hS=> ?_;try simp only [W,EE]
     refine Bu (l:=a0.C3) (c:=CV) 2 hS rfl E9 rfl rfl rfl (hS.hI 0 rfl Io) (fun _=>rfl) rfl h fun LH H Ee Pw hm h hS=> ?_;refine BH ?_;refine BI (by first|rfl|(simp [aL,W,EE,EN,bN,jl,aG,AV.cells,hS.var 4 rfl,hS.var 5 rfl,hS.var 6 rfl];done)) ?_
     refine BJ ?_;try simp only [W,EE,Nat.reduceAdd,Nat.reduceBEq,hS.var 4 rfl]
     refine A9 (a:=LH) (y' := .agg [.int .i64 2,.int .i64 a0.CY,.int .i64 a0.X,.int .i64 a0.Y,.int .i64 a0.C1,.int .i64 a1.Y,.int .i64 a0.CW,.int .i64 a0.CX,Dq,LH,Dm]) 4 hS rfl rfl rfl rfl (by rw [Pw.cells];rfl) Pw.Bd (Pw.wr _ _ (by simp)) rfl fun H hS=> ?_
     try simp only [W]
     refine AE H_ ?_;refine AS gC ?_;try simp only [W,EE,reduceIte,Nat.reduceAdd,Nat.reduceLeDiff,hS.var 6 rfl]
     refine Bh h fun Jo Ry h=> ?_;refine Pv Ry (hS.BA 7 [4,1,2,3,0,5,6] (by decide)) EC Pw E_ fun NU LN GF GG TD NV H hS=> ?_
     try simp only [W]
     refine AJ GY ?_;refine AJ Dp ?_;refine AQ C8 ?_;try obtain rfl:=Option.some.inj h
     exact hP _ LN _ GG _ NV _ (hS.BA 7 [0,1,2,3] (by decide))
    ·refine Aw fun O5 Hw=> ?_;obtain ⟨WS,h,WT⟩:=Option.bind_eq_some_iff.1 h;refine Bm gC (fun s H=> ∃GL:Bool,WS=(GL)∧s=(.ptr i0 w0 0 0::u::u::u:: .ptr FW FX 0 0::u::u::u::u::u::u::u::u::u::u::u::u::u::u::u::u::u::u::u::u::u::u::u::u::u::u::u::u::u::u::u::u::u::u::u::u::u::u::u::u::u::u::u::u::u::u::u::u::u::u::u::u::u::u::u::u::u::u::u::u::u::u::u::u::u::u::u::u::u::u::u::u::u::u::u::u::u::u::u::u::u::u::u::u::u::u::u::u::u::u::u::u:: .bool GL::u::u::u::u::u::u::u::u::u::u::u::u::u::u::u::u::u::u::u::u::u::u::u::u::u::u::u::u::u::u::u::u::u::u::u::u::u::u::u::u::u::u::u::u::u::u::u::u::u::u::u::u::u::u::u::u::u::u::u::u::u::u::u::u::[])∧ay H (⟨Dq,3,a0.C2.map CV⟩::⟨Dl,3,a0.C3.map CV⟩::⟨Dm,3,a0.C4.map CV⟩::⟨.ptr i0 w0 0 0,11,[.agg [.int .i64 a0.C0,.int .i64 a0.CY,.int .i64 a0.X,.int .i64 a0.Y,.int .i64 a0.C1,.int .i64 a0.CZ,.int .i64 a0.CW,.int .i64 a0.CX,Dq,Dl,Dm]]⟩::⟨.ptr FW FX 0 0,3,[.agg [.int .i64 3,.int .i64 a1.X,.int .i64 a1.Y]]⟩::F)) (fun SP J4=> ?_) (fun s H hq=> ?_)
     ·refine Aw fun Qr IP=> ?_;refine AU gC (by kernel_rfl) ?_
      try simp only [W,EE,Nat.reduceAdd,Nat.reduceBEq,hS.var 3 rfl]
      refine BE h (fun hc h=> ?_) (fun hc h=> ?_)
      ·try simp only [W,EE,reduceIte,Nat.reduceAdd,Nat.reduceBEq,hS.var 3 rfl,hS.var 4 rfl,hc]
       refine BE h (fun hc h=> ?_) (fun hc h=> ?_)
       ·try simp only [W,EE,reduceIte,Nat.reduceAdd,Nat.reduceBEq,hS.var 3 rfl,hS.var 4 rfl,hc]
        refine AE IP ?_;refine CC (s' :=(.ptr i0 w0 0 0::u::u::u:: .ptr FW FX 0 0::u::u::u::u::u::u::u::u::u::u::u::u::u::u::u::u::u::u::u::u::u::u::u::u::u::u::u::u::u::u::u::u::u::u::u::u::u::u::u::u::u::u::u::u::u::u::u::u::u::u::u::u::u::u::u::u::u::u::u::u::u::u::u::u::u::u::u::u::u::u::u::u::u::u::u::u::u::u::u::u::u::u::u::u::u::u::u::u::u::u::u::u:: .bool (a0.CZ==a1.Y)::u::u::u::u::u::u::u::u::u::u::u::u::u::u::u::u::u::u::u::u::u::u::u::u::u::u::u::u::u::u::u::u::u::u::u::u::u::u::u::u::u::u::u::u::u::u::u::u::u::u::u::u::u::u::u::u::u::u::u::u::u::u::u::u::[])) rfl ?_
        exact Bn J4 ⟨_,(Option.some.inj h).symm,rfl,(hS.BA 6 [0,1,2,3,5] (by decide))⟩
       ·try simp only [W,hc]
        refine AE IP ?_;refine CC (s' :=(.ptr i0 w0 0 0::u::u::u:: .ptr FW FX 0 0::u::u::u::u::u::u::u::u::u::u::u::u::u::u::u::u::u::u::u::u::u::u::u::u::u::u::u::u::u::u::u::u::u::u::u::u::u::u::u::u::u::u::u::u::u::u::u::u::u::u::u::u::u::u::u::u::u::u::u::u::u::u::u::u::u::u::u::u::u::u::u::u::u::u::u::u::u::u::u::u::u::u::u::u::u::u::u::u::u::u::u::u:: .bool false::u::u::u::u::u::u::u::u::u::u::u::u::u::u::u::u::u::u::u::u::u::u::u::u::u::u::u::u::u::u::u::u::u::u::u::u::u::u::u::u::u::u::u::u::u::u::u::u::u::u::u::u::u::u::u::u::u::u::u::u::u::u::u::u::[])) rfl ?_
        exact Bn J4 ⟨_,(Option.some.inj h).symm,rfl,(hS.BA 6 [0,1,2,3,5] (by decide))⟩
      ·try simp only [W,hc]
       refine AE IP ?_;refine CC (s' :=(.ptr i0 w0 0 0::u::u::u:: .ptr FW FX 0 0::u::u::u::u::u::u::u::u::u::u::u::u::u::u::u::u::u::u::u::u::u::u::u::u::u::u::u::u::u::u::u::u::u::u::u::u::u::u::u::u::u::u::u::u::u::u::u::u::u::u::u::u::u::u::u::u::u::u::u::u::u::u::u::u::u::u::u::u::u::u::u::u::u::u::u::u::u::u::u::u::u::u::u::u::u::u::u::u::u::u::u::u:: .bool false::u::u::u::u::u::u::u::u::u::u::u::u::u::u::u::u::u::u::u::u::u::u::u::u::u::u::u::u::u::u::u::u::u::u::u::u::u::u::u::u::u::u::u::u::u::u::u::u::u::u::u::u::u::u::u::u::u::u::u::u::u::u::u::u::[])) rfl ?_
       exact Bn J4 ⟨_,(Option.some.inj h).symm,rfl,(hS.BA 6 [0,1,2,3,5] (by decide))⟩
     ·obtain ⟨GL,Dg,rfl,hS⟩:=hq;obtain rfl:=Dg.symm;replace h:=WT;try dsimp only at h
      refine AE Hw ?_;refine AB ?_;simp only [W];refine AR h (fun hc h=> ?_) (fun hc h=> ?_)
      ·refine AS gC ?_;try simp only [W,EE,reduceIte,Nat.reduceAdd,Nat.reduceLeDiff,hS.var 4 rfl]
       refine Bh h fun Si WU h=> ?_;refine Pv WU (hS.BA 5 [3,0,1,2,4] (by decide)) EC E9 E_ fun G7 Rz SR Nx JN WV H hS=> ?_
       try simp only [W]
       refine AJ GY ?_;refine AJ Dp ?_;refine AQ C8 ?_;try obtain rfl:=Option.some.inj h
       exact hP _ Rz _ Nx _ WV _ (hS.BA 5 [0,1,2,3] (by decide))
      ·refine Ay ?_;refine AJ GY ?_;refine AJ Dp ?_;refine AQ C8 ?_;try obtain rfl:=Option.some.inj h
       exact hP _ EC _ E9 _ E_ _ (hS.BA 5 [3,0,1,2] (by decide))
  ·refine Aw fun S6 NI=> ?_;refine AS gC ?_;try simp only [W,EE,Nat.reduceAdd]
   refine AE NI ?_;refine AB ?_;simp only [W];refine AR h (fun hc h=> ?_) (fun hc h=> ?_)
   ·refine Aw fun QL Iu=> ?_;obtain ⟨WW,h,WX⟩:=Option.bind_eq_some_iff.1 h;refine Bm gC (fun s H=> ∃Ft:Bool,WW=(Ft)∧s=(.ptr i0 w0 0 0::u::u::u:: .ptr FW FX 0 0::u::u::u::u::u::u::u::u::u::u::u::u::u::u::u::u::u::u::u::u::u::u::u::u::u::u::u::u::u::u::u::u::u::u::u::u::u::u::u::u::u::u::u::u::u::u::u::u::u::u::u::u::u::u::u::u::u::u::u::u::u::u::u::u::u::u::u::u::u::u::u::u::u::u::u::u::u::u::u::u::u::u::u::u::u::u::u::u::u::u::u::u::u::u::u::u::u::u::u::u::u::u::u::u::u::u::u::u::u::u::u::u::u::u::u::u::u::u::u::u::u::u::u::u::u::u::u::u::u::u::u::u::u::u::u::u::u::u::u::u::u::u::u:: .bool Ft::u::u::u::u::u::u::u::u::u::u::u::u::u::[])∧ay H (⟨Dq,3,a0.C2.map CV⟩::⟨Dl,3,a0.C3.map CV⟩::⟨Dm,3,a0.C4.map CV⟩::⟨.ptr i0 w0 0 0,11,[.agg [.int .i64 a0.C0,.int .i64 a0.CY,.int .i64 a0.X,.int .i64 a0.Y,.int .i64 a0.C1,.int .i64 a0.CZ,.int .i64 a0.CW,.int .i64 a0.CX,Dq,Dl,Dm]]⟩::⟨.ptr FW FX 0 0,3,[.agg [.int .i64 3,.int .i64 a1.X,.int .i64 a1.Y]]⟩::F)) (fun OT Hn=> ?_) (fun s H hq=> ?_)
    ·refine Aw fun OU HV=> ?_;refine AU gC (by kernel_rfl) ?_
     try simp only [W,EE,Nat.reduceAdd,Nat.reduceBEq,hS.var 2 rfl]
     refine BE h (fun hc h=> ?_) (fun hc h=> ?_)
     ·try simp only [W,EE,reduceIte,Nat.reduceAdd,Nat.reduceBEq,hS.var 2 rfl,hS.var 1 rfl,hc]
      refine BE h (fun hc h=> ?_) (fun hc h=> ?_)
      ·try simp only [W,EE,reduceIte,Nat.reduceAdd,Nat.reduceBEq,hS.var 2 rfl,hS.var 1 rfl,hc]
       refine AE HV ?_;refine CC (s' :=(.ptr i0 w0 0 0::u::u::u:: .ptr FW FX 0 0::u::u::u::u::u::u::u::u::u::u::u::u::u::u::u::u::u::u::u::u::u::u::u::u::u::u::u::u::u::u::u::u::u::u::u::u::u::u::u::u::u::u::u::u::u::u::u::u::u::u::u::u::u::u::u::u::u::u::u::u::u::u::u::u::u::u::u::u::u::u::u::u::u::u::u::u::u::u::u::u::u::u::u::u::u::u::u::u::u::u::u::u::u::u::u::u::u::u::u::u::u::u::u::u::u::u::u::u::u::u::u::u::u::u::u::u::u::u::u::u::u::u::u::u::u::u::u::u::u::u::u::u::u::u::u::u::u::u::u::u::u::u::u:: .bool (a0.Y==a1.Y)::u::u::u::u::u::u::u::u::u::u::u::u::u::[])) rfl ?_
       exact Bn Hn ⟨_,(Option.some.inj h).symm,rfl,(hS.BA 6 [3,4,5,2,0] (by decide))⟩
      ·try simp only [W,hc]
       refine AE HV ?_;refine CC (s' :=(.ptr i0 w0 0 0::u::u::u:: .ptr FW FX 0 0::u::u::u::u::u::u::u::u::u::u::u::u::u::u::u::u::u::u::u::u::u::u::u::u::u::u::u::u::u::u::u::u::u::u::u::u::u::u::u::u::u::u::u::u::u::u::u::u::u::u::u::u::u::u::u::u::u::u::u::u::u::u::u::u::u::u::u::u::u::u::u::u::u::u::u::u::u::u::u::u::u::u::u::u::u::u::u::u::u::u::u::u::u::u::u::u::u::u::u::u::u::u::u::u::u::u::u::u::u::u::u::u::u::u::u::u::u::u::u::u::u::u::u::u::u::u::u::u::u::u::u::u::u::u::u::u::u::u::u::u::u::u::u:: .bool false::u::u::u::u::u::u::u::u::u::u::u::u::u::[])) rfl ?_
       exact Bn Hn ⟨_,(Option.some.inj h).symm,rfl,(hS.BA 6 [3,4,5,2,0] (by decide))⟩
     ·try simp only [W,hc]
      refine AE HV ?_;refine CC (s' :=(.ptr i0 w0 0 0::u::u::u:: .ptr FW FX 0 0::u::u::u::u::u::u::u::u::u::u::u::u::u::u::u::u::u::u::u::u::u::u::u::u::u::u::u::u::u::u::u::u::u::u::u::u::u::u::u::u::u::u::u::u::u::u::u::u::u::u::u::u::u::u::u::u::u::u::u::u::u::u::u::u::u::u::u::u::u::u::u::u::u::u::u::u::u::u::u::u::u::u::u::u::u::u::u::u::u::u::u::u::u::u::u::u::u::u::u::u::u::u::u::u::u::u::u::u::u::u::u::u::u::u::u::u::u::u::u::u::u::u::u::u::u::u::u::u::u::u::u::u::u::u::u::u::u::u::u::u::u::u::u:: .bool false::u::u::u::u::u::u::u::u::u::u::u::u::u::[])) rfl ?_
      exact Bn Hn ⟨_,(Option.some.inj h).symm,rfl,(hS.BA 6 [3,4,5,2,0] (by decide))⟩
    ·obtain ⟨Ft,Dg,rfl,hS⟩:=hq;obtain rfl:=Dg.symm;replace h:=WX;try dsimp only at h
     refine AE Iu ?_;refine AB ?_;simp only [W];refine AR h (fun hc h=> ?_) (fun hc h=> ?_)
     ·refine Aw fun O6 I0=> ?_;refine AS gC ?_;try simp only [W,EE,Nat.reduceAdd,Nat.reduceBEq,hS.var 3 rfl]
      refine A9 (a:= .int .i64 2) (y' := .agg [.int .i64 a0.C0,.int .i64 2,.int .i64 a0.X,.int .i64 a0.Y,.int .i64 a0.C1,.int .i64 a0.CZ,.int .i64 a0.CW,.int .i64 a0.CX,Dq,Dl,Dm]) 3 hS rfl rfl rfl rfl rfl rfl rfl rfl fun H hS=> ?_
      try simp only [W]
      refine AE I0 ?_;refine BG gC [(7,[0]),(10,[])] (by kernel_rfl) rfl (by kernel_rfl) ?_
      try simp only [W,EE,reduceIte,Nat.reduceAdd,Nat.reduceLeDiff,Nat.reduceBEq,hS.var 3 rfl,hS.var 4 rfl,iC,lh,Nat.reduceEqDiff]
      refine Bg (el:=([(⟨3,a1.X,a1.Y⟩:Hello)]:List Hello).map CV) hS rfl rfl rfl rfl rfl rfl rfl fun v59 H WY hS=> ?_;try simp only [W,EE]
      refine Bu (l:=a0.C4) (c:=CV) 3 hS rfl E_ rfl rfl rfl (hS.hI 0 rfl WY) (fun _=>rfl) rfl h fun TE H EY Px hm h hS=> ?_;refine BH ?_;refine BI (by first|rfl|(simp [aL,W,EE,EN,bN,jl,aG,AV.cells,hS.var 4 rfl,hS.var 5 rfl];done)) ?_
      refine BJ ?_;try simp only [W,EE,Nat.reduceAdd,Nat.reduceBEq,hS.var 4 rfl]
      refine A9 (a:=TE) (y' := .agg [.int .i64 a0.C0,.int .i64 2,.int .i64 a0.X,.int .i64 a0.Y,.int .i64 a0.C1,.int .i64 a0.CZ,.int .i64 a0.CW,.int .i64 a0.CX,Dq,Dl,TE]) 4 hS rfl rfl rfl rfl (by rw [Px.cells];rfl) Px.Bd (Px.wr _ _ (by simp)) rfl fun H hS=> ?_
      try simp only [W]
      refine AJ Dp ?_;refine AQ C8 ?_;try obtain rfl:=Option.some.inj h
      exact hP _ EC _ E9 _ Px _ (hS.BA 6 [4,1,2,3] (by decide))
     ·refine Ay ?_;refine AJ Dp ?_;refine AQ C8 ?_;try obtain rfl:=Option.some.inj h
      exact hP _ EC _ E9 _ E_ _ (hS.BA 5 [3,0,1,2] (by decide))
   ·refine Ay ?_;refine AJ Dp ?_;refine AQ C8 ?_;try obtain rfl:=Option.some.inj h
    exact hP _ EC _ E9 _ E_ _ (hS.BA 6 [2,3,4,5] (by decide))
theorem Py {a0:C5} {a1:Dc} {i0:Nat} {w0:Nat} {Dq:AV} {Dl:AV} {Dm:AV} {r:(Bool×C5)} (h:Jp a0 a1=some r) {F:List It} {H:J} (hS:ay H (⟨.ptr i0 w0 0 0,11,[.agg [.int .i64 a0.C0,.int .i64 a0.CY,.int .i64 a0.X,.int .i64 a0.Y,.int .i64 a0.C1,.int .i64 a0.CZ,.int .i64 a0.CW,.int .i64 a0.CX,Dq,Dl,Dm]]⟩::⟨Dq,3,a0.C2.map CV⟩::⟨Dl,3,a0.C3.map CV⟩::⟨Dm,3,a0.C4.map CV⟩::F)) (EC:bm Dq) (E9:bm Dl) (E_:bm Dm) {P:AV→J→Prop} (hP: ∀Ib:AV,bm Ib→ ∀Ic:AV,bm Ic→ ∀Ie:AV,bm Ie→ ∀H',ay H' (⟨.ptr i0 w0 0 0,11,[.agg [.int .i64 r.2.C0,.int .i64 r.2.CY,.int .i64 r.2.X,.int .i64 r.2.Y,.int .i64 r.2.C1,.int .i64 r.2.CZ,.int .i64 r.2.CW,.int .i64 r.2.CX,Ib,Ic,Ie]]⟩::⟨Ib,3,r.2.C2.map CV⟩::⟨Ic,3,r.2.C3.map CV⟩::⟨Ie,3,r.2.C4.map CV⟩::F)→P (.bool r.1) H'):au C 210 [.ptr i0 w0 0 0,.agg [.int .i64 a1.Kind,.int .i64 a1.K]] H P:=by
 refine AW gC (res:=[.tmp 4]) (n:=175) rfl rfl rfl rfl fun K0 C8=> ?_;simp only [W,Nat.reduceSub,Nat.reduceAdd,List.replicate];unfold Jp at h;refine Aw fun K1 Da=> ?_;refine AS gC ?_;try simp only [W,Nat.reduceAdd]
 refine A7 hS rfl rfl rfl rfl fun C6 C7 H hS=> ?_;try simp only [W]
 refine AE Da ?_;refine Aw fun K4 Df=> ?_;refine Aw fun K5 D7=> ?_;refine AS gC ?_;try simp only [W,EE,Nat.reduceAdd,Nat.reduceBEq,hS.var 0 rfl]
 refine AE D7 ?_;obtain ⟨Kt,h,g8⟩:=Option.bind_eq_some_iff.1 h;refine Bm gC (fun s H=>Kt=LR.next ()∧s=(.ptr i0 w0 0 0::u::u:: .ptr C6 C7 0 0::u::u::u::u::u::u::u::u::u::u::u::u::u::u::u::u::u::u::u::u::u::u::u::u::u::u::u::u::u::u::u::u::u::u::u::u::u::u::u::u::u::u::u::u::u::u::u::u::u::u::u::u::u::u::u::u::u::u::u::u::u::u::u::u::u::u::u::u::u::u::u::u::u::u::u::u::u::u::u::u::u::u::u::u::u::u::u::u::u::u::u::u::u::u::u::u::u::u::u::u::u::u::u::u::u::u::u::u::u::u::u::u::u::u::u::u::u::u::u::u::u::u::u::u::u::u::u::u::u::u::u::u::u::u::u::u::u::u::u::u::u::u::u::u::u::u::u::u::u::u::u::u::u::u::u::u::u::u::u::u::u::u::u::u::u::u::u::u::u::u::u::[])∧ay H (⟨Dq,3,a0.C2.map CV⟩::⟨Dl,3,a0.C3.map CV⟩::⟨Dm,3,a0.C4.map CV⟩::⟨.ptr i0 w0 0 0,11,[.agg [.int .i64 a0.C0,.int .i64 a0.CY,.int .i64 a0.X,.int .i64 a0.Y,.int .i64 a0.C1,.int .i64 a0.CZ,.int .i64 a0.CW,.int .i64 a0.CX,Dq,Dl,Dm]]⟩::⟨.ptr C6 C7 0 0,2,[.agg [.int .i64 a1.Kind,.int .i64 a1.K]]⟩::F)) (fun K9 Dy=> ?_) (fun s H hq=> ?_)
 ·refine Ax fun K6 Dx=> ?_;refine Aw fun HS DG=> ?_;refine Aw fun Js Fv=> ?_;refine AS gC ?_;try simp only [W,EE,Nat.reduceAdd]
  refine AE Fv ?_;obtain ⟨OY,h,Lg⟩:=Option.bind_eq_some_iff.1 h;refine Bm gC (fun s H=> ∃Ei:Bool,OY=(Ei)∧s=(.ptr i0 w0 0 0::u::u:: .ptr C6 C7 0 0::u::u::u:: .int .i64 a1.Kind:: .bool Ei::u::u::u::u::u::u::u::u::u::u::u::u::u::u::u::u::u::u::u::u::u::u::u::u::u::u::u::u::u::u::u::u::u::u::u::u::u::u::u::u::u::u::u::u::u::u::u::u::u::u::u::u::u::u::u::u::u::u::u::u::u::u::u::u::u::u::u::u::u::u::u::u::u::u::u::u::u::u::u::u::u::u::u::u::u::u::u::u::u::u::u::u::u::u::u::u::u::u::u::u::u::u::u::u::u::u::u::u::u::u::u::u::u::u::u::u::u::u::u::u::u::u::u::u::u::u::u::u::u::u::u::u::u::u::u::u::u::u::u::u::u::u::u::u::u::u::u::u::u::u::u::u::u::u::u::u::u::u::u::u::u::u::u::u::u::u::[])∧ay H (⟨Dq,3,a0.C2.map CV⟩::⟨Dl,3,a0.C3.map CV⟩::⟨Dm,3,a0.C4.map CV⟩::⟨.ptr i0 w0 0 0,11,[.agg [.int .i64 a0.C0,.int .i64 a0.CY,.int .i64 a0.X,.int .i64 a0.Y,.int .i64 a0.C1,.int .i64 a0.CZ,.int .i64 a0.CW,.int .i64 a0.CX,Dq,Dl,Dm]]⟩::⟨.ptr C6 C7 0 0,2,[.agg [.int .i64 a1.Kind,.int .i64 a1.K]]⟩::F)) (fun J2 FI=> ?_) (fun s H hq=> ?_)
  ·refine Aw fun Hk Ek=> ?_;refine AB ?_;simp only [W];refine AR h (fun hc h=> ?_) (fun hc h=> ?_)
   ·refine Ay ?_;refine AE Ek ?_;refine CC (s' :=(.ptr i0 w0 0 0::u::u:: .ptr C6 C7 0 0::u::u::u:: .int .i64 a1.Kind:: .bool (a1.Kind==1)::u::u::u::u::u::u::u::u::u::u::u::u::u::u::u::u::u::u::u::u::u::u::u::u::u::u::u::u::u::u::u::u::u::u::u::u::u::u::u::u::u::u::u::u::u::u::u::u::u::u::u::u::u::u::u::u::u::u::u::u::u::u::u::u::u::u::u::u::u::u::u::u::u::u::u::u::u::u::u::u::u::u::u::u::u::u::u::u::u::u::u::u::u::u::u::u::u::u::u::u::u::u::u::u::u::u::u::u::u::u::u::u::u::u::u::u::u::u::u::u::u::u::u::u::u::u::u::u::u::u::u::u::u::u::u::u::u::u::u::u::u::u::u::u::u::u::u::u::u::u::u::u::u::u::u::u::u::u::u::u::u::u::u::u::u::u::[])) rfl ?_
    exact Bn FI ⟨_,(Option.some.inj h).symm,rfl,(hS.BA 5 [2,3,4,1,0] (by decide))⟩
   ·refine AS gC ?_;try simp only [W,EE,Nat.reduceAdd]
    refine AE Ek ?_;refine CC (s' :=(.ptr i0 w0 0 0::u::u:: .ptr C6 C7 0 0::u::u::u:: .int .i64 a1.Kind:: .bool (a1.Kind==5)::u::u::u::u::u::u::u::u::u::u::u::u::u::u::u::u::u::u::u::u::u::u::u::u::u::u::u::u::u::u::u::u::u::u::u::u::u::u::u::u::u::u::u::u::u::u::u::u::u::u::u::u::u::u::u::u::u::u::u::u::u::u::u::u::u::u::u::u::u::u::u::u::u::u::u::u::u::u::u::u::u::u::u::u::u::u::u::u::u::u::u::u::u::u::u::u::u::u::u::u::u::u::u::u::u::u::u::u::u::u::u::u::u::u::u::u::u::u::u::u::u::u::u::u::u::u::u::u::u::u::u::u::u::u::u::u::u::u::u::u::u::u::u::u::u::u::u::u::u::u::u::u::u::u::u::u::u::u::u::u::u::u::u::u::u::u::[])) rfl ?_
    exact Bn FI ⟨_,(Option.some.inj h).symm,rfl,(hS.BA 5 [2,3,4,1,0] (by decide))⟩
  ·obtain ⟨Ei,Dg,rfl,hS⟩:=hq;obtain rfl:=Dg.symm;replace h:=Lg;try dsimp only at h
   refine AE DG ?_;obtain ⟨WZ,h,RA⟩:=Option.bind_eq_some_iff.1 h;refine Bm gC (fun s H=>WZ=LR.next ()∧s=(.ptr i0 w0 0 0::u::u:: .ptr C6 C7 0 0::u::u::u:: .int .i64 a1.Kind:: .bool Ei::u::u::u::u::u::u::u::u::u::u::u::u::u::u::u::u::u::u::u::u::u::u::u::u::u::u::u::u::u::u::u::u::u::u::u::u::u::u::u::u::u::u::u::u::u::u::u::u::u::u::u::u::u::u::u::u::u::u::u::u::u::u::u::u::u::u::u::u::u::u::u::u::u::u::u::u::u::u::u::u::u::u::u::u::u::u::u::u::u::u::u::u::u::u::u::u::u::u::u::u::u::u::u::u::u::u::u::u::u::u::u::u::u::u::u::u::u::u::u::u::u::u::u::u::u::u::u::u::u::u::u::u::u::u::u::u::u::u::u::u::u::u::u::u::u::u::u::u::u::u::u::u::u::u::u::u::u::u::u::u::u::u::u::u::u::u::[])∧ay H (⟨Dq,3,a0.C2.map CV⟩::⟨Dl,3,a0.C3.map CV⟩::⟨Dm,3,a0.C4.map CV⟩::⟨.ptr i0 w0 0 0,11,[.agg [.int .i64 a0.C0,.int .i64 a0.CY,.int .i64 a0.X,.int .i64 a0.Y,.int .i64 a0.C1,.int .i64 a0.CZ,.int .i64 a0.CW,.int .i64 a0.CX,Dq,Dl,Dm]]⟩::⟨.ptr C6 C7 0 0,2,[.agg [.int .i64 a1.Kind,.int .i64 a1.K]]⟩::F)) (fun Hl Es=> ?_) (fun s H hq=> ?_)
   ·refine Aw fun J9 FK=> ?_;refine AB ?_;simp only [W];refine AR h (fun hc h=> ?_) (fun hc h=> ?_)
    ·refine Aw fun IU E8=> ?_;refine AS gC ?_;try simp only [W,EE,Nat.reduceAdd,Nat.reduceBEq,hS.var 4 rfl]
     refine AE E8 ?_;refine AB ?_;simp only [W];refine AR h (fun hc h=> ?_) (fun hc h=> ?_)
     ·refine Aw fun Ik E0=> ?_;refine AS gC ?_;try simp only [W,Nat.reduceAdd]
      refine AE E0 ?_;refine Az ?_;refine AF FK ?_;try obtain rfl:=Option.some.inj h
      obtain rfl:=Option.some.inj RA;have h:(some (LR.done (false,a0)):Option (LR Unit (Bool×C5)))=some (LR.done (false,a0)):=rfl;refine Bo Es ?_;refine AM Dx ?_;try obtain rfl:=Option.some.inj h
      obtain rfl:=Option.some.inj g8;have h:(some (false,a0):Option (Bool×C5))=some (false,a0):=rfl;refine Bo Dy ?_;refine AF Df ?_;refine AO C8 rfl ?_;try obtain rfl:=Option.some.inj h
      exact hP _ EC _ E9 _ E_ _ (hS.BA 5 [3,0,1,2] (by decide))
     ·refine Ay ?_;refine AE FK ?_;refine CC (s' :=(.ptr i0 w0 0 0::u::u:: .ptr C6 C7 0 0::u::u::u:: .int .i64 a1.Kind:: .bool Ei::u::u::u::u::u::u::u::u::u::u::u::u::u::u::u::u::u::u::u::u::u::u::u::u::u::u::u::u::u::u::u::u::u::u::u::u::u::u::u::u::u::u::u::u::u::u::u::u::u::u::u::u::u::u::u::u::u::u::u::u::u::u::u::u::u::u::u::u::u::u::u::u::u::u::u::u::u::u::u::u::u::u::u::u::u::u::u::u::u::u::u::u::u::u::u::u::u::u::u::u::u::u::u::u::u::u::u::u::u::u::u::u::u::u::u::u::u::u::u::u::u::u::u::u::u::u::u::u::u::u::u::u::u::u::u::u::u::u::u::u::u::u::u::u::u::u::u::u::u::u::u::u::u::u::u::u::u::u::u::u::u::u::u::u::u::u::[])) rfl ?_
      exact Bn Es ⟨(Option.some.inj h).symm,rfl,hS⟩
    ·refine Aw fun NR G6=> ?_;refine Aw fun NP G5=> ?_;refine AS gC ?_;try simp only [W,EE,Nat.reduceAdd]
     refine AE G5 ?_;obtain ⟨W0,h,W1⟩:=Option.bind_eq_some_iff.1 h;refine Bm gC (fun s H=> ∃DS:Bool,W0=(DS)∧s=(.ptr i0 w0 0 0::u::u:: .ptr C6 C7 0 0::u::u::u:: .int .i64 a1.Kind:: .bool Ei::u::u::u::u::u:: .bool DS::u::u::u::u::u::u::u::u::u::u::u::u::u::u::u::u::u::u::u::u::u::u::u::u::u::u::u::u::u::u::u::u::u::u::u::u::u::u::u::u::u::u::u::u::u::u::u::u::u::u::u::u::u::u::u::u::u::u::u::u::u::u::u::u::u::u::u::u::u::u::u::u::u::u::u::u::u::u::u::u::u::u::u::u::u::u::u::u::u::u::u::u::u::u::u::u::u::u::u::u::u::u::u::u::u::u::u::u::u::u::u::u::u::u::u::u::u::u::u::u::u::u::u::u::u::u::u::u::u::u::u::u::u::u::u::u::u::u::u::u::u::u::u::u::u::u::u::u::u::u::u::u::u::u::u::u::u::u::u::u::[])∧ay H (⟨Dq,3,a0.C2.map CV⟩::⟨Dl,3,a0.C3.map CV⟩::⟨Dm,3,a0.C4.map CV⟩::⟨.ptr i0 w0 0 0,11,[.agg [.int .i64 a0.C0,.int .i64 a0.CY,.int .i64 a0.X,.int .i64 a0.Y,.int .i64 a0.C1,.int .i64 a0.CZ,.int .i64 a0.CW,.int .i64 a0.CX,Dq,Dl,Dm]]⟩::⟨.ptr C6 C7 0 0,2,[.agg [.int .i64 a1.Kind,.int .i64 a1.K]]⟩::F)) (fun QC IW=> ?_) (fun s H hq=> ?_)
     ·refine Aw fun O0 Hs=> ?_;refine AB ?_;simp only [W];refine AR h (fun hc h=> ?_) (fun hc h=> ?_)
      ·refine Ay ?_;refine AE Hs ?_;refine CC (s' :=(.ptr i0 w0 0 0::u::u:: .ptr C6 C7 0 0::u::u::u:: .int .i64 a1.Kind:: .bool Ei::u::u::u::u::u:: .bool (a1.Kind==2)::u::u::u::u::u::u::u::u::u::u::u::u::u::u::u::u::u::u::u::u::u::u::u::u::u::u::u::u::u::u::u::u::u::u::u::u::u::u::u::u::u::u::u::u::u::u::u::u::u::u::u::u::u::u::u::u::u::u::u::u::u::u::u::u::u::u::u::u::u::u::u::u::u::u::u::u::u::u::u::u::u::u::u::u::u::u::u::u::u::u::u::u::u::u::u::u::u::u::u::u::u::u::u::u::u::u::u::u::u::u::u::u::u::u::u::u::u::u::u::u::u::u::u::u::u::u::u::u::u::u::u::u::u::u::u::u::u::u::u::u::u::u::u::u::u::u::u::u::u::u::u::u::u::u::u::u::u::u::u::u::[])) rfl ?_
       exact Bn IW ⟨_,(Option.some.inj h).symm,rfl,hS⟩
      ·refine Aw fun J_ F7=> ?_;refine AS gC ?_;try simp only [W,EE,Nat.reduceAdd]
       refine AE F7 ?_;obtain ⟨J3,h,ND⟩:=Option.bind_eq_some_iff.1 h;refine Bm gC (fun s H=> ∃Dt:Bool,J3=(Dt)∧s=(.ptr i0 w0 0 0::u::u:: .ptr C6 C7 0 0::u::u::u:: .int .i64 a1.Kind:: .bool Ei::u::u::u::u::u:: .bool Dt::u::u::u::u::u::u::u::u::u::u::u::u::u::u::u::u::u::u::u::u::u::u::u::u::u::u::u::u::u::u::u::u::u::u::u::u::u::u::u::u::u::u::u::u::u::u::u::u::u::u::u::u::u::u::u::u::u::u::u::u::u::u::u::u::u::u::u::u::u::u::u::u::u::u::u::u::u::u::u::u::u::u::u::u::u::u::u::u::u::u::u::u::u::u::u::u::u::u::u::u::u::u::u::u::u::u::u::u::u::u::u::u::u::u::u::u::u::u::u::u::u::u::u::u::u::u::u::u::u::u::u::u::u::u::u::u::u::u::u::u::u::u::u::u::u::u::u::u::u::u::u::u::u::u::u::u::u::u::u::u::[])∧ay H (⟨Dq,3,a0.C2.map CV⟩::⟨Dl,3,a0.C3.map CV⟩::⟨Dm,3,a0.C4.map CV⟩::⟨.ptr i0 w0 0 0,11,[.agg [.int .i64 a0.C0,.int .i64 a0.CY,.int .i64 a0.X,.int .i64 a0.Y,.int .i64 a0.C1,.int .i64 a0.CZ,.int .i64 a0.CW,.int .i64 a0.CX,Dq,Dl,Dm]]⟩::⟨.ptr C6 C7 0 0,2,[.agg [.int .i64 a1.Kind,.int .i64 a1.K]]⟩::F)) (fun Lc FQ=> ?_) (fun s H hq=> ?_)
       ·refine Aw fun Nw GC=> ?_;refine AB ?_;simp only [W];refine AR h (fun hc h=> ?_) (fun hc h=> ?_)
        ·refine Ay ?_;refine AE GC ?_;refine CC (s' :=(.ptr i0 w0 0 0::u::u:: .ptr C6 C7 0 0::u::u::u:: .int .i64 a1.Kind:: .bool Ei::u::u::u::u::u:: .bool (a1.Kind==3)::u::u::u::u::u::u::u::u::u::u::u::u::u::u::u::u::u::u::u::u::u::u::u::u::u::u::u::u::u::u::u::u::u::u::u::u::u::u::u::u::u::u::u::u::u::u::u::u::u::u::u::u::u::u::u::u::u::u::u::u::u::u::u::u::u::u::u::u::u::u::u::u::u::u::u::u::u::u::u::u::u::u::u::u::u::u::u::u::u::u::u::u::u::u::u::u::u::u::u::u::u::u::u::u::u::u::u::u::u::u::u::u::u::u::u::u::u::u::u::u::u::u::u::u::u::u::u::u::u::u::u::u::u::u::u::u::u::u::u::u::u::u::u::u::u::u::u::u::u::u::u::u::u::u::u::u::u::u::u::u::[])) rfl ?_
         exact Bn FQ ⟨_,(Option.some.inj h).symm,rfl,hS⟩
        ·refine AS gC ?_;try simp only [W,EE,Nat.reduceAdd]
         refine AE GC ?_;refine CC (s' :=(.ptr i0 w0 0 0::u::u:: .ptr C6 C7 0 0::u::u::u:: .int .i64 a1.Kind:: .bool Ei::u::u::u::u::u:: .bool (a1.Kind==4)::u::u::u::u::u::u::u::u::u::u::u::u::u::u::u::u::u::u::u::u::u::u::u::u::u::u::u::u::u::u::u::u::u::u::u::u::u::u::u::u::u::u::u::u::u::u::u::u::u::u::u::u::u::u::u::u::u::u::u::u::u::u::u::u::u::u::u::u::u::u::u::u::u::u::u::u::u::u::u::u::u::u::u::u::u::u::u::u::u::u::u::u::u::u::u::u::u::u::u::u::u::u::u::u::u::u::u::u::u::u::u::u::u::u::u::u::u::u::u::u::u::u::u::u::u::u::u::u::u::u::u::u::u::u::u::u::u::u::u::u::u::u::u::u::u::u::u::u::u::u::u::u::u::u::u::u::u::u::u::u::[])) rfl ?_
         exact Bn FQ ⟨_,(Option.some.inj h).symm,rfl,hS⟩
       ·obtain ⟨Dt,Dg,rfl,hS⟩:=hq;obtain rfl:=Dg.symm;replace h:=ND;try dsimp only at h
        refine AE Hs ?_;refine CC (s' :=(.ptr i0 w0 0 0::u::u:: .ptr C6 C7 0 0::u::u::u:: .int .i64 a1.Kind:: .bool Ei::u::u::u::u::u:: .bool Dt::u::u::u::u::u::u::u::u::u::u::u::u::u::u::u::u::u::u::u::u::u::u::u::u::u::u::u::u::u::u::u::u::u::u::u::u::u::u::u::u::u::u::u::u::u::u::u::u::u::u::u::u::u::u::u::u::u::u::u::u::u::u::u::u::u::u::u::u::u::u::u::u::u::u::u::u::u::u::u::u::u::u::u::u::u::u::u::u::u::u::u::u::u::u::u::u::u::u::u::u::u::u::u::u::u::u::u::u::u::u::u::u::u::u::u::u::u::u::u::u::u::u::u::u::u::u::u::u::u::u::u::u::u::u::u::u::u::u::u::u::u::u::u::u::u::u::u::u::u::u::u::u::u::u::u::u::u::u::u::u::[])) rfl ?_
        exact Bn IW ⟨_,(Option.some.inj h).symm,rfl,hS⟩
     ·obtain ⟨DS,Dg,rfl,hS⟩:=hq;obtain rfl:=Dg.symm;replace h:=W1;try dsimp only at h
      refine AE G6 ?_;obtain ⟨Rs,h,Pt⟩:=Option.bind_eq_some_iff.1 h;refine Bm gC (fun s H=>Rs=LR.next ()∧s=(.ptr i0 w0 0 0::u::u:: .ptr C6 C7 0 0::u::u::u:: .int .i64 a1.Kind:: .bool Ei::u::u::u::u::u:: .bool DS::u::u::u::u::u::u::u::u::u::u::u::u::u::u::u::u::u::u::u::u::u::u::u::u::u::u::u::u::u::u::u::u::u::u::u::u::u::u::u::u::u::u::u::u::u::u::u::u::u::u::u::u::u::u::u::u::u::u::u::u::u::u::u::u::u::u::u::u::u::u::u::u::u::u::u::u::u::u::u::u::u::u::u::u::u::u::u::u::u::u::u::u::u::u::u::u::u::u::u::u::u::u::u::u::u::u::u::u::u::u::u::u::u::u::u::u::u::u::u::u::u::u::u::u::u::u::u::u::u::u::u::u::u::u::u::u::u::u::u::u::u::u::u::u::u::u::u::u::u::u::u::u::u::u::u::u::u::u::u::u::[])∧ay H (⟨Dq,3,a0.C2.map CV⟩::⟨Dl,3,a0.C3.map CV⟩::⟨Dm,3,a0.C4.map CV⟩::⟨.ptr i0 w0 0 0,11,[.agg [.int .i64 a0.C0,.int .i64 a0.CY,.int .i64 a0.X,.int .i64 a0.Y,.int .i64 a0.C1,.int .i64 a0.CZ,.int .i64 a0.CW,.int .i64 a0.CX,Dq,Dl,Dm]]⟩::⟨.ptr C6 C7 0 0,2,[.agg [.int .i64 a1.Kind,.int .i64 a1.K]]⟩::F)) (fun Rt Ia=> ?_) (fun s H hq=> ?_)
      ·refine Aw fun Tz JM=> ?_;refine AB ?_;simp only [W];refine AR h (fun hc h=> ?_) (fun hc h=> ?_)
       ·refine Aw fun U4 OP=> ?_;refine AU gC (by kernel_rfl) ?_
        try simp only [W,EE,Nat.reduceAdd,Nat.reduceBEq,hS.var 3 rfl,hS.var 4 rfl]
        refine Be 0 hS rfl EC rfl ?_;try simp only [W,EE]
        refine B8 (bO:=[[.sc]]) (ys:=[.int .i64 a1.K,.int .i64 0,.int .i64 (IntKind.i64.wrap ((a0.C2.length:Int)-1))]) h rfl (by rfl) fun F6 RB h=>⟨.bool F6,IC RB (ay.nil _) fun H hS=>B1 rfl (BY rfl (BX rfl)),⟨rfl,rfl,fun _=>rfl⟩,?_⟩
        try simp only [W]
        refine AE OP ?_;refine AB ?_;simp only [W];refine AR h (fun hc h=> ?_) (fun hc h=> ?_)
        ·refine Aw fun Qr IP=> ?_;refine AS gC ?_;try simp only [W,Nat.reduceAdd]
         refine AE IP ?_;refine Az ?_;refine AF JM ?_;try obtain rfl:=Option.some.inj h
         obtain rfl:=Option.some.inj Pt;have h:(some (LR.done (LR.done (false,a0))):Option (LR Unit (LR Unit (Bool×C5))))=some (LR.done (LR.done (false,a0))):=rfl;refine Bo Ia ?_;refine AF FK ?_;try obtain rfl:=Option.some.inj h
         obtain rfl:=Option.some.inj RA;have h:(some (LR.done (false,a0)):Option (LR Unit (Bool×C5)))=some (LR.done (false,a0)):=rfl;refine Bo Es ?_;refine AM Dx ?_;try obtain rfl:=Option.some.inj h
         obtain rfl:=Option.some.inj g8;have h:(some (false,a0):Option (Bool×C5))=some (false,a0):=rfl;refine Bo Dy ?_;refine AF Df ?_;refine AO C8 rfl ?_;try obtain rfl:=Option.some.inj h
         exact hP _ EC _ E9 _ E_ _ (hS.BA 5 [3,0,1,2] (by decide))
        ·refine Ay ?_;refine AE JM ?_;refine CC (s' :=(.ptr i0 w0 0 0::u::u:: .ptr C6 C7 0 0::u::u::u:: .int .i64 a1.Kind:: .bool Ei::u::u::u::u::u:: .bool DS::u::u::u::u::u::u::u::u::u::u::u::u::u::u::u::u::u::u::u::u::u::u::u::u::u::u::u::u::u::u::u::u::u::u::u::u::u::u::u::u::u::u::u::u::u::u::u::u::u::u::u::u::u::u::u::u::u::u::u::u::u::u::u::u::u::u::u::u::u::u::u::u::u::u::u::u::u::u::u::u::u::u::u::u::u::u::u::u::u::u::u::u::u::u::u::u::u::u::u::u::u::u::u::u::u::u::u::u::u::u::u::u::u::u::u::u::u::u::u::u::u::u::u::u::u::u::u::u::u::u::u::u::u::u::u::u::u::u::u::u::u::u::u::u::u::u::u::u::u::u::u::u::u::u::u::u::u::u::u::u::[])) rfl ?_
         exact Bn Ia ⟨(Option.some.inj h).symm,rfl,hS⟩
       ·refine Ay ?_;refine AE JM ?_;refine CC (s' :=(.ptr i0 w0 0 0::u::u:: .ptr C6 C7 0 0::u::u::u:: .int .i64 a1.Kind:: .bool Ei::u::u::u::u::u:: .bool DS::u::u::u::u::u::u::u::u::u::u::u::u::u::u::u::u::u::u::u::u::u::u::u::u::u::u::u::u::u::u::u::u::u::u::u::u::u::u::u::u::u::u::u::u::u::u::u::u::u::u::u::u::u::u::u::u::u::u::u::u::u::u::u::u::u::u::u::u::u::u::u::u::u::u::u::u::u::u::u::u::u::u::u::u::u::u::u::u::u::u::u::u::u::u::u::u::u::u::u::u::u::u::u::u::u::u::u::u::u::u::u::u::u::u::u::u::u::u::u::u::u::u::u::u::u::u::u::u::u::u::u::u::u::u::u::u::u::u::u::u::u::u::u::u::u::u::u::u::u::u::u::u::u::u::u::u::u::u::u::u::[])) rfl ?_
        exact Bn Ia ⟨(Option.some.inj h).symm,rfl,hS⟩
      ·obtain ⟨rfl,rfl,hS⟩:=hq;replace h:=Pt;try dsimp only at h
       refine AE FK ?_;refine CC (s' :=(.ptr i0 w0 0 0::u::u:: .ptr C6 C7 0 0::u::u::u:: .int .i64 a1.Kind:: .bool Ei::u::u::u::u::u::u::u::u::u::u::u::u::u::u::u::u::u::u::u::u::u::u::u::u::u::u::u::u::u::u::u::u::u::u::u::u::u::u::u::u::u::u::u::u::u::u::u::u::u::u::u::u::u::u::u::u::u::u::u::u::u::u::u::u::u::u::u::u::u::u::u::u::u::u::u::u::u::u::u::u::u::u::u::u::u::u::u::u::u::u::u::u::u::u::u::u::u::u::u::u::u::u::u::u::u::u::u::u::u::u::u::u::u::u::u::u::u::u::u::u::u::u::u::u::u::u::u::u::u::u::u::u::u::u::u::u::u::u::u::u::u::u::u::u::u::u::u::u::u::u::u::u::u::u::u::u::u::u::u::u::u::u::u::u::u::u::[])) rfl ?_
       exact Bn Es ⟨(Option.some.inj h).symm,rfl,hS⟩
   ·obtain ⟨rfl,rfl,hS⟩:=hq;replace h:=RA;try dsimp only at h
    refine AI Dx ?_;exact Bn Dy ⟨(Option.some.inj h).symm,rfl,hS⟩
 ·obtain ⟨rfl,rfl,hS⟩:=hq;replace h:=g8;try dsimp only at h
  refine AE Df ?_;refine Aw fun QM Hz=> ?_;refine Aw fun NE GD=> ?_;refine AS gC ?_;try simp only [W,EE,Nat.reduceAdd,Nat.reduceBEq,hS.var 4 rfl]
  refine AE GD ?_;obtain ⟨RC,h,JO⟩:=Option.bind_eq_some_iff.1 h;refine Bm gC (fun s H=> ∃FC:Int,∃Ff:Int,∃Gz:Int,∃EU:Int,∃DR:Int,∃EY:Int,∃Ej:Int,∃Fk:Int,∃EI:List Hello,∃Fu:List Hello,∃Ev:List Hello,RC=LR.next (FC,Ff,Gz,EU,DR,EY,Ej,Fk,EI,Fu,Ev)∧ ∃Ir:AV,bm Ir∧ ∃Ka:AV,bm Ka∧ ∃I8:AV,bm I8∧s=(.ptr i0 w0 0 0::u::u::u::u::u::u::u::u::u::u::u::u::u::u::u::u::u::u::u::u::u::u::u::u::u::u::u::u::u::u::u::u::u::u::u::u::u::u::u::u::u::u::u::u::u::u::u::u::u::u::u::u::u::u::u::u::u::u::u::u::u::u::u::u::u::u::u::u::u::u::u::u::u::u::u::u::u::u::u::u::u::u::u::u::u::u::u::u::u::u::u::u::u::u::u::u::u::u::u::u::u::u::u::u::u::u::u::u::u::u::u::u::u::u::u::u::u::u::u::u::u::u::u::u::u::u::u::u::u::u::u::u::u::u::u::u::u::u::u::u::u::u::u::u::u::u::u::u::u::u::u::u::u::u::u::u::u::u::u::u::u::u::u::u::u::u::u::u::u::u::u::u::u::u::[])∧ay H (⟨Ir,3,EI.map CV⟩::⟨Ka,3,Fu.map CV⟩::⟨I8,3,Ev.map CV⟩::⟨.ptr i0 w0 0 0,11,[.agg [.int .i64 FC,.int .i64 Ff,.int .i64 Gz,.int .i64 EU,.int .i64 DR,.int .i64 EY,.int .i64 Ej,.int .i64 Fk,Ir,Ka,I8]]⟩::F)) (fun W2 GK=> ?_) (fun s H hq=> ?_)
  ·refine Ax fun O1 F9=> ?_;refine Aw fun O8 Ga=> ?_;refine AS gC ?_;try simp only [W,EE,Nat.reduceAdd]
   refine AE Ga ?_;obtain ⟨W3,h,LO⟩:=Option.bind_eq_some_iff.1 h;refine Bm gC (fun s H=> ∃FA:Int,∃DV:Int,∃FF:Int,∃D0:Int,∃EV:Int,∃E6:Int,∃F4:Int,∃Ng:Int,∃HO:List Hello,∃Jf:List Hello,∃Nh:List Hello,W3=LR.next (FA,DV,FF,D0,EV,E6,F4,Ng,HO,Jf,Nh)∧ ∃GZ:AV,bm GZ∧ ∃NA:AV,bm NA∧ ∃Kv:AV,bm Kv∧s=(.ptr i0 w0 0 0::u::u::u::u::u::u::u::u::u::u::u::u::u::u::u::u::u::u::u::u::u::u::u::u::u::u::u::u::u::u::u::u::u::u::u::u::u::u::u::u::u::u::u::u::u::u::u::u::u::u::u::u::u::u::u::u::u::u::u::u::u::u::u::u::u::u::u::u::u::u::u::u::u::u::u::u::u::u::u::u::u::u::u::u::u::u::u::u::u::u::u::u::u::u::u::u::u::u::u::u::u::u::u::u::u::u::u::u::u::u::u::u::u::u::u::u::u::u::u::u::u::u::u::u::u::u::u::u::u::u::u::u::u::u::u::u::u::u::u::u::u::u::u::u::u::u::u::u::u::u::u::u::u::u::u::u::u::u::u::u::u::u::u::u::u::u::u::u::u::u::u::u::u::u::[])∧ay H (⟨GZ,3,HO.map CV⟩::⟨NA,3,Jf.map CV⟩::⟨Kv,3,Nh.map CV⟩::⟨.ptr i0 w0 0 0,11,[.agg [.int .i64 FA,.int .i64 DV,.int .i64 FF,.int .i64 D0,.int .i64 EV,.int .i64 E6,.int .i64 F4,.int .i64 Ng,GZ,NA,Kv]]⟩::F)) (fun Vc IS=> ?_) (fun s H hq=> ?_)
   ·refine Aw fun Tl H8=> ?_;refine AB ?_;simp only [W];refine AR h (fun hc h=> ?_) (fun hc h=> ?_)
    ·refine Aw fun K93 TF=> ?_;refine Aw fun W4 RD=> ?_;refine AS gC ?_;try simp only [W,EE,Nat.reduceAdd,Nat.reduceBEq,hS.var 3 rfl]
     refine AE RD ?_;refine AB ?_;simp only [W];refine AR h (fun hc h=> ?_) (fun hc h=> ?_)
     ·refine Aw fun QT JG=> ?_;refine AS gC ?_;try simp only [W,Nat.reduceAdd]
      refine AE JG ?_;refine Az ?_;refine AF TF ?_;refine AF H8 ?_;try obtain rfl:=Option.some.inj h
      obtain rfl:=Option.some.inj LO;have h:(some (LR.done (false,a0)):Option (LR (Int×Int×Int×Int×Int×Int×Int×Int×(List Hello)×(List Hello)×(List Hello)) (Bool×C5)))=some (LR.done (false,a0)):=rfl;refine Bo IS ?_;refine AM F9 ?_;try obtain rfl:=Option.some.inj h
      obtain rfl:=Option.some.inj JO;have h:(some (false,a0):Option (Bool×C5))=some (false,a0):=rfl;refine Bo GK ?_;refine AF Hz ?_;refine AO C8 rfl ?_;try obtain rfl:=Option.some.inj h
      exact hP _ EC _ E9 _ E_ _ (hS.BA 5 [3,0,1,2] (by decide))
     ·refine Ay ?_;refine AE TF ?_;refine Aw fun aaU W5=> ?_;refine AS gC ?_;try simp only [W,EE,Nat.reduceAdd,Nat.reduceBEq,hS.var 3 rfl]
      refine A9 (a:= .int .i64 (IntKind.i64.wrap (a0.CW+1))) (y' := .agg [.int .i64 a0.C0,.int .i64 a0.CY,.int .i64 a0.X,.int .i64 a0.Y,.int .i64 a0.C1,.int .i64 a0.CZ,.int .i64 (IntKind.i64.wrap (a0.CW+1)),.int .i64 a0.CX,Dq,Dl,Dm]) 3 hS rfl rfl rfl rfl rfl rfl rfl rfl fun H hS=> ?_
      try simp only [W]
      refine AE W5 ?_;refine Aw fun aaV W6=> ?_;refine AS gC ?_;try simp only [W,EE,Nat.reduceAdd,Nat.reduceBEq,hS.var 3 rfl]
      refine A9 (a:= .int .i64 1) (y' := .agg [.int .i64 1,.int .i64 a0.CY,.int .i64 a0.X,.int .i64 a0.Y,.int .i64 a0.C1,.int .i64 a0.CZ,.int .i64 (IntKind.i64.wrap (a0.CW+1)),.int .i64 a0.CX,Dq,Dl,Dm]) 3 hS rfl rfl rfl rfl rfl rfl rfl rfl fun H hS=> ?_
      try simp only [W,EE,Nat.reduceAdd,Nat.reduceBEq,hS.var 3 rfl]
      refine A9 (a:= .int .i64 (IntKind.i64.wrap (a0.CW+1))) (y' := .agg [.int .i64 1,.int .i64 a0.CY,.int .i64 (IntKind.i64.wrap (a0.CW+1)),.int .i64 a0.Y,.int .i64 a0.C1,.int .i64 a0.CZ,.int .i64 (IntKind.i64.wrap (a0.CW+1)),.int .i64 a0.CX,Dq,Dl,Dm]) 3 hS rfl rfl rfl rfl rfl rfl rfl rfl fun H hS=> ?_
      try simp only [W,EE,Nat.reduceAdd,Nat.reduceBEq,hS.var 3 rfl]
      refine A9 (a:= .int .i64 0) (y' := .agg [.int .i64 1,.int .i64 a0.CY,.int .i64 (IntKind.i64.wrap (a0.CW+1)),.int .i64 a0.Y,.int .i64 a0.C1,.int .i64 0,.int .i64 (IntKind.i64.wrap (a0.CW+1)),.int .i64 a0.CX,Dq,Dl,Dm]) 3 hS rfl rfl rfl rfl rfl rfl rfl rfl fun H hS=> ?_
      try simp only [W]
      refine AE W6 ?_;refine AS gC ?_;try simp only [W,EE,Nat.reduceAdd,Nat.reduceBEq,hS.var 3 rfl]
      refine BF rfl rfl rfl rfl rfl ?_;try simp only [W]
      refine Bh h fun F0 W7 h=> ?_;refine Pv W7 (hS.BA 5 [3,0,1,2,4] (by decide)) EC E9 E_ fun aaW W8 Pa Lt aaX W9 H hS=> ?_
      try simp only [W]
      refine AE H8 ?_;refine CC (s' :=(.ptr i0 w0 0 0::u::u::u::u::u::u::u::u::u::u::u::u::u::u::u::u::u::u::u::u::u::u::u::u::u::u::u::u::u::u::u::u::u::u::u::u::u::u::u::u::u::u::u::u::u::u::u::u::u::u::u::u::u::u::u::u::u::u::u::u::u::u::u::u::u::u::u::u::u::u::u::u::u::u::u::u::u::u::u::u::u::u::u::u::u::u::u::u::u::u::u::u::u::u::u::u::u::u::u::u::u::u::u::u::u::u::u::u::u::u::u::u::u::u::u::u::u::u::u::u::u::u::u::u::u::u::u::u::u::u::u::u::u::u::u::u::u::u::u::u::u::u::u::u::u::u::u::u::u::u::u::u::u::u::u::u::u::u::u::u::u::u::u::u::u::u::u::u::u::u::u::u::u::u::[])) rfl ?_
      exact Bn IS ⟨_,_,_,_,_,_,_,_,_,_,_,(Option.some.inj h).symm,_,W8,_,Lt,_,W9,rfl,(hS.BA 5 [1,2,3,0] (by decide))⟩
    ·refine Aw fun W_ RE=> ?_;refine Aw fun VX Ra=> ?_;refine AS gC ?_;try simp only [W,EE,Nat.reduceAdd]
     refine AE Ra ?_;obtain ⟨Xa,h,Xb⟩:=Option.bind_eq_some_iff.1 h;refine Bm gC (fun s H=> ∃D6:Bool,Xa=(D6)∧s=(.ptr i0 w0 0 0::u::u:: .ptr C6 C7 0 0::u::u::u::u::u::u::u::u::u::u::u::u::u::u::u::u::u::u::u::u::u::u::u::u::u:: .int .i64 a1.Kind::u::u::u::u::u::u::u::u::u::u::u::u::u::u::u::u::u::u::u::u::u::u::u::u::u::u::u::u::u::u::u::u::u::u:: .bool D6::u::u::u::u::u::u::u::u::u::u::u::u::u::u::u::u::u::u::u::u::u::u::u::u::u::u::u::u::u::u::u::u::u::u::u::u::u::u::u::u::u::u::u::u::u::u::u::u::u::u::u::u::u::u::u::u::u::u::u::u::u::u::u::u::u::u::u::u::u::u::u::u::u::u::u::u::u::u::u::u::u::u::u::u::u::u::u::u::u::u::u::u::u::u::u::u::u::u::u::u::u::u::u::u::u::u::u::u::u::u::[])∧ay H (⟨Dq,3,a0.C2.map CV⟩::⟨Dl,3,a0.C3.map CV⟩::⟨Dm,3,a0.C4.map CV⟩::⟨.ptr i0 w0 0 0,11,[.agg [.int .i64 a0.C0,.int .i64 a0.CY,.int .i64 a0.X,.int .i64 a0.Y,.int .i64 a0.C1,.int .i64 a0.CZ,.int .i64 a0.CW,.int .i64 a0.CX,Dq,Dl,Dm]]⟩::⟨.ptr C6 C7 0 0,2,[.agg [.int .i64 a1.Kind,.int .i64 a1.K]]⟩::F)) (fun Tb Lu=> ?_) (fun s H hq=> ?_)
     ·refine Aw fun aaY TG=> ?_;refine AB ?_;simp only [W];refine AR h (fun hc h=> ?_) (fun hc h=> ?_)
      ·refine Ay ?_;refine AE TG ?_;refine CC (s' :=(.ptr i0 w0 0 0::u::u:: .ptr C6 C7 0 0::u::u::u::u::u::u::u::u::u::u::u::u::u::u::u::u::u::u::u::u::u::u::u::u::u:: .int .i64 a1.Kind::u::u::u::u::u::u::u::u::u::u::u::u::u::u::u::u::u::u::u::u::u::u::u::u::u::u::u::u::u::u::u::u::u::u:: .bool (a1.Kind==2)::u::u::u::u::u::u::u::u::u::u::u::u::u::u::u::u::u::u::u::u::u::u::u::u::u::u::u::u::u::u::u::u::u::u::u::u::u::u::u::u::u::u::u::u::u::u::u::u::u::u::u::u::u::u::u::u::u::u::u::u::u::u::u::u::u::u::u::u::u::u::u::u::u::u::u::u::u::u::u::u::u::u::u::u::u::u::u::u::u::u::u::u::u::u::u::u::u::u::u::u::u::u::u::u::u::u::u::u::u::u::[])) rfl ?_
       exact Bn Lu ⟨_,(Option.some.inj h).symm,rfl,hS⟩
      ·refine AS gC ?_;try simp only [W,EE,Nat.reduceAdd]
       refine AE TG ?_;refine CC (s' :=(.ptr i0 w0 0 0::u::u:: .ptr C6 C7 0 0::u::u::u::u::u::u::u::u::u::u::u::u::u::u::u::u::u::u::u::u::u::u::u::u::u:: .int .i64 a1.Kind::u::u::u::u::u::u::u::u::u::u::u::u::u::u::u::u::u::u::u::u::u::u::u::u::u::u::u::u::u::u::u::u::u::u:: .bool (a1.Kind==3)::u::u::u::u::u::u::u::u::u::u::u::u::u::u::u::u::u::u::u::u::u::u::u::u::u::u::u::u::u::u::u::u::u::u::u::u::u::u::u::u::u::u::u::u::u::u::u::u::u::u::u::u::u::u::u::u::u::u::u::u::u::u::u::u::u::u::u::u::u::u::u::u::u::u::u::u::u::u::u::u::u::u::u::u::u::u::u::u::u::u::u::u::u::u::u::u::u::u::u::u::u::u::u::u::u::u::u::u::u::u::[])) rfl ?_
       exact Bn Lu ⟨_,(Option.some.inj h).symm,rfl,hS⟩
     ·obtain ⟨D6,Dg,rfl,hS⟩:=hq;obtain rfl:=Dg.symm;replace h:=Xb;try dsimp only at h
      refine AE RE ?_;obtain ⟨Xc,h,NW⟩:=Option.bind_eq_some_iff.1 h;refine Bm gC (fun s H=> ∃M6:Int,∃M7:Int,∃M8:Int,∃M9:Int,∃M_:Int,∃Na:Int,∃Nb:Int,∃Jj:Int,∃Nc:List Hello,∃Nd:List Hello,∃Nf:List Hello,Xc=LR.next (M6,M7,M8,M9,M_,Na,Nb,Jj,Nc,Nd,Nf)∧ ∃Hv:AV,bm Hv∧ ∃Pz:AV,bm Pz∧ ∃LC:AV,bm LC∧s=(.ptr i0 w0 0 0::u::u:: .ptr C6 C7 0 0::u::u::u::u::u::u::u::u::u::u::u::u::u::u::u::u::u::u::u::u::u::u::u::u::u:: .int .i64 a1.Kind::u::u::u::u::u::u::u::u::u::u::u::u::u::u::u::u::u::u::u::u::u::u::u::u::u::u::u::u::u::u::u::u::u::u:: .bool D6::u::u::u::u::u::u::u::u::u::u::u::u::u::u::u::u::u::u::u::u::u::u::u::u::u::u::u::u::u::u::u::u::u::u::u::u::u::u::u::u::u::u::u::u::u::u::u::u::u::u::u::u::u::u::u::u::u::u::u::u::u::u::u::u::u::u::u::u::u::u::u::u::u::u::u::u::u::u::u::u::u::u::u::u::u::u::u::u::u::u::u::u::u::u::u::u::u::u::u::u::u::u::u::u::u::u::u::u::u::u::[])∧ay H (⟨Hv,3,Nc.map CV⟩::⟨Pz,3,Nd.map CV⟩::⟨LC,3,Nf.map CV⟩::⟨.ptr i0 w0 0 0,11,[.agg [.int .i64 M6,.int .i64 M7,.int .i64 M8,.int .i64 M9,.int .i64 M_,.int .i64 Na,.int .i64 Nb,.int .i64 Jj,Hv,Pz,LC]]⟩::⟨.ptr C6 C7 0 0,2,[.agg [.int .i64 a1.Kind,.int .i64 a1.K]]⟩::F)) (fun Xd JP=> ?_) (fun s H hq=> ?_)
      ·refine Aw fun aaZ LP=> ?_;refine AB ?_;simp only [W];refine AR h (fun hc h=> ?_) (fun hc h=> ?_)
       ·refine Aw fun V4 Rb=> ?_;refine BG gC [(9,[])] (by kernel_rfl) rfl (by kernel_rfl) ?_
        try simp only [W,EE,reduceIte,Nat.reduceAdd,Nat.reduceBEq,hS.var 3 rfl,hS.var 4 rfl,iC,lh,Nat.reduceEqDiff]
        refine Bb 0 hS rfl rfl rfl rfl rfl h (fun GS aa0 aa1 aa2 Xe h Xf=> ?_) EC.ne;obtain ⟨aa3,Xg,Xh⟩:=hS.elem 0 rfl Xf Xe;try simp only [W,EE,EN,reduceIte,Nat.reduceAdd,Nat.reduceLeDiff,Xg,Xh]
        refine A8 hS rfl rfl fun aa4 aa5 H hS=> ?_;try simp only [W]
        refine A9 (a:= .agg [.int .i64 GS.Kind,.int .i64 GS.X,.int .i64 GS.Y]) (y' := .agg [.int .i64 GS.Kind,.int .i64 GS.X,.int .i64 GS.Y]) 0 hS rfl rfl rfl rfl rfl rfl rfl rfl fun H hS=> ?_
        try simp only [W]
        refine AE Rb ?_;refine Aw fun aa6 Xi=> ?_;refine BG gC [(10,[0]),(13,[])] (by kernel_rfl) rfl (by kernel_rfl) ?_
        try simp only [W,EE,reduceIte,Nat.reduceAdd,Nat.reduceBEq,hS.var 4 rfl,hS.var 5 rfl,iC,lh,Nat.reduceEqDiff]
        refine Bh h fun Ql Xj h=> ?_;refine WE Xj (hS.BA 6 [1,0,2,3,4,5] (by decide)) EC fun TJ NX H hS=> ?_
        refine BH ?_;refine BI (by first|rfl|(simp [aL,W,EE,EN,bN,jl,aG,AV.cells,hS.var 1 rfl,hS.var 4 rfl,hS.var 5 rfl];done)) ?_
        refine BJ ?_;try simp only [W,EE,Nat.reduceAdd,Nat.reduceBEq,hS.var 4 rfl]
        refine A9 (a:=TJ) (y' := .agg [.int .i64 a0.C0,.int .i64 a0.CY,.int .i64 a0.X,.int .i64 a0.Y,.int .i64 a0.C1,.int .i64 a0.CZ,.int .i64 a0.CW,.int .i64 a0.CX,TJ,Dl,Dm]) 4 hS rfl rfl rfl rfl (by rw [NX.cells];rfl) NX.Bd (NX.wr _ _ (by simp)) rfl fun H hS=> ?_
        try simp only [W]
        refine AE Xi ?_;refine Aw fun aa7 Xk=> ?_;refine AS gC ?_;try simp only [W,EE,Nat.reduceAdd,Nat.reduceBEq,hS.var 5 rfl]
        refine AE Xk ?_;obtain ⟨Xl,h,Xm⟩:=Option.bind_eq_some_iff.1 h;refine Bm gC (fun s H=> ∃Mn:Int,∃Mo:Int,∃Mp:Int,∃Mq:Int,∃Mr:Int,∃Ms:Int,∃Mt:Int,∃Mu:Int,∃Mw:List Hello,∃Mx:List Hello,∃My:List Hello,Xl=(Mn,Mo,Mp,Mq,Mr,Ms,Mt,Mu,Mw,Mx,My)∧ ∃PA:AV,bm PA∧ ∃PB:AV,bm PB∧ ∃PC:AV,bm PC∧s=(.ptr i0 w0 0 0::u::u:: .ptr C6 C7 0 0::u::u::u::u::u::u::u::u::u::u::u::u::u::u::u::u::u::u::u::u::u::u::u::u::u:: .int .i64 a1.Kind::u::u::u::u::u::u::u::u::u::u::u::u::u::u::u::u::u::u::u::u::u::u::u::u::u::u::u::u::u::u::u::u::u::u:: .bool D6::u::u::u::u::u::u::u::u::u::u::u::u::u::u::u::u::u::u::u::u::u::u::u::u::u::u::u::u::u::u::u::u::u::u::u::u::u::u::u::u::u::u::u::u::u::u::u::u::u::u::u::u::u::u::u::u::u::u::u::u::u::u::u::u::u::u::u::u::u::u::u::u::u::u::u::u::u::u::u::u::u::u::u::u::u::u::u::u::u::u::u::u::u::u::u::u::u::u::u::u::u::u::u::u::u::u::u::u::u::u::[])∧ay H (⟨PA,3,Mw.map CV⟩::⟨PB,3,Mx.map CV⟩::⟨PC,3,My.map CV⟩::⟨.ptr i0 w0 0 0,11,[.agg [.int .i64 Mn,.int .i64 Mo,.int .i64 Mp,.int .i64 Mq,.int .i64 Mr,.int .i64 Ms,.int .i64 Mt,.int .i64 Mu,PA,PB,PC]]⟩::⟨.ptr C6 C7 0 0,2,[.agg [.int .i64 a1.Kind,.int .i64 a1.K]]⟩::F)) (fun aa8 TK=> ?_) (fun s H hq=> ?_)
        ·refine Aw fun aa9 TL=> ?_;refine AB ?_;simp only [W];refine AR h (fun hc h=> ?_) (fun hc h=> ?_)
         ·refine AS gC ?_;try simp only [W,EE,reduceIte,Nat.reduceAdd,Nat.reduceLeDiff,hS.var 1 rfl]
          refine Bh h fun Hi Xn h=> ?_;refine WL Xn (hS.BA 6 [4,0,2,3,1,5] (by decide)) NX E9 E_ fun aa_ Xo abb Xp Xq RF H hS=> ?_
          try simp only [W]
          refine AE TL ?_;refine CC (s' :=(.ptr i0 w0 0 0::u::u:: .ptr C6 C7 0 0::u::u::u::u::u::u::u::u::u::u::u::u::u::u::u::u::u::u::u::u::u::u::u::u::u:: .int .i64 a1.Kind::u::u::u::u::u::u::u::u::u::u::u::u::u::u::u::u::u::u::u::u::u::u::u::u::u::u::u::u::u::u::u::u::u::u:: .bool D6::u::u::u::u::u::u::u::u::u::u::u::u::u::u::u::u::u::u::u::u::u::u::u::u::u::u::u::u::u::u::u::u::u::u::u::u::u::u::u::u::u::u::u::u::u::u::u::u::u::u::u::u::u::u::u::u::u::u::u::u::u::u::u::u::u::u::u::u::u::u::u::u::u::u::u::u::u::u::u::u::u::u::u::u::u::u::u::u::u::u::u::u::u::u::u::u::u::u::u::u::u::u::u::u::u::u::u::u::u::u::[])) rfl ?_
          exact Bn TK ⟨_,_,_,_,_,_,_,_,_,_,_,(Option.some.inj h).symm,_,Xo,_,Xp,_,RF,rfl,(hS.BA 6 [1,2,3,0,5] (by decide))⟩
         ·refine Ay ?_;refine AE TL ?_;refine CC (s' :=(.ptr i0 w0 0 0::u::u:: .ptr C6 C7 0 0::u::u::u::u::u::u::u::u::u::u::u::u::u::u::u::u::u::u::u::u::u::u::u::u::u:: .int .i64 a1.Kind::u::u::u::u::u::u::u::u::u::u::u::u::u::u::u::u::u::u::u::u::u::u::u::u::u::u::u::u::u::u::u::u::u::u:: .bool D6::u::u::u::u::u::u::u::u::u::u::u::u::u::u::u::u::u::u::u::u::u::u::u::u::u::u::u::u::u::u::u::u::u::u::u::u::u::u::u::u::u::u::u::u::u::u::u::u::u::u::u::u::u::u::u::u::u::u::u::u::u::u::u::u::u::u::u::u::u::u::u::u::u::u::u::u::u::u::u::u::u::u::u::u::u::u::u::u::u::u::u::u::u::u::u::u::u::u::u::u::u::u::u::u::u::u::u::u::u::u::[])) rfl ?_
          exact Bn TK ⟨_,_,_,_,_,_,_,_,_,_,_,(Option.some.inj h).symm,_,NX,_,E9,_,E_,rfl,(hS.BA 6 [0,2,3,4,5] (by decide))⟩
        ·obtain ⟨Mn,Mo,Mp,Mq,Mr,Ms,Mt,Mu,Mw,Mx,My,rfl,PA,Xr,PB,Xs,PC,Xt,rfl,hS⟩:=hq;replace h:=Xm;try dsimp only at h
         refine AE LP ?_;refine CC (s' :=(.ptr i0 w0 0 0::u::u:: .ptr C6 C7 0 0::u::u::u::u::u::u::u::u::u::u::u::u::u::u::u::u::u::u::u::u::u::u::u::u::u:: .int .i64 a1.Kind::u::u::u::u::u::u::u::u::u::u::u::u::u::u::u::u::u::u::u::u::u::u::u::u::u::u::u::u::u::u::u::u::u::u:: .bool D6::u::u::u::u::u::u::u::u::u::u::u::u::u::u::u::u::u::u::u::u::u::u::u::u::u::u::u::u::u::u::u::u::u::u::u::u::u::u::u::u::u::u::u::u::u::u::u::u::u::u::u::u::u::u::u::u::u::u::u::u::u::u::u::u::u::u::u::u::u::u::u::u::u::u::u::u::u::u::u::u::u::u::u::u::u::u::u::u::u::u::u::u::u::u::u::u::u::u::u::u::u::u::u::u::u::u::u::u::u::u::[])) rfl ?_
         exact Bn JP ⟨_,_,_,_,_,_,_,_,_,_,_,(Option.some.inj h).symm,_,Xr,_,Xs,_,Xt,rfl,hS⟩
       ·refine Aw fun abd Xu=> ?_;refine AS gC ?_;try simp only [W,EE,Nat.reduceAdd]
        refine AE Xu ?_;obtain ⟨Xv,h,NY⟩:=Option.bind_eq_some_iff.1 h;refine Bm gC (fun s H=> ∃MZ:Int,∃M0:Int,∃M1:Int,∃M2:Int,∃M3:Int,∃M4:Int,∃M5:List Hello,Xv=LR.next (MZ,M0,M1,M2,M3,M4,M5)∧ ∃PD:AV,bm PD∧s=(.ptr i0 w0 0 0::u::u:: .ptr C6 C7 0 0::u::u::u::u::u::u::u::u::u::u::u::u::u::u::u::u::u::u::u::u::u::u::u::u::u:: .int .i64 a1.Kind::u::u::u::u::u::u::u::u::u::u::u::u::u::u::u::u::u::u::u::u::u::u::u::u::u::u::u::u::u::u::u::u::u::u:: .bool D6::u::u::u::u::u::u::u::u::u::u::u::u::u::u::u::u::u::u::u::u::u::u::u::u::u::u::u::u::u::u::u::u::u::u::u::u::u::u::u::u::u::u::u::u::u::u::u::u::u::u::u::u::u::u::u::u::u::u::u::u::u::u::u::u::u::u::u::u::u::u::u::u::u::u::u::u::u::u::u::u::u::u::u::u::u::u::u::u::u::u::u::u::u::u::u::u::u::u::u::u::u::u::u::u::u::u::u::u::u::u::[])∧ay H (⟨PD,3,M5.map CV⟩::⟨Dl,3,a0.C3.map CV⟩::⟨Dm,3,a0.C4.map CV⟩::⟨.ptr i0 w0 0 0,11,[.agg [.int .i64 MZ,.int .i64 M0,.int .i64 M1,.int .i64 M2,.int .i64 M3,.int .i64 M4,.int .i64 a0.CW,.int .i64 a0.CX,PD,Dl,Dm]]⟩::⟨.ptr C6 C7 0 0,2,[.agg [.int .i64 a1.Kind,.int .i64 a1.K]]⟩::F)) (fun abe LQ=> ?_) (fun s H hq=> ?_)
        ·refine Aw fun abf LS=> ?_;refine AB ?_;simp only [W];refine AR h (fun hc h=> ?_) (fun hc h=> ?_)
         ·refine Aw fun abg TM=> ?_;refine Aw fun abh Xw=> ?_;refine AS gC ?_;try simp only [W,EE,Nat.reduceAdd,Nat.reduceBEq,hS.var 3 rfl]
          refine Be 0 hS rfl EC rfl ?_;try simp only [W,EE]
          refine AE Xw ?_;refine AB ?_;simp only [W];refine AR h (fun hc h=> ?_) (fun hc h=> ?_)
          ·refine Aw fun abi Xx=> ?_;refine AS gC ?_;try simp only [W,Nat.reduceAdd]
           refine AE Xx ?_;refine Az ?_;refine AF TM ?_;refine AF LS ?_;try obtain rfl:=Option.some.inj h
           obtain rfl:=Option.some.inj NY;have h:(some (LR.done (LR.done (LR.done (false,a0)))):Option (LR (Int×Int×Int×Int×Int×Int×Int×Int×(List Hello)×(List Hello)×(List Hello)) (LR (Int×Int×Int×Int×Int×Int×Int×Int×(List Hello)×(List Hello)×(List Hello)) (LR (Int×Int×Int×Int×Int×Int×Int×Int×(List Hello)×(List Hello)×(List Hello)) (Bool×C5)))))=some (LR.done (LR.done (LR.done (false,a0)))):=rfl;refine Bo LQ ?_;refine AF LP ?_;try obtain rfl:=Option.some.inj h
           obtain rfl:=Option.some.inj NW;have h:(some (LR.done (LR.done (false,a0))):Option (LR (Int×Int×Int×Int×Int×Int×Int×Int×(List Hello)×(List Hello)×(List Hello)) (LR (Int×Int×Int×Int×Int×Int×Int×Int×(List Hello)×(List Hello)×(List Hello)) (Bool×C5))))=some (LR.done (LR.done (false,a0))):=rfl;refine Bo JP ?_;refine AF H8 ?_;try obtain rfl:=Option.some.inj h
           obtain rfl:=Option.some.inj LO;have h:(some (LR.done (false,a0)):Option (LR (Int×Int×Int×Int×Int×Int×Int×Int×(List Hello)×(List Hello)×(List Hello)) (Bool×C5)))=some (LR.done (false,a0)):=rfl;refine Bo IS ?_;refine AM F9 ?_;try obtain rfl:=Option.some.inj h
           obtain rfl:=Option.some.inj JO;have h:(some (false,a0):Option (Bool×C5))=some (false,a0):=rfl;refine Bo GK ?_;refine AF Hz ?_;refine AO C8 rfl ?_;try obtain rfl:=Option.some.inj h
           exact hP _ EC _ E9 _ E_ _ (hS.BA 5 [3,0,1,2] (by decide))
          ·refine Ay ?_;refine AE TM ?_;refine BG gC [(14,[0]),(17,[])] (by kernel_rfl) rfl (by kernel_rfl) ?_
           try simp only [W,EE,reduceIte,Nat.reduceAdd,Nat.reduceBEq,hS.var 3 rfl,hS.var 4 rfl,iC,lh,Nat.reduceEqDiff]
           refine Bb 0 hS rfl rfl rfl rfl rfl h (fun Qm abj abk abl Xy h Xz=> ?_) EC.ne;obtain ⟨abm,XA,XB⟩:=hS.elem 0 rfl Xz Xy;try simp only [W,EE,EN,reduceIte,Nat.reduceAdd,Nat.reduceLeDiff,XA,XB]
           refine Bg (el:=([Qm]:List Hello).map CV) hS rfl rfl rfl rfl rfl rfl rfl fun abn H XC hS=> ?_;try simp only [W,EE]
           refine Bu (l:=a0.C2) (c:=CV) 1 hS rfl EC rfl rfl rfl (hS.hI 0 rfl XC) (fun _=>rfl) rfl h fun TN H Sj PE hm h hS=> ?_;refine BH ?_;refine BI (by first|rfl|(simp [aL,W,EE,EN,bN,jl,aG,AV.cells,hS.var 4 rfl,hS.var 5 rfl];done)) ?_
           refine BJ ?_;try simp only [W,EE,Nat.reduceAdd,Nat.reduceBEq,hS.var 4 rfl]
           refine A9 (a:=TN) (y' := .agg [.int .i64 a0.C0,.int .i64 a0.CY,.int .i64 a0.X,.int .i64 a0.Y,.int .i64 a0.C1,.int .i64 a0.CZ,.int .i64 a0.CW,.int .i64 a0.CX,TN,Dl,Dm]) 4 hS rfl rfl rfl rfl (by rw [PE.cells];rfl) PE.Bd (PE.wr _ _ (by simp)) rfl fun H hS=> ?_
           try simp only [W]
           refine AE LS ?_;refine CC (s' :=(.ptr i0 w0 0 0::u::u:: .ptr C6 C7 0 0::u::u::u::u::u::u::u::u::u::u::u::u::u::u::u::u::u::u::u::u::u::u::u::u::u:: .int .i64 a1.Kind::u::u::u::u::u::u::u::u::u::u::u::u::u::u::u::u::u::u::u::u::u::u::u::u::u::u::u::u::u::u::u::u::u::u:: .bool D6::u::u::u::u::u::u::u::u::u::u::u::u::u::u::u::u::u::u::u::u::u::u::u::u::u::u::u::u::u::u::u::u::u::u::u::u::u::u::u::u::u::u::u::u::u::u::u::u::u::u::u::u::u::u::u::u::u::u::u::u::u::u::u::u::u::u::u::u::u::u::u::u::u::u::u::u::u::u::u::u::u::u::u::u::u::u::u::u::u::u::u::u::u::u::u::u::u::u::u::u::u::u::u::u::u::u::u::u::u::u::[])) rfl ?_
           exact Bn LQ ⟨_,_,_,_,_,_,_,(Option.some.inj h).symm,_,PE,rfl,(hS.BA 6 [1,2,3,4,5] (by decide))⟩
         ·refine Aw fun abo XD=> ?_;refine AS gC ?_;try simp only [W,EE,Nat.reduceAdd]
          refine AE XD ?_;obtain ⟨XE,h,PF⟩:=Option.bind_eq_some_iff.1 h;refine Bm gC (fun s H=> ∃MT:Int,∃MU:Int,∃MV:Int,∃MW:Int,∃MX:Int,∃MY:Int,XE=LR.next (MT,MU,MV,MW,MX,MY)∧s=(.ptr i0 w0 0 0::u::u:: .ptr C6 C7 0 0::u::u::u::u::u::u::u::u::u::u::u::u::u::u::u::u::u::u::u::u::u::u::u::u::u:: .int .i64 a1.Kind::u::u::u::u::u::u::u::u::u::u::u::u::u::u::u::u::u::u::u::u::u::u::u::u::u::u::u::u::u::u::u::u::u::u:: .bool D6::u::u::u::u::u::u::u::u::u::u::u::u::u::u::u::u::u::u::u::u::u::u::u::u::u::u::u::u::u::u::u::u::u::u::u::u::u::u::u::u::u::u::u::u::u::u::u::u::u::u::u::u::u::u::u::u::u::u::u::u::u::u::u::u::u::u::u::u::u::u::u::u::u::u::u::u::u::u::u::u::u::u::u::u::u::u::u::u::u::u::u::u::u::u::u::u::u::u::u::u::u::u::u::u::u::u::u::u::u::u::[])∧ay H (⟨Dq,3,a0.C2.map CV⟩::⟨Dl,3,a0.C3.map CV⟩::⟨Dm,3,a0.C4.map CV⟩::⟨.ptr i0 w0 0 0,11,[.agg [.int .i64 MT,.int .i64 MU,.int .i64 MV,.int .i64 MW,.int .i64 MX,.int .i64 MY,.int .i64 a0.CW,.int .i64 a0.CX,Dq,Dl,Dm]]⟩::⟨.ptr C6 C7 0 0,2,[.agg [.int .i64 a1.Kind,.int .i64 a1.K]]⟩::F)) (fun abp NZ=> ?_) (fun s H hq=> ?_)
          ·refine Aw fun abq N0=> ?_;refine AB ?_;simp only [W];refine AR h (fun hc h=> ?_) (fun hc h=> ?_)
           ·refine Aw fun abr TO=> ?_;refine Aw fun abt XF=> ?_;refine AS gC ?_;try simp only [W,EE,Nat.reduceAdd,Nat.reduceBEq,hS.var 3 rfl]
            refine AE XF ?_;refine AB ?_;simp only [W];refine AR h (fun hc h=> ?_) (fun hc h=> ?_)
            ·refine Aw fun abu XG=> ?_;refine AS gC ?_;try simp only [W,Nat.reduceAdd]
             refine AE XG ?_;refine Az ?_;refine AF TO ?_;refine AF N0 ?_;try obtain rfl:=Option.some.inj h
             obtain rfl:=Option.some.inj PF;have h:(some (LR.done (LR.done (LR.done (LR.done (false,a0))))):Option (LR (Int×Int×Int×Int×Int×Int×(List Hello)) (LR (Int×Int×Int×Int×Int×Int×Int×Int×(List Hello)×(List Hello)×(List Hello)) (LR (Int×Int×Int×Int×Int×Int×Int×Int×(List Hello)×(List Hello)×(List Hello)) (LR (Int×Int×Int×Int×Int×Int×Int×Int×(List Hello)×(List Hello)×(List Hello)) (Bool×C5))))))=some (LR.done (LR.done (LR.done (LR.done (false,a0))))):=rfl;refine Bo NZ ?_;refine AF LS ?_;try obtain rfl:=Option.some.inj h
             obtain rfl:=Option.some.inj NY;have h:(some (LR.done (LR.done (LR.done (false,a0)))):Option (LR (Int×Int×Int×Int×Int×Int×Int×Int×(List Hello)×(List Hello)×(List Hello)) (LR (Int×Int×Int×Int×Int×Int×Int×Int×(List Hello)×(List Hello)×(List Hello)) (LR (Int×Int×Int×Int×Int×Int×Int×Int×(List Hello)×(List Hello)×(List Hello)) (Bool×C5)))))=some (LR.done (LR.done (LR.done (false,a0)))):=rfl;refine Bo LQ ?_;refine AF LP ?_;try obtain rfl:=Option.some.inj h
             obtain rfl:=Option.some.inj NW;have h:(some (LR.done (LR.done (false,a0))):Option (LR (Int×Int×Int×Int×Int×Int×Int×Int×(List Hello)×(List Hello)×(List Hello)) (LR (Int×Int×Int×Int×Int×Int×Int×Int×(List Hello)×(List Hello)×(List Hello)) (Bool×C5))))=some (LR.done (LR.done (false,a0))):=rfl;refine Bo JP ?_;refine AF H8 ?_;try obtain rfl:=Option.some.inj h
             obtain rfl:=Option.some.inj LO;have h:(some (LR.done (false,a0)):Option (LR (Int×Int×Int×Int×Int×Int×Int×Int×(List Hello)×(List Hello)×(List Hello)) (Bool×C5)))=some (LR.done (false,a0)):=rfl;refine Bo IS ?_;refine AM F9 ?_;try obtain rfl:=Option.some.inj h
             obtain rfl:=Option.some.inj JO;have h:(some (false,a0):Option (Bool×C5))=some (false,a0):=rfl;refine Bo GK ?_;refine AF Hz ?_;refine AO C8 rfl ?_;try obtain rfl:=Option.some.inj h
             exact hP _ EC _ E9 _ E_ _ (hS.BA 5 [3,0,1,2] (by decide))
            ·refine Ay ?_;refine AE TO ?_;refine AS gC ?_;try simp only [W,EE,Nat.reduceAdd,Nat.reduceBEq,hS.var 3 rfl]
             refine A9 (a:= .int .i64 0) (y' := .agg [.int .i64 a0.C0,.int .i64 0,.int .i64 a0.X,.int .i64 a0.Y,.int .i64 a0.C1,.int .i64 a0.CZ,.int .i64 a0.CW,.int .i64 a0.CX,Dq,Dl,Dm]) 3 hS rfl rfl rfl rfl rfl rfl rfl rfl fun H hS=> ?_
             try simp only [W,EE,Nat.reduceAdd,Nat.reduceBEq,hS.var 3 rfl]
             refine A9 (a:= .int .i64 0) (y' := .agg [.int .i64 a0.C0,.int .i64 0,.int .i64 a0.X,.int .i64 a0.Y,.int .i64 0,.int .i64 a0.CZ,.int .i64 a0.CW,.int .i64 a0.CX,Dq,Dl,Dm]) 3 hS rfl rfl rfl rfl rfl rfl rfl rfl fun H hS=> ?_
             try simp only [W,EE,Nat.reduceAdd,Nat.reduceBEq,hS.var 3 rfl]
             refine A9 (a:= .int .i64 0) (y' := .agg [.int .i64 a0.C0,.int .i64 0,.int .i64 a0.X,.int .i64 0,.int .i64 0,.int .i64 a0.CZ,.int .i64 a0.CW,.int .i64 a0.CX,Dq,Dl,Dm]) 3 hS rfl rfl rfl rfl rfl rfl rfl rfl fun H hS=> ?_
             try simp only [W]
             refine AE N0 ?_;refine CC (s' :=(.ptr i0 w0 0 0::u::u:: .ptr C6 C7 0 0::u::u::u::u::u::u::u::u::u::u::u::u::u::u::u::u::u::u::u::u::u::u::u::u::u:: .int .i64 a1.Kind::u::u::u::u::u::u::u::u::u::u::u::u::u::u::u::u::u::u::u::u::u::u::u::u::u::u::u::u::u::u::u::u::u::u:: .bool D6::u::u::u::u::u::u::u::u::u::u::u::u::u::u::u::u::u::u::u::u::u::u::u::u::u::u::u::u::u::u::u::u::u::u::u::u::u::u::u::u::u::u::u::u::u::u::u::u::u::u::u::u::u::u::u::u::u::u::u::u::u::u::u::u::u::u::u::u::u::u::u::u::u::u::u::u::u::u::u::u::u::u::u::u::u::u::u::u::u::u::u::u::u::u::u::u::u::u::u::u::u::u::u::u::u::u::u::u::u::u::[])) rfl ?_
             exact Bn NZ ⟨_,_,_,_,_,_,(Option.some.inj h).symm,rfl,hS⟩
           ·refine Aw fun abv XH=> ?_;refine AS gC ?_;try simp only [W,EE,Nat.reduceAdd]
            refine AE XH ?_;obtain ⟨XI,h,RG⟩:=Option.bind_eq_some_iff.1 h;refine Bm gC (fun s H=> ∃MN:Int,∃MO:Int,∃MP:Int,∃MQ:Int,∃MR:Int,∃MS:Int,XI=LR.next (MN,MO,MP,MQ,MR,MS)∧s=(.ptr i0 w0 0 0::u::u:: .ptr C6 C7 0 0::u::u::u::u::u::u::u::u::u::u::u::u::u::u::u::u::u::u::u::u::u::u::u::u::u:: .int .i64 a1.Kind::u::u::u::u::u::u::u::u::u::u::u::u::u::u::u::u::u::u::u::u::u::u::u::u::u::u::u::u::u::u::u::u::u::u:: .bool D6::u::u::u::u::u::u::u::u::u::u::u::u::u::u::u::u::u::u::u::u::u::u::u::u::u::u::u::u::u::u::u::u::u::u::u::u::u::u::u::u::u::u::u::u::u::u::u::u::u::u::u::u::u::u::u::u::u::u::u::u::u::u::u::u::u::u::u::u::u::u::u::u::u::u::u::u::u::u::u::u::u::u::u::u::u::u::u::u::u::u::u::u::u::u::u::u::u::u::u::u::u::u::u::u::u::u::u::u::u::u::[])∧ay H (⟨Dq,3,a0.C2.map CV⟩::⟨Dl,3,a0.C3.map CV⟩::⟨Dm,3,a0.C4.map CV⟩::⟨.ptr i0 w0 0 0,11,[.agg [.int .i64 MN,.int .i64 MO,.int .i64 MP,.int .i64 MQ,.int .i64 MR,.int .i64 MS,.int .i64 a0.CW,.int .i64 a0.CX,Dq,Dl,Dm]]⟩::⟨.ptr C6 C7 0 0,2,[.agg [.int .i64 a1.Kind,.int .i64 a1.K]]⟩::F)) (fun abw RH=> ?_) (fun s H hq=> ?_)
            ·refine Aw fun abx RI=> ?_;refine AB ?_;simp only [W];refine AR h (fun hc h=> ?_) (fun hc h=> ?_)
             ·refine Aw fun aby XJ=> ?_;refine AS gC ?_;try simp only [W,EE,Nat.reduceAdd,Nat.reduceBEq,hS.var 4 rfl]
              refine AE XJ ?_;obtain ⟨XK,h,TP⟩:=Option.bind_eq_some_iff.1 h;refine Bm gC (fun s H=> ∃MF:Int,∃MH:Int,∃MI:Int,∃MJ:Int,∃MK:Int,∃ML:Int,XK=LR.next (MF,MH,MI,MJ,MK,ML)∧s=(.ptr i0 w0 0 0::u::u:: .ptr C6 C7 0 0::u::u::u::u::u::u::u::u::u::u::u::u::u::u::u::u::u::u::u::u::u::u::u::u::u:: .int .i64 a1.Kind::u::u::u::u::u::u::u::u::u::u::u::u::u::u::u::u::u::u::u::u::u::u::u::u::u::u::u::u::u::u::u::u::u::u:: .bool D6::u::u::u::u::u::u::u::u::u::u::u::u::u::u::u::u::u::u::u::u::u::u::u::u::u::u::u::u::u::u::u::u::u::u::u::u::u::u::u::u::u::u::u::u::u::u::u::u::u::u::u::u::u::u::u::u::u::u::u::u::u::u::u::u::u::u::u::u::u::u::u::u::u::u::u::u::u::u::u::u::u::u::u::u::u::u::u::u::u::u::u::u::u::u::u::u::u::u::u::u::u::u::u::u::u::u::u::u::u::u::[])∧ay H (⟨Dq,3,a0.C2.map CV⟩::⟨Dl,3,a0.C3.map CV⟩::⟨Dm,3,a0.C4.map CV⟩::⟨.ptr i0 w0 0 0,11,[.agg [.int .i64 MF,.int .i64 MH,.int .i64 MI,.int .i64 MJ,.int .i64 MK,.int .i64 ML,.int .i64 a0.CW,.int .i64 a0.CX,Dq,Dl,Dm]]⟩::⟨.ptr C6 C7 0 0,2,[.agg [.int .i64 a1.Kind,.int .i64 a1.K]]⟩::F)) (fun abz TQ=> ?_) (fun s H hq=> ?_)
              ·refine Ax fun abA TR=> ?_;refine Aw fun abB XL=> ?_;refine AS gC ?_;try simp only [W,EE,Nat.reduceAdd]
               refine AE XL ?_;obtain ⟨XM,h,TS⟩:=Option.bind_eq_some_iff.1 h;refine Bm gC (fun s H=> ∃Mz:Int,∃MA:Int,∃MB:Int,∃MC:Int,∃MD:Int,∃ME:Int,XM=LR.next (Mz,MA,MB,MC,MD,ME)∧s=(.ptr i0 w0 0 0::u::u:: .ptr C6 C7 0 0::u::u::u::u::u::u::u::u::u::u::u::u::u::u::u::u::u::u::u::u::u::u::u::u::u:: .int .i64 a1.Kind::u::u::u::u::u::u::u::u::u::u::u::u::u::u::u::u::u::u::u::u::u::u::u::u::u::u::u::u::u::u::u::u::u::u:: .bool D6::u::u::u::u::u::u::u::u::u::u::u::u::u::u::u::u::u::u::u::u::u::u::u::u::u::u::u::u::u::u::u::u::u::u::u::u::u::u::u::u::u::u::u::u::u::u::u::u::u::u::u::u::u::u::u::u::u::u::u::u::u::u::u::u::u::u::u::u::u::u::u::u::u::u::u::u::u::u::u::u::u::u::u::u::u::u::u::u::u::u::u::u::u::u::u::u::u::u::u::u::u::u::u::u::u::u::u::u::u::u::[])∧ay H (⟨Dq,3,a0.C2.map CV⟩::⟨Dl,3,a0.C3.map CV⟩::⟨Dm,3,a0.C4.map CV⟩::⟨.ptr i0 w0 0 0,11,[.agg [.int .i64 Mz,.int .i64 MA,.int .i64 MB,.int .i64 MC,.int .i64 MD,.int .i64 ME,.int .i64 a0.CW,.int .i64 a0.CX,Dq,Dl,Dm]]⟩::⟨.ptr C6 C7 0 0,2,[.agg [.int .i64 a1.Kind,.int .i64 a1.K]]⟩::F)) (fun abC RJ=> ?_) (fun s H hq=> ?_)
               ·refine Aw fun abD RK=> ?_;refine AB ?_;simp only [W];refine AR h (fun hc h=> ?_) (fun hc h=> ?_)
                ·refine AS gC ?_;try simp only [W,EE,Nat.reduceAdd,Nat.reduceBEq,hS.var 3 rfl]
                 refine A9 (a:= .int .i64 0) (y' := .agg [.int .i64 0,.int .i64 a0.CY,.int .i64 a0.X,.int .i64 a0.Y,.int .i64 a0.C1,.int .i64 a0.CZ,.int .i64 a0.CW,.int .i64 a0.CX,Dq,Dl,Dm]) 3 hS rfl rfl rfl rfl rfl rfl rfl rfl fun H hS=> ?_
                 try simp only [W,EE,Nat.reduceAdd,Nat.reduceBEq,hS.var 3 rfl]
                 refine A9 (a:= .int .i64 0) (y' := .agg [.int .i64 0,.int .i64 a0.CY,.int .i64 0,.int .i64 a0.Y,.int .i64 a0.C1,.int .i64 a0.CZ,.int .i64 a0.CW,.int .i64 a0.CX,Dq,Dl,Dm]) 3 hS rfl rfl rfl rfl rfl rfl rfl rfl fun H hS=> ?_
                 try simp only [W,EE,Nat.reduceAdd,Nat.reduceBEq,hS.var 3 rfl]
                 refine A9 (a:= .int .i64 0) (y' := .agg [.int .i64 0,.int .i64 a0.CY,.int .i64 0,.int .i64 a0.Y,.int .i64 a0.C1,.int .i64 0,.int .i64 a0.CW,.int .i64 a0.CX,Dq,Dl,Dm]) 3 hS rfl rfl rfl rfl rfl rfl rfl rfl fun H hS=> ?_
                 try simp only [W]
                 refine AE RK ?_;refine CC (s' :=(.ptr i0 w0 0 0::u::u:: .ptr C6 C7 0 0::u::u::u::u::u::u::u::u::u::u::u::u::u::u::u::u::u::u::u::u::u::u::u::u::u:: .int .i64 a1.Kind::u::u::u::u::u::u::u::u::u::u::u::u::u::u::u::u::u::u::u::u::u::u::u::u::u::u::u::u::u::u::u::u::u::u:: .bool D6::u::u::u::u::u::u::u::u::u::u::u::u::u::u::u::u::u::u::u::u::u::u::u::u::u::u::u::u::u::u::u::u::u::u::u::u::u::u::u::u::u::u::u::u::u::u::u::u::u::u::u::u::u::u::u::u::u::u::u::u::u::u::u::u::u::u::u::u::u::u::u::u::u::u::u::u::u::u::u::u::u::u::u::u::u::u::u::u::u::u::u::u::u::u::u::u::u::u::u::u::u::u::u::u::u::u::u::u::u::u::[])) rfl ?_
                 exact Bn RJ ⟨_,_,_,_,_,_,(Option.some.inj h).symm,rfl,hS⟩
                ·refine Aw fun abE XO=> ?_;refine AS gC ?_;try simp only [W,EE,Nat.reduceAdd]
                 refine AE XO ?_;refine AB ?_;simp only [W];refine AR h (fun hc h=> ?_) (fun hc h=> ?_)
                 ·refine AS gC ?_;try simp only [W,EE,Nat.reduceAdd,Nat.reduceBEq,hS.var 3 rfl]
                  refine A9 (a:= .int .i64 0) (y' := .agg [.int .i64 a0.C0,.int .i64 0,.int .i64 a0.X,.int .i64 a0.Y,.int .i64 a0.C1,.int .i64 a0.CZ,.int .i64 a0.CW,.int .i64 a0.CX,Dq,Dl,Dm]) 3 hS rfl rfl rfl rfl rfl rfl rfl rfl fun H hS=> ?_
                  try simp only [W,EE,Nat.reduceAdd,Nat.reduceBEq,hS.var 3 rfl]
                  refine A9 (a:= .int .i64 0) (y' := .agg [.int .i64 a0.C0,.int .i64 0,.int .i64 a0.X,.int .i64 a0.Y,.int .i64 0,.int .i64 a0.CZ,.int .i64 a0.CW,.int .i64 a0.CX,Dq,Dl,Dm]) 3 hS rfl rfl rfl rfl rfl rfl rfl rfl fun H hS=> ?_
                  try simp only [W,EE,Nat.reduceAdd,Nat.reduceBEq,hS.var 3 rfl]
                  refine A9 (a:= .int .i64 0) (y' := .agg [.int .i64 a0.C0,.int .i64 0,.int .i64 a0.X,.int .i64 0,.int .i64 0,.int .i64 a0.CZ,.int .i64 a0.CW,.int .i64 a0.CX,Dq,Dl,Dm]) 3 hS rfl rfl rfl rfl rfl rfl rfl rfl fun H hS=> ?_
                  try simp only [W]
                  refine AE RK ?_;refine CC (s' :=(.ptr i0 w0 0 0::u::u:: .ptr C6 C7 0 0::u::u::u::u::u::u::u::u::u::u::u::u::u::u::u::u::u::u::u::u::u::u::u::u::u:: .int .i64 a1.Kind::u::u::u::u::u::u::u::u::u::u::u::u::u::u::u::u::u::u::u::u::u::u::u::u::u::u::u::u::u::u::u::u::u::u:: .bool D6::u::u::u::u::u::u::u::u::u::u::u::u::u::u::u::u::u::u::u::u::u::u::u::u::u::u::u::u::u::u::u::u::u::u::u::u::u::u::u::u::u::u::u::u::u::u::u::u::u::u::u::u::u::u::u::u::u::u::u::u::u::u::u::u::u::u::u::u::u::u::u::u::u::u::u::u::u::u::u::u::u::u::u::u::u::u::u::u::u::u::u::u::u::u::u::u::u::u::u::u::u::u::u::u::u::u::u::u::u::u::[])) rfl ?_
                  exact Bn RJ ⟨_,_,_,_,_,_,(Option.some.inj h).symm,rfl,hS⟩
                 ·refine Aw fun abF XP=> ?_;refine AS gC ?_;try simp only [W,Nat.reduceAdd]
                  refine AE XP ?_;refine Az ?_;refine AF RK ?_;try obtain rfl:=Option.some.inj h
                  obtain rfl:=Option.some.inj TS;have h:(some (LR.done (LR.done (LR.done (LR.done (LR.done (LR.done (LR.done (false,a0)))))))):Option (LR (Int×Int×Int×Int×Int×Int) (LR (Int×Int×Int×Int×Int×Int) (LR (Int×Int×Int×Int×Int×Int) (LR (Int×Int×Int×Int×Int×Int×(List Hello)) (LR (Int×Int×Int×Int×Int×Int×Int×Int×(List Hello)×(List Hello)×(List Hello)) (LR (Int×Int×Int×Int×Int×Int×Int×Int×(List Hello)×(List Hello)×(List Hello)) (LR (Int×Int×Int×Int×Int×Int×Int×Int×(List Hello)×(List Hello)×(List Hello)) (Bool×C5)))))))))=some (LR.done (LR.done (LR.done (LR.done (LR.done (LR.done (LR.done (false,a0)))))))):=rfl;refine Bo RJ ?_;refine AM TR ?_;try obtain rfl:=Option.some.inj h
                  obtain rfl:=Option.some.inj TP;have h:(some (LR.done (LR.done (LR.done (LR.done (LR.done (LR.done (false,a0))))))):Option (LR (Int×Int×Int×Int×Int×Int) (LR (Int×Int×Int×Int×Int×Int) (LR (Int×Int×Int×Int×Int×Int×(List Hello)) (LR (Int×Int×Int×Int×Int×Int×Int×Int×(List Hello)×(List Hello)×(List Hello)) (LR (Int×Int×Int×Int×Int×Int×Int×Int×(List Hello)×(List Hello)×(List Hello)) (LR (Int×Int×Int×Int×Int×Int×Int×Int×(List Hello)×(List Hello)×(List Hello)) (Bool×C5))))))))=some (LR.done (LR.done (LR.done (LR.done (LR.done (LR.done (false,a0))))))):=rfl;refine Bo TQ ?_;refine AF RI ?_;try obtain rfl:=Option.some.inj h
                  obtain rfl:=Option.some.inj RG;have h:(some (LR.done (LR.done (LR.done (LR.done (LR.done (false,a0)))))):Option (LR (Int×Int×Int×Int×Int×Int) (LR (Int×Int×Int×Int×Int×Int×(List Hello)) (LR (Int×Int×Int×Int×Int×Int×Int×Int×(List Hello)×(List Hello)×(List Hello)) (LR (Int×Int×Int×Int×Int×Int×Int×Int×(List Hello)×(List Hello)×(List Hello)) (LR (Int×Int×Int×Int×Int×Int×Int×Int×(List Hello)×(List Hello)×(List Hello)) (Bool×C5)))))))=some (LR.done (LR.done (LR.done (LR.done (LR.done (false,a0)))))):=rfl;refine Bo RH ?_;refine AF N0 ?_;try obtain rfl:=Option.some.inj h
                  obtain rfl:=Option.some.inj PF;have h:(some (LR.done (LR.done (LR.done (LR.done (false,a0))))):Option (LR (Int×Int×Int×Int×Int×Int×(List Hello)) (LR (Int×Int×Int×Int×Int×Int×Int×Int×(List Hello)×(List Hello)×(List Hello)) (LR (Int×Int×Int×Int×Int×Int×Int×Int×(List Hello)×(List Hello)×(List Hello)) (LR (Int×Int×Int×Int×Int×Int×Int×Int×(List Hello)×(List Hello)×(List Hello)) (Bool×C5))))))=some (LR.done (LR.done (LR.done (LR.done (false,a0))))):=rfl;refine Bo NZ ?_;refine AF LS ?_;try obtain rfl:=Option.some.inj h
                  obtain rfl:=Option.some.inj NY;have h:(some (LR.done (LR.done (LR.done (false,a0)))):Option (LR (Int×Int×Int×Int×Int×Int×Int×Int×(List Hello)×(List Hello)×(List Hello)) (LR (Int×Int×Int×Int×Int×Int×Int×Int×(List Hello)×(List Hello)×(List Hello)) (LR (Int×Int×Int×Int×Int×Int×Int×Int×(List Hello)×(List Hello)×(List Hello)) (Bool×C5)))))=some (LR.done (LR.done (LR.done (false,a0)))):=rfl;refine Bo LQ ?_;refine AF LP ?_;try obtain rfl:=Option.some.inj h
                  obtain rfl:=Option.some.inj NW;have h:(some (LR.done (LR.done (false,a0))):Option (LR (Int×Int×Int×Int×Int×Int×Int×Int×(List Hello)×(List Hello)×(List Hello)) (LR (Int×Int×Int×Int×Int×Int×Int×Int×(List Hello)×(List Hello)×(List Hello)) (Bool×C5))))=some (LR.done (LR.done (false,a0))):=rfl;refine Bo JP ?_;refine AF H8 ?_;try obtain rfl:=Option.some.inj h
                  obtain rfl:=Option.some.inj LO;have h:(some (LR.done (false,a0)):Option (LR (Int×Int×Int×Int×Int×Int×Int×Int×(List Hello)×(List Hello)×(List Hello)) (Bool×C5)))=some (LR.done (false,a0)):=rfl;refine Bo IS ?_;refine AM F9 ?_;try obtain rfl:=Option.some.inj h
                  obtain rfl:=Option.some.inj JO;have h:(some (false,a0):Option (Bool×C5))=some (false,a0):=rfl;refine Bo GK ?_;refine AF Hz ?_;refine AO C8 rfl ?_;try obtain rfl:=Option.some.inj h
                  exact hP _ EC _ E9 _ E_ _ (hS.BA 5 [3,0,1,2] (by decide))
               ·obtain ⟨Mz,MA,MB,MC,MD,ME,rfl,rfl,hS⟩:=hq;replace h:=TS;try dsimp only at h
                refine AI TR ?_;exact Bn TQ ⟨_,_,_,_,_,_,(Option.some.inj h).symm,rfl,hS⟩
              ·obtain ⟨MF,MH,MI,MJ,MK,ML,rfl,rfl,hS⟩:=hq;replace h:=TP;try dsimp only at h
               refine AE RI ?_;refine CC (s' :=(.ptr i0 w0 0 0::u::u:: .ptr C6 C7 0 0::u::u::u::u::u::u::u::u::u::u::u::u::u::u::u::u::u::u::u::u::u::u::u::u::u:: .int .i64 a1.Kind::u::u::u::u::u::u::u::u::u::u::u::u::u::u::u::u::u::u::u::u::u::u::u::u::u::u::u::u::u::u::u::u::u::u:: .bool D6::u::u::u::u::u::u::u::u::u::u::u::u::u::u::u::u::u::u::u::u::u::u::u::u::u::u::u::u::u::u::u::u::u::u::u::u::u::u::u::u::u::u::u::u::u::u::u::u::u::u::u::u::u::u::u::u::u::u::u::u::u::u::u::u::u::u::u::u::u::u::u::u::u::u::u::u::u::u::u::u::u::u::u::u::u::u::u::u::u::u::u::u::u::u::u::u::u::u::u::u::u::u::u::u::u::u::u::u::u::u::[])) rfl ?_
               exact Bn RH ⟨_,_,_,_,_,_,(Option.some.inj h).symm,rfl,hS⟩
             ·refine Aw fun abG XQ=> ?_;refine AS gC ?_;try simp only [W,Nat.reduceAdd]
              refine AE XQ ?_;refine Az ?_;refine AF RI ?_;try obtain rfl:=Option.some.inj h
              obtain rfl:=Option.some.inj RG;have h:(some (LR.done (LR.done (LR.done (LR.done (LR.done (false,a0)))))):Option (LR (Int×Int×Int×Int×Int×Int) (LR (Int×Int×Int×Int×Int×Int×(List Hello)) (LR (Int×Int×Int×Int×Int×Int×Int×Int×(List Hello)×(List Hello)×(List Hello)) (LR (Int×Int×Int×Int×Int×Int×Int×Int×(List Hello)×(List Hello)×(List Hello)) (LR (Int×Int×Int×Int×Int×Int×Int×Int×(List Hello)×(List Hello)×(List Hello)) (Bool×C5)))))))=some (LR.done (LR.done (LR.done (LR.done (LR.done (false,a0)))))):=rfl;refine Bo RH ?_;refine AF N0 ?_;try obtain rfl:=Option.some.inj h
              obtain rfl:=Option.some.inj PF;have h:(some (LR.done (LR.done (LR.done (LR.done (false,a0))))):Option (LR (Int×Int×Int×Int×Int×Int×(List Hello)) (LR (Int×Int×Int×Int×Int×Int×Int×Int×(List Hello)×(List Hello)×(List Hello)) (LR (Int×Int×Int×Int×Int×Int×Int×Int×(List Hello)×(List Hello)×(List Hello)) (LR (Int×Int×Int×Int×Int×Int×Int×Int×(List Hello)×(List Hello)×(List Hello)) (Bool×C5))))))=some (LR.done (LR.done (LR.done (LR.done (false,a0))))):=rfl;refine Bo NZ ?_;refine AF LS ?_;try obtain rfl:=Option.some.inj h
              obtain rfl:=Option.some.inj NY;have h:(some (LR.done (LR.done (LR.done (false,a0)))):Option (LR (Int×Int×Int×Int×Int×Int×Int×Int×(List Hello)×(List Hello)×(List Hello)) (LR (Int×Int×Int×Int×Int×Int×Int×Int×(List Hello)×(List Hello)×(List Hello)) (LR (Int×Int×Int×Int×Int×Int×Int×Int×(List Hello)×(List Hello)×(List Hello)) (Bool×C5)))))=some (LR.done (LR.done (LR.done (false,a0)))):=rfl;refine Bo LQ ?_;refine AF LP ?_;try obtain rfl:=Option.some.inj h
              obtain rfl:=Option.some.inj NW;have h:(some (LR.done (LR.done (false,a0))):Option (LR (Int×Int×Int×Int×Int×Int×Int×Int×(List Hello)×(List Hello)×(List Hello)) (LR (Int×Int×Int×Int×Int×Int×Int×Int×(List Hello)×(List Hello)×(List Hello)) (Bool×C5))))=some (LR.done (LR.done (false,a0))):=rfl;refine Bo JP ?_;refine AF H8 ?_;try obtain rfl:=Option.some.inj h
              obtain rfl:=Option.some.inj LO;have h:(some (LR.done (false,a0)):Option (LR (Int×Int×Int×Int×Int×Int×Int×Int×(List Hello)×(List Hello)×(List Hello)) (Bool×C5)))=some (LR.done (false,a0)):=rfl;refine Bo IS ?_;refine AM F9 ?_;try obtain rfl:=Option.some.inj h
              obtain rfl:=Option.some.inj JO;have h:(some (false,a0):Option (Bool×C5))=some (false,a0):=rfl;refine Bo GK ?_;refine AF Hz ?_;refine AO C8 rfl ?_;try obtain rfl:=Option.some.inj h
              exact hP _ EC _ E9 _ E_ _ (hS.BA 5 [3,0,1,2] (by decide))
            ·obtain ⟨MN,MO,MP,MQ,MR,MS,rfl,rfl,hS⟩:=hq;replace h:=RG;try dsimp only at h
             refine AE N0 ?_;refine CC (s' :=(.ptr i0 w0 0 0::u::u:: .ptr C6 C7 0 0::u::u::u::u::u::u::u::u::u::u::u::u::u::u::u::u::u::u::u::u::u::u::u::u::u:: .int .i64 a1.Kind::u::u::u::u::u::u::u::u::u::u::u::u::u::u::u::u::u::u::u::u::u::u::u::u::u::u::u::u::u::u::u::u::u::u:: .bool D6::u::u::u::u::u::u::u::u::u::u::u::u::u::u::u::u::u::u::u::u::u::u::u::u::u::u::u::u::u::u::u::u::u::u::u::u::u::u::u::u::u::u::u::u::u::u::u::u::u::u::u::u::u::u::u::u::u::u::u::u::u::u::u::u::u::u::u::u::u::u::u::u::u::u::u::u::u::u::u::u::u::u::u::u::u::u::u::u::u::u::u::u::u::u::u::u::u::u::u::u::u::u::u::u::u::u::u::u::u::u::[])) rfl ?_
             exact Bn NZ ⟨_,_,_,_,_,_,(Option.some.inj h).symm,rfl,hS⟩
          ·obtain ⟨MT,MU,MV,MW,MX,MY,rfl,rfl,hS⟩:=hq;replace h:=PF;try dsimp only at h
           refine AE LS ?_;refine CC (s' :=(.ptr i0 w0 0 0::u::u:: .ptr C6 C7 0 0::u::u::u::u::u::u::u::u::u::u::u::u::u::u::u::u::u::u::u::u::u::u::u::u::u:: .int .i64 a1.Kind::u::u::u::u::u::u::u::u::u::u::u::u::u::u::u::u::u::u::u::u::u::u::u::u::u::u::u::u::u::u::u::u::u::u:: .bool D6::u::u::u::u::u::u::u::u::u::u::u::u::u::u::u::u::u::u::u::u::u::u::u::u::u::u::u::u::u::u::u::u::u::u::u::u::u::u::u::u::u::u::u::u::u::u::u::u::u::u::u::u::u::u::u::u::u::u::u::u::u::u::u::u::u::u::u::u::u::u::u::u::u::u::u::u::u::u::u::u::u::u::u::u::u::u::u::u::u::u::u::u::u::u::u::u::u::u::u::u::u::u::u::u::u::u::u::u::u::u::[])) rfl ?_
           exact Bn LQ ⟨_,_,_,_,_,_,_,(Option.some.inj h).symm,_,EC,rfl,hS⟩
        ·obtain ⟨MZ,M0,M1,M2,M3,M4,M5,rfl,PD,XR,rfl,hS⟩:=hq;replace h:=NY;try dsimp only at h
         refine AE LP ?_;refine CC (s' :=(.ptr i0 w0 0 0::u::u:: .ptr C6 C7 0 0::u::u::u::u::u::u::u::u::u::u::u::u::u::u::u::u::u::u::u::u::u::u::u::u::u:: .int .i64 a1.Kind::u::u::u::u::u::u::u::u::u::u::u::u::u::u::u::u::u::u::u::u::u::u::u::u::u::u::u::u::u::u::u::u::u::u:: .bool D6::u::u::u::u::u::u::u::u::u::u::u::u::u::u::u::u::u::u::u::u::u::u::u::u::u::u::u::u::u::u::u::u::u::u::u::u::u::u::u::u::u::u::u::u::u::u::u::u::u::u::u::u::u::u::u::u::u::u::u::u::u::u::u::u::u::u::u::u::u::u::u::u::u::u::u::u::u::u::u::u::u::u::u::u::u::u::u::u::u::u::u::u::u::u::u::u::u::u::u::u::u::u::u::u::u::u::u::u::u::u::[])) rfl ?_
         exact Bn JP ⟨_,_,_,_,_,_,_,_,_,_,_,(Option.some.inj h).symm,_,XR,_,E9,_,E_,rfl,hS⟩
      ·obtain ⟨M6,M7,M8,M9,M_,Na,Nb,Jj,Nc,Nd,Nf,rfl,Hv,XS,Pz,XT,LC,NO,rfl,hS⟩:=hq;replace h:=NW;try dsimp only at h
       refine AE H8 ?_;refine CC (s' :=(.ptr i0 w0 0 0::u::u::u::u::u::u::u::u::u::u::u::u::u::u::u::u::u::u::u::u::u::u::u::u::u::u::u::u::u::u::u::u::u::u::u::u::u::u::u::u::u::u::u::u::u::u::u::u::u::u::u::u::u::u::u::u::u::u::u::u::u::u::u::u::u::u::u::u::u::u::u::u::u::u::u::u::u::u::u::u::u::u::u::u::u::u::u::u::u::u::u::u::u::u::u::u::u::u::u::u::u::u::u::u::u::u::u::u::u::u::u::u::u::u::u::u::u::u::u::u::u::u::u::u::u::u::u::u::u::u::u::u::u::u::u::u::u::u::u::u::u::u::u::u::u::u::u::u::u::u::u::u::u::u::u::u::u::u::u::u::u::u::u::u::u::u::u::u::u::u::u::u::u::u::[])) rfl ?_
       exact Bn IS ⟨_,_,_,_,_,_,_,_,_,_,_,(Option.some.inj h).symm,_,XS,_,XT,_,NO,rfl,(hS.BA 5 [0,1,2,3] (by decide))⟩
   ·obtain ⟨FA,DV,FF,D0,EV,E6,F4,Ng,HO,Jf,Nh,rfl,GZ,Jv,NA,Qw,Kv,Kw,rfl,hS⟩:=hq;replace h:=LO;try dsimp only at h
    refine AI F9 ?_;exact Bn GK ⟨_,_,_,_,_,_,_,_,_,_,_,(Option.some.inj h).symm,_,Jv,_,Qw,_,Kw,rfl,hS⟩
  ·obtain ⟨FC,Ff,Gz,EU,DR,EY,Ej,Fk,EI,Fu,Ev,rfl,Ir,JB,Ka,Lo,I8,LU,rfl,hS⟩:=hq;replace h:=JO;try dsimp only at h
   refine AE Hz ?_;refine Aw fun abH TT=> ?_;refine AS gC ?_;try simp only [W,EE,Nat.reduceAdd,Nat.reduceBEq,hS.var 3 rfl]
   refine Be 1 hS rfl Lo rfl ?_;try simp only [W,EE]
   refine BE h (fun hc h=> ?_) (fun hc h=> ?_)
   ·try simp only [W,EE,Nat.reduceAdd,Nat.reduceBEq,hS.var 3 rfl,hc]
    refine Be 2 hS rfl LU rfl ?_;try simp only [W,EE,reduceIte]
    refine AE TT ?_;refine Az ?_;refine AO C8 rfl ?_;try obtain rfl:=Option.some.inj h
    exact hP _ JB _ Lo _ LU _ (hS.BA 4 [3,0,1,2] (by decide))
   ·try simp only [W,hc]
    refine AE TT ?_;refine Az ?_;refine AO C8 rfl ?_;try obtain rfl:=Option.some.inj h
    exact hP _ JB _ Lo _ LU _ (hS.BA 4 [3,0,1,2] (by decide))
theorem XU {a0:C5} {a1:Dc} {r:(C5×Bool)} (h:KQ a0 a1=some r) {F:List It} {H:J} (hS:ay H (F)) {P:AV→J→Prop} (hP: ∀G7:AV,bm G7→ ∀JN:AV,bm JN→ ∀FU:AV,bm FU→ ∀H',ay H' (⟨G7,3,r.1.C2.map CV⟩::⟨JN,3,r.1.C3.map CV⟩::⟨FU,3,r.1.C4.map CV⟩::F)→P (.aC [.agg [.int .i64 r.1.C0,.int .i64 r.1.CY,.int .i64 r.1.X,.int .i64 r.1.Y,.int .i64 r.1.C1,.int .i64 r.1.CZ,.int .i64 r.1.CW,.int .i64 r.1.CX,G7,JN,FU],.bool r.2]) H'):au C 68 [.agg [.int .i64 a0.C0,.int .i64 a0.CY,.int .i64 a0.X,.int .i64 a0.Y,.int .i64 a0.C1,.int .i64 a0.CZ,.int .i64 a0.CW,.int .i64 a0.CX,.fz (a0.C2.map CV),.fz (a0.C3.map CV),.fz (a0.C4.map CV)],.agg [.int .i64 a1.Kind,.int .i64 a1.K]] H P:=by
 refine AW gC (res:=[.cell 4 73,.tmp 5]) (n:=19) rfl rfl rfl rfl fun K0 C8=> ?_;simp only [W,Nat.reduceSub,Nat.reduceAdd,List.replicate];unfold KQ at h;refine Aw fun K1 Da=> ?_;refine AS gC ?_;try simp only [W,Nat.reduceAdd]
 refine A7 hS rfl rfl rfl rfl fun C6 C7 H hS=> ?_;try simp only [W]
 refine A7 hS rfl rfl rfl rfl fun Dz DA H hS=> ?_;try simp only [W]
 refine A8 hS rfl rfl fun DE DF H hS=> ?_;try simp only [W]
 refine AE Da ?_;refine Aw fun K8 Dp=> ?_;refine AS gC ?_;try simp only [W,EE,reduceIte,Nat.reduceAdd,Nat.reduceLeDiff,hS.var 2 rfl]
 refine Bh h fun Db HU h=> ?_;refine Tp HU hS fun v10 Gi Fi GJ EJ Fh H hS=> ?_;try simp only [W]
 refine A8 hS rfl rfl fun TU TW H hS=> ?_;try simp only [W]
 refine A9 (a:= .agg [.int .i64 Db.C0,.int .i64 Db.CY,.int .i64 Db.X,.int .i64 Db.Y,.int .i64 Db.C1,.int .i64 Db.CZ,.int .i64 Db.CW,.int .i64 Db.CX,v10,Fi,EJ]) (y' := .agg [.int .i64 Db.C0,.int .i64 Db.CY,.int .i64 Db.X,.int .i64 Db.Y,.int .i64 Db.C1,.int .i64 Db.CZ,.int .i64 Db.CW,.int .i64 Db.CX,v10,Fi,EJ]) 0 hS rfl rfl rfl rfl rfl (by simp only [dB,List.all_cons,List.all_nil,Gi.pF,GJ.pF,Fh.pF];rfl) rfl rfl fun H hS=> ?_
 try simp only [W]
 refine AE Dp ?_;refine Aw fun Ij EB=> ?_;refine Aw fun Hl Es=> ?_;obtain ⟨Rq,h,Rr⟩:=Option.bind_eq_some_iff.1 h;refine Bm gC (fun s H=> ∃En:Bool,∃F5:Int,∃GA:Int,∃Ed:Int,∃DL:Int,∃D1:Int,∃Eu:Int,∃D5:Int,∃D8:Int,∃DS:List Hello,∃DM:List Hello,∃EG:List Hello,Rq=(En,F5,GA,Ed,DL,D1,Eu,D5,D8,DS,DM,EG)∧ ∃v30:AV,bm v30∧ ∃Fg:AV,bm Fg∧ ∃I9:AV,bm I9∧s=[u,u,u,u,.ptr DE DF 0 0,u,.ptr TU TW 0 0,u,u,u,u,u,u,u,u,u,.bool En,u,u]∧ay H (⟨v30,3,DS.map CV⟩::⟨Fg,3,DM.map CV⟩::⟨I9,3,EG.map CV⟩::⟨.ptr DE DF 0 0,11,[.agg [.int .i64 0,.int .i64 0,.int .i64 0,.int .i64 0,.int .i64 0,.int .i64 0,.int .i64 0,.int .i64 0,.nil,.nil,.nil]]⟩::⟨.ptr TU TW 0 0,11,[.agg [.int .i64 F5,.int .i64 GA,.int .i64 Ed,.int .i64 DL,.int .i64 D1,.int .i64 Eu,.int .i64 D5,.int .i64 D8,v30,Fg,I9]]⟩::F)) (fun Ty Ku=> ?_) (fun s H hq=> ?_)
 ·refine Aw fun Lc FQ=> ?_;refine AS gC ?_;try simp only [W,EE,reduceIte,Nat.reduceAdd,Nat.reduceLeDiff,hS.var 6 rfl]
  refine Bh h fun Ni XV h=> ?_;refine NS XV hS fun H hS=> ?_;try simp only [W]
  refine BE h (fun hc h=> ?_) (fun hc h=> ?_)
  ·try simp only [W,hc]
   refine AE FQ ?_;refine AD ?_;exact Bn Ku ⟨_,_,_,_,_,_,_,_,_,_,_,_,(Option.some.inj h).symm,_,Gi,_,GJ,_,Fh,rfl,(hS.BA 7 [1,2,3,4,0] (by decide))⟩
  ·try simp only [W,EE,reduceIte,Nat.reduceAdd,Nat.reduceLeDiff,hS.var 5 rfl,hc]
   refine Bh h fun Gl XW h=> ?_;obtain ⟨Sk,Eg⟩:=Gl;try dsimp only at h
   refine Py XW hS Gi GJ Fh fun FL F8 RL PG EA Hy H hS=> ?_;try simp only [W,reduceIte,Bool.false_eq_true]
   refine AE FQ ?_;refine AD ?_;exact Bn Ku ⟨_,_,_,_,_,_,_,_,_,_,_,_,(Option.some.inj h).symm,_,F8,_,PG,_,Hy,rfl,(hS.BA 7 [1,2,3,4,0] (by decide))⟩
 ·obtain ⟨En,F5,GA,Ed,DL,D1,Eu,D5,D8,DS,DM,EG,rfl,v30,G0,Fg,Io,I9,PH,rfl,hS⟩:=hq;replace h:=Rr;try dsimp only at h
  refine AE Es ?_;refine AB ?_;simp only [W];refine AR h (fun hc h=> ?_) (fun hc h=> ?_)
  ·refine Aw fun Qr IP=> ?_;refine AS gC ?_;try simp only [W,EE,Nat.reduceAdd]
   refine BF rfl rfl rfl rfl rfl ?_;try simp only [W]
   refine A9 (a:= .agg [.int .i64 0,.int .i64 0,.int .i64 0,.int .i64 0,.int .i64 0,.int .i64 0,.int .i64 0,.int .i64 0,.nil,.nil,.nil]) (y' := .agg [.int .i64 0,.int .i64 0,.int .i64 0,.int .i64 0,.int .i64 0,.int .i64 0,.int .i64 0,.int .i64 0,.nil,.nil,.nil]) 3 hS rfl rfl rfl rfl rfl rfl rfl rfl fun H hS=> ?_
   try simp only [W]
   refine AE IP ?_;refine Az ?_;refine AF EB ?_;refine AN C8 (BC rfl rfl (hS.var 3 rfl) rfl (BD rfl rfl)) ?_;try obtain rfl:=Option.some.inj h
   exact hP _ mQ _ mQ _ mQ _ ((((hS.za 3).za 3).za 3).BA 8 [0,1,2] (by decide))
  ·refine Ay ?_;refine AE EB ?_;refine Aw fun OQ Il=> ?_;refine AS gC ?_;try simp only [W,EE,reduceIte,Nat.reduceAdd,Nat.reduceLeDiff,hS.var 4 rfl]
   refine A9 (a:= .agg [.int .i64 F5,.int .i64 GA,.int .i64 Ed,.int .i64 DL,.int .i64 D1,.int .i64 Eu,.int .i64 D5,.int .i64 D8,v30,Fg,I9]) (y' := .agg [.int .i64 F5,.int .i64 GA,.int .i64 Ed,.int .i64 DL,.int .i64 D1,.int .i64 Eu,.int .i64 D5,.int .i64 D8,v30,Fg,I9]) 3 hS rfl rfl rfl rfl rfl (by simp only [dB,List.all_cons,List.all_nil,G0.pF,Io.pF,PH.pF];rfl) rfl rfl fun H hS=> ?_
   try simp only [W]
   refine AE Il ?_;refine Az ?_;refine AN C8 (BC rfl rfl (hS.var 3 rfl) rfl (BD rfl rfl)) ?_;try obtain rfl:=Option.some.inj h
   exact hP _ G0 _ Io _ PH _ (hS.BA 5 [0,1,2] (by decide))
theorem LV {a0:Int} {a1:Int} {a2:Bool} {r:(Bool)} (h:Ig a0 a1 a2=some r) {F:List It} {H:J} (hS:ay H (F)) {P:AV→J→Prop} (hP: ∀H',ay H' (F)→P (.bool r) H'):au C 219 [.int .i64 a0,.int .i64 a1,.bool a2] H P:=by
 refine AW gC (res:=[.tmp 6]) (n:=13) rfl rfl rfl rfl fun K0 C8=> ?_;simp only [W,Nat.reduceSub,Nat.reduceAdd,List.replicate];unfold Ig at h;refine Aw fun K1 Da=> ?_;refine AS gC ?_;try simp only [W,Nat.reduceAdd]
 refine AE Da ?_;refine Aw fun K2 yP=> ?_;refine Aw fun K3 FG=> ?_;refine AS gC ?_;try simp only [W,Nat.reduceAdd]
 refine AE FG ?_;refine AB ?_;simp only [W];refine AR h (fun hc h=> ?_) (fun hc h=> ?_)
 ·refine Aw fun K4 Df=> ?_;refine AS gC ?_;try simp only [W,EE,Nat.reduceAdd]
  refine AE Df ?_;refine Az ?_;refine AF yP ?_;refine AO C8 rfl ?_;try obtain rfl:=Option.some.inj h
  exact hP _ hS
 ·refine Ay ?_;refine AE yP ?_;refine Aw fun K5 D7=> ?_;refine AS gC ?_;try simp only [W,Nat.reduceAdd]
  refine Bh h fun Fb Ii h=> ?_;refine Jt Ii hS fun H hS=> ?_;try simp only [W]
  refine AE D7 ?_;refine Az ?_;refine AO C8 rfl ?_;try obtain rfl:=Option.some.inj h
  exact hP _ hS
theorem TX {a0:C5} {a1:Hello} {r:(Bool)} (h:KR a0 a1=some r) {F:List It} {H:J} (hS:ay H (F)) {P:AV→J→Prop} (hP: ∀H',ay H' (F)→P (.bool r) H'):au C 220 [.agg [.int .i64 a0.C0,.int .i64 a0.CY,.int .i64 a0.X,.int .i64 a0.Y,.int .i64 a0.C1,.int .i64 a0.CZ,.int .i64 a0.CW,.int .i64 a0.CX,.fz (a0.C2.map CV),.fz (a0.C3.map CV),.fz (a0.C4.map CV)],.agg [.int .i64 a1.Kind,.int .i64 a1.X,.int .i64 a1.Y]] H P:=by
 refine AW gC (res:=[.tmp 4]) (n:=25) rfl rfl rfl rfl fun K0 C8=> ?_;simp only [W,Nat.reduceSub,Nat.reduceAdd,List.replicate];unfold KR at h;refine Aw fun K1 Da=> ?_;refine AS gC ?_;try simp only [W,Nat.reduceAdd]
 refine A7 hS rfl rfl rfl rfl fun C6 C7 H hS=> ?_;try simp only [W]
 refine A7 hS rfl rfl rfl rfl fun Dz DA H hS=> ?_;try simp only [W]
 refine AE Da ?_;refine Aw fun K6 Dx=> ?_;refine AS gC ?_;try simp only [W,EE,Nat.reduceAdd,Nat.reduceBEq,hS.var 0 rfl]
 refine Bh h fun C9 H9 h=> ?_;refine Jt H9 hS fun H hS=> ?_;try simp only [W]
 refine BE h (fun hc h=> ?_) (fun hc h=> ?_)
 ·try simp only [W,EE,Nat.reduceAdd,Nat.reduceBEq,hS.var 1 rfl,hS.var 0 rfl,hc]
  refine Bh h fun Dr G4 h=> ?_;refine LV G4 hS fun H hS=> ?_;try simp only [W,reduceIte]
  refine BE h (fun hc h=> ?_) (fun hc h=> ?_)
  ·try simp only [W,EE,Nat.reduceAdd,Nat.reduceBEq,hS.var 1 rfl,hS.var 0 rfl,hc]
   refine Bh h fun Db HU h=> ?_;refine LV HU hS fun H hS=> ?_;try simp only [W,reduceIte]
   refine AE Dx ?_;refine Az ?_;refine AO C8 rfl ?_;try obtain rfl:=Option.some.inj h
   exact hP _ (hS.BA 2 [] (by decide))
  ·try simp only [W,hc]
   refine AE Dx ?_;refine Az ?_;refine AO C8 rfl ?_;try obtain rfl:=Option.some.inj h
   exact hP _ (hS.BA 2 [] (by decide))
 ·try simp only [W,hc]
  refine AE Dx ?_;refine Az ?_;refine AO C8 rfl ?_;try obtain rfl:=Option.some.inj h
  exact hP _ (hS.BA 2 [] (by decide))
theorem PI {a0:C5} {r:(Bool)} (h:HQ a0=some r) {F:List It} {H:J} (hS:ay H (F)) {P:AV→J→Prop} (hP: ∀H',ay H' (F)→P (.bool r) H'):au C 72 [.agg [.int .i64 a0.C0,.int .i64 a0.CY,.int .i64 a0.X,.int .i64 a0.Y,.int .i64 a0.C1,.int .i64 a0.CZ,.int .i64 a0.CW,.int .i64 a0.CX,.fz (a0.C2.map CV),.fz (a0.C3.map CV),.fz (a0.C4.map CV)]] H P:=by
 refine AW gC (res:=[.tmp 2]) (n:=123) rfl rfl rfl rfl fun K0 C8=> ?_;simp only [W,Nat.reduceSub,Nat.reduceAdd,List.replicate];unfold HQ at h;refine Aw fun K1 Da=> ?_;refine AS gC ?_;try simp only [W,Nat.reduceAdd]
 refine A7 hS rfl rfl rfl rfl fun C6 C7 H hS=> ?_;try simp only [W]
 refine AE Da ?_;refine Aw fun K4 Df=> ?_;refine Aw fun K5 D7=> ?_;obtain ⟨Kt,h,g8⟩:=Option.bind_eq_some_iff.1 h;refine Bm gC (fun s H=> ∃Ew:Bool,Kt=(Ew)∧s=(u:: .ptr C6 C7 0 0::u::u::u::u::u::u::u::u::u::u::u::u::u::u::u::u::u::u::u::u::u::u::u::u::u::u::u::u::u::u::u::u::u::u::u::u::u::u::u::u::u::u::u::u:: .bool Ew::u::u::u::u::u::u::u::u::u::u::u::u::u::u::u::u::u::u::u::u::u::u::u::u::u::u::u::u::u::u::u::u::u::u::u::u::u::u::u::u::u::u::u::u::u::u::u::u::u::u::u::u::u::u::u::u::u::u::u::u::u::u::u::u::u::u::u::u::u::u::u::u::u::u::u::u::[])∧ay H (⟨.ptr C6 C7 0 0,11,[.agg [.int .i64 a0.C0,.int .i64 a0.CY,.int .i64 a0.X,.int .i64 a0.Y,.int .i64 a0.C1,.int .i64 a0.CZ,.int .i64 a0.CW,.int .i64 a0.CX,.fz (a0.C2.map CV),.fz (a0.C3.map CV),.fz (a0.C4.map CV)]]⟩::F)) (fun K9 Dy=> ?_) (fun s H hq=> ?_)
 ·refine Aw fun HS DG=> ?_;refine AS gC ?_;try simp only [W,EE,Nat.reduceAdd,Nat.reduceBEq,hS.var 0 rfl]
  refine Bh h fun C_ Kq h=> ?_;refine Jt Kq hS fun H hS=> ?_;try simp only [W]
  refine BE h (fun hc h=> ?_) (fun hc h=> ?_)
  ·try simp only [W,hc]
   refine AE DG ?_;refine CC (s' :=(u:: .ptr C6 C7 0 0::u::u::u::u::u::u::u::u::u::u::u::u::u::u::u::u::u::u::u::u::u::u::u::u::u::u::u::u::u::u::u::u::u::u::u::u::u::u::u::u::u::u::u::u:: .bool true::u::u::u::u::u::u::u::u::u::u::u::u::u::u::u::u::u::u::u::u::u::u::u::u::u::u::u::u::u::u::u::u::u::u::u::u::u::u::u::u::u::u::u::u::u::u::u::u::u::u::u::u::u::u::u::u::u::u::u::u::u::u::u::u::u::u::u::u::u::u::u::u::u::u::u::u::[])) rfl ?_
   exact Bn Dy ⟨_,(Option.some.inj h).symm,rfl,hS⟩
  ·try simp only [W,EE,Nat.reduceAdd,Nat.reduceBEq,hS.var 0 rfl,hc]
   refine Bh h fun IH Rn h=> ?_;refine Jt Rn hS fun H hS=> ?_;try simp only [W,reduceIte,Bool.false_eq_true]
   refine BE h (fun hc h=> ?_) (fun hc h=> ?_)
   ·try simp only [W,hc]
    refine AE DG ?_;refine CC (s' :=(u:: .ptr C6 C7 0 0::u::u::u::u::u::u::u::u::u::u::u::u::u::u::u::u::u::u::u::u::u::u::u::u::u::u::u::u::u::u::u::u::u::u::u::u::u::u::u::u::u::u::u::u:: .bool true::u::u::u::u::u::u::u::u::u::u::u::u::u::u::u::u::u::u::u::u::u::u::u::u::u::u::u::u::u::u::u::u::u::u::u::u::u::u::u::u::u::u::u::u::u::u::u::u::u::u::u::u::u::u::u::u::u::u::u::u::u::u::u::u::u::u::u::u::u::u::u::u::u::u::u::u::[])) rfl ?_
    exact Bn Dy ⟨_,(Option.some.inj h).symm,rfl,hS⟩
   ·try simp only [W,EE,Nat.reduceAdd,Nat.reduceBEq,hS.var 0 rfl,hc]
    refine Bh h fun FE RM h=> ?_;refine Jt RM hS fun H hS=> ?_;try simp only [W,reduceIte,Bool.false_eq_true]
    refine BE h (fun hc h=> ?_) (fun hc h=> ?_)
    ·try simp only [W,hc]
     refine AE DG ?_;refine CC (s' :=(u:: .ptr C6 C7 0 0::u::u::u::u::u::u::u::u::u::u::u::u::u::u::u::u::u::u::u::u::u::u::u::u::u::u::u::u::u::u::u::u::u::u::u::u::u::u::u::u::u::u::u::u:: .bool true::u::u::u::u::u::u::u::u::u::u::u::u::u::u::u::u::u::u::u::u::u::u::u::u::u::u::u::u::u::u::u::u::u::u::u::u::u::u::u::u::u::u::u::u::u::u::u::u::u::u::u::u::u::u::u::u::u::u::u::u::u::u::u::u::u::u::u::u::u::u::u::u::u::u::u::u::[])) rfl ?_
     exact Bn Dy ⟨_,(Option.some.inj h).symm,rfl,hS⟩
    ·try simp only [W,EE,Nat.reduceAdd,Nat.reduceBEq,hS.var 0 rfl,hc]
     refine Bh h fun Sm XX h=> ?_;refine Jt XX hS fun H hS=> ?_;try simp only [W,reduceIte,Bool.false_eq_true]
     refine BE h (fun hc h=> ?_) (fun hc h=> ?_)
     ·try simp only [W,hc]
      refine AE DG ?_;refine CC (s' :=(u:: .ptr C6 C7 0 0::u::u::u::u::u::u::u::u::u::u::u::u::u::u::u::u::u::u::u::u::u::u::u::u::u::u::u::u::u::u::u::u::u::u::u::u::u::u::u::u::u::u::u::u:: .bool true::u::u::u::u::u::u::u::u::u::u::u::u::u::u::u::u::u::u::u::u::u::u::u::u::u::u::u::u::u::u::u::u::u::u::u::u::u::u::u::u::u::u::u::u::u::u::u::u::u::u::u::u::u::u::u::u::u::u::u::u::u::u::u::u::u::u::u::u::u::u::u::u::u::u::u::u::[])) rfl ?_
      exact Bn Dy ⟨_,(Option.some.inj h).symm,rfl,hS⟩
     ·try simp only [W,EE,reduceIte,Nat.reduceAdd,Nat.reduceBEq,Bool.false_eq_true,hS.var 0 rfl,hc]
      refine BE h (fun hc h=> ?_) (fun hc h=> ?_)
      ·try simp only [W,hc]
       refine AE DG ?_;refine CC (s' :=(u:: .ptr C6 C7 0 0::u::u::u::u::u::u::u::u::u::u::u::u::u::u::u::u::u::u::u::u::u::u::u::u::u::u::u::u::u::u::u::u::u::u::u::u::u::u::u::u::u::u::u::u:: .bool true::u::u::u::u::u::u::u::u::u::u::u::u::u::u::u::u::u::u::u::u::u::u::u::u::u::u::u::u::u::u::u::u::u::u::u::u::u::u::u::u::u::u::u::u::u::u::u::u::u::u::u::u::u::u::u::u::u::u::u::u::u::u::u::u::u::u::u::u::u::u::u::u::u::u::u::u::[])) rfl ?_
       exact Bn Dy ⟨_,(Option.some.inj h).symm,rfl,hS⟩
      ·try simp only [W,EE,reduceIte,Nat.reduceAdd,Nat.reduceBEq,Bool.false_eq_true,hS.var 0 rfl,hc]
       refine BE h (fun hc h=> ?_) (fun hc h=> ?_)
       ·try simp only [W,hc]
        refine AE DG ?_;refine CC (s' :=(u:: .ptr C6 C7 0 0::u::u::u::u::u::u::u::u::u::u::u::u::u::u::u::u::u::u::u::u::u::u::u::u::u::u::u::u::u::u::u::u::u::u::u::u::u::u::u::u::u::u::u::u:: .bool true::u::u::u::u::u::u::u::u::u::u::u::u::u::u::u::u::u::u::u::u::u::u::u::u::u::u::u::u::u::u::u::u::u::u::u::u::u::u::u::u::u::u::u::u::u::u::u::u::u::u::u::u::u::u::u::u::u::u::u::u::u::u::u::u::u::u::u::u::u::u::u::u::u::u::u::u::[])) rfl ?_
        exact Bn Dy ⟨_,(Option.some.inj h).symm,rfl,hS⟩
       ·try simp only [W,EE,reduceIte,Nat.reduceAdd,Nat.reduceBEq,Bool.false_eq_true,hS.var 0 rfl,hc]
        refine AE DG ?_;refine CC (s' :=(u:: .ptr C6 C7 0 0::u::u::u::u::u::u::u::u::u::u::u::u::u::u::u::u::u::u::u::u::u::u::u::u::u::u::u::u::u::u::u::u::u::u::u::u::u::u::u::u::u::u::u::u:: .bool (decide (300<(a0.C4.length:Int)))::u::u::u::u::u::u::u::u::u::u::u::u::u::u::u::u::u::u::u::u::u::u::u::u::u::u::u::u::u::u::u::u::u::u::u::u::u::u::u::u::u::u::u::u::u::u::u::u::u::u::u::u::u::u::u::u::u::u::u::u::u::u::u::u::u::u::u::u::u::u::u::u::u::u::u::u::[])) rfl ?_
        exact Bn Dy ⟨_,(Option.some.inj h).symm,rfl,hS⟩
 ·obtain ⟨Ew,Dg,rfl,hS⟩:=hq;obtain rfl:=Dg.symm;replace h:=g8;try dsimp only at h
  refine AE D7 ?_;refine AB ?_;simp only [W];refine AR h (fun hc h=> ?_) (fun hc h=> ?_)
  ·refine Aw fun J2 FI=> ?_;refine AS gC ?_;try simp only [W,Nat.reduceAdd]
   refine AE FI ?_;refine Az ?_;refine AF Df ?_;refine AO C8 rfl ?_;try obtain rfl:=Option.some.inj h
   exact hP _ (hS.BA 1 [] (by decide))
  ·refine Ay ?_;refine AE Df ?_;refine Aw fun Hk Ek=> ?_;refine Aw fun GX Ea=> ?_;obtain ⟨Ro,h,Rp⟩:=Option.bind_eq_some_iff.1 h;refine Bm gC (fun s H=> ∃Ef:Bool,Ro=(Ef)∧s=(u:: .ptr C6 C7 0 0::u::u::u::u::u::u::u::u::u::u::u::u::u::u::u::u::u::u::u::u::u::u::u::u::u::u::u::u::u::u::u::u::u::u::u::u::u::u::u::u::u::u::u::u::u::u::u::u::u::u::u::u::u::u::u::u::u::u::u::u::u::u::u::u::u::u::u::u::u::u::u::u::u::u::u::u::u::u::u::u::u::u::u::u::u::u:: .bool Ef::u::u::u::u::u::u::u::u::u::u::u::u::u::u::u::u::u::u::u::u::u::u::u::u::u::u::u::u::u::u::u::u::u::u::[])∧ay H (⟨.ptr C6 C7 0 0,11,[.agg [.int .i64 a0.C0,.int .i64 a0.CY,.int .i64 a0.X,.int .i64 a0.Y,.int .i64 a0.C1,.int .i64 a0.CZ,.int .i64 a0.CW,.int .i64 a0.CX,.fz (a0.C2.map CV),.fz (a0.C3.map CV),.fz (a0.C4.map CV)]]⟩::F)) (fun IU E8=> ?_) (fun s H hq=> ?_)
   ·refine Aw fun Ik E0=> ?_;refine AS gC ?_;try simp only [W,EE,Nat.reduceAdd,Nat.reduceBEq,hS.var 0 rfl]
    refine Bh h fun EW N1 h=> ?_;refine LV N1 hS fun H hS=> ?_;try simp only [W]
    refine BE h (fun hc h=> ?_) (fun hc h=> ?_)
    ·try simp only [W,hc]
     refine AE E0 ?_;refine CC (s' :=(u:: .ptr C6 C7 0 0::u::u::u::u::u::u::u::u::u::u::u::u::u::u::u::u::u::u::u::u::u::u::u::u::u::u::u::u::u::u::u::u::u::u::u::u::u::u::u::u::u::u::u::u::u::u::u::u::u::u::u::u::u::u::u::u::u::u::u::u::u::u::u::u::u::u::u::u::u::u::u::u::u::u::u::u::u::u::u::u::u::u::u::u::u::u:: .bool true::u::u::u::u::u::u::u::u::u::u::u::u::u::u::u::u::u::u::u::u::u::u::u::u::u::u::u::u::u::u::u::u::u::u::[])) rfl ?_
     exact Bn E8 ⟨_,(Option.some.inj h).symm,rfl,hS⟩
    ·try simp only [W,EE,Nat.reduceAdd,Nat.reduceBEq,hS.var 0 rfl,hc]
     refine Bh h fun Eh XY h=> ?_;refine LV XY hS fun H hS=> ?_;try simp only [W,reduceIte,Bool.false_eq_true]
     refine BE h (fun hc h=> ?_) (fun hc h=> ?_)
     ·try simp only [W,hc]
      refine AE E0 ?_;refine CC (s' :=(u:: .ptr C6 C7 0 0::u::u::u::u::u::u::u::u::u::u::u::u::u::u::u::u::u::u::u::u::u::u::u::u::u::u::u::u::u::u::u::u::u::u::u::u::u::u::u::u::u::u::u::u::u::u::u::u::u::u::u::u::u::u::u::u::u::u::u::u::u::u::u::u::u::u::u::u::u::u::u::u::u::u::u::u::u::u::u::u::u::u::u::u::u::u:: .bool true::u::u::u::u::u::u::u::u::u::u::u::u::u::u::u::u::u::u::u::u::u::u::u::u::u::u::u::u::u::u::u::u::u::u::[])) rfl ?_
      exact Bn E8 ⟨_,(Option.some.inj h).symm,rfl,hS⟩
     ·try simp only [W,EE,Nat.reduceAdd,Nat.reduceBEq,hS.var 0 rfl,hc]
      refine Bh h fun DB Lj h=> ?_;refine LV Lj hS fun H hS=> ?_;try simp only [W,reduceIte,Bool.false_eq_true]
      refine BE h (fun hc h=> ?_) (fun hc h=> ?_)
      ·try simp only [W,hc]
       refine AE E0 ?_;refine CC (s' :=(u:: .ptr C6 C7 0 0::u::u::u::u::u::u::u::u::u::u::u::u::u::u::u::u::u::u::u::u::u::u::u::u::u::u::u::u::u::u::u::u::u::u::u::u::u::u::u::u::u::u::u::u::u::u::u::u::u::u::u::u::u::u::u::u::u::u::u::u::u::u::u::u::u::u::u::u::u::u::u::u::u::u::u::u::u::u::u::u::u::u::u::u::u::u:: .bool true::u::u::u::u::u::u::u::u::u::u::u::u::u::u::u::u::u::u::u::u::u::u::u::u::u::u::u::u::u::u::u::u::u::u::[])) rfl ?_
       exact Bn E8 ⟨_,(Option.some.inj h).symm,rfl,hS⟩
      ·try simp only [W,EE,Nat.reduceAdd,Nat.reduceBEq,hS.var 0 rfl,hc]
       refine Bh h fun Qn XZ h=> ?_;refine LV XZ hS fun H hS=> ?_;try simp only [W,reduceIte,Bool.false_eq_true]
       refine AE E0 ?_;refine CC (s' :=(u:: .ptr C6 C7 0 0::u::u::u::u::u::u::u::u::u::u::u::u::u::u::u::u::u::u::u::u::u::u::u::u::u::u::u::u::u::u::u::u::u::u::u::u::u::u::u::u::u::u::u::u::u::u::u::u::u::u::u::u::u::u::u::u::u::u::u::u::u::u::u::u::u::u::u::u::u::u::u::u::u::u::u::u::u::u::u::u::u::u::u::u::u::u:: .bool (!Qn)::u::u::u::u::u::u::u::u::u::u::u::u::u::u::u::u::u::u::u::u::u::u::u::u::u::u::u::u::u::u::u::u::u::u::[])) rfl ?_
       exact Bn E8 ⟨_,(Option.some.inj h).symm,rfl,hS⟩
   ·obtain ⟨Ef,Dg,rfl,hS⟩:=hq;obtain rfl:=Dg.symm;replace h:=Rp;try dsimp only at h
    refine AE Ea ?_;refine AB ?_;simp only [W];refine AR h (fun hc h=> ?_) (fun hc h=> ?_)
    ·refine Aw fun NR G6=> ?_;refine AS gC ?_;try simp only [W,Nat.reduceAdd]
     refine AE G6 ?_;refine Az ?_;refine AF Ek ?_;refine AO C8 rfl ?_;try obtain rfl:=Option.some.inj h
     exact hP _ (hS.BA 1 [] (by decide))
    ·refine Ay ?_;refine AE Ek ?_;refine Aw fun NP G5=> ?_;refine Aw fun Pk IA=> ?_;refine AS gC ?_;try simp only [W,EE,Nat.reduceAdd,Nat.reduceBEq,hS.var 0 rfl]
     refine AE IA ?_;obtain ⟨X0,X1,TY⟩:=Option.bind_eq_some_iff.1 h;refine Bm gC (fun s H=>X0=LR.next ()∧s=(u:: .ptr C6 C7 0 0::u::u::u::u::u::u::u::u::u::u::u::u::u::u::u::u::u::u::u::u::u::u::u::u::u::u::u::u::u::u::u::u::u::u::u::u::u::u::u::u::u::u::u::u::u::u::u::u::u::u::u::u::u::u::u::u::u::u::u::u::u::u::u::u::u::u::u::u::u::u::u::u::u::u::u::u::u::u::u::u::u::u::u::u::u::u::u::u::u::u::u::u::u::u::u::u::u::u::u::u::u::u::u::u::u::u::u::u::u::u::u::u::u::u::u::u::u::u::u::u::u::[])∧ay H (⟨.ptr C6 C7 0 0,11,[.agg [.int .i64 a0.C0,.int .i64 a0.CY,.int .i64 a0.X,.int .i64 a0.Y,.int .i64 a0.C1,.int .i64 a0.CZ,.int .i64 a0.CW,.int .i64 a0.CX,.fz (a0.C2.map CV),.fz (a0.C3.map CV),.fz (a0.C4.map CV)]]⟩::F)) (fun O0 Hs=> ?_) (fun s H hq=> ?_)
     ·refine Ax fun J_ F7=> ?_;refine Bi gC X1 (fun x s H=>s=(u:: .ptr C6 C7 0 0::u::u::u::u::u::u::u::u::u::u::u::u::u::u::u::u::u::u::u::u::u::u::u::u::u::u::u::u::u::u::u::u::u::u::u::u::u::u::u::u::u::u::u::u::u::u::u::u::u::u::u::u::u::u::u::u::u::u::u::u::u::u::u::u::u::u::u::u::u::u::u::u::u::u::u::u::u::u::u::u::u::u::u::u::u::u::u::u:: .fz (a0.C2.map CV):: .int .i64 (a0.C2.length:Int):: .int .i64 x::u::u::u::u::u::u::u::u::u::u::u::u::u::u::u::u::u::u::u::u::u::u::u::u::u::u::u::u::u::u::[])∧ay H (⟨.ptr C6 C7 0 0,11,[.agg [.int .i64 a0.C0,.int .i64 a0.CY,.int .i64 a0.X,.int .i64 a0.Y,.int .i64 a0.C1,.int .i64 a0.CZ,.int .i64 a0.CW,.int .i64 a0.CX,.fz (a0.C2.map CV),.fz (a0.C3.map CV),.fz (a0.C4.map CV)]]⟩::F)) ⟨rfl,hS⟩ (fun DU y37 s H h TZ hi T1 I_=> ?_)
      skip
      try dsimp only at hi
      obtain ⟨rfl,hS⟩:=hi;simp only [Ou] at h;refine Aw fun Nw GC=> ?_;refine AS gC ?_;try simp only [W,EE,Nat.reduceAdd]
      refine AE GC ?_;refine Aw fun OO Hm=> ?_;refine AB ?_;simp only [W];refine AR h (fun hc h=> ?_) (fun hc h=> ?_)
      ·refine Ay ?_;refine AE Hm ?_;refine Aw fun O5 Hw=> ?_;refine Ax fun Rt Ia=> ?_;refine Aw fun Tz JM=> ?_;refine AS gC ?_;try simp only [W,EE,Nat.reduceAdd]
       refine Ba rfl rfl rfl (fun _=>rfl) h fun Gd Pu h=> ?_;try simp only [W,EE,EN,reduceIte,Nat.reduceAdd,Nat.reduceLeDiff]
       refine A8 hS rfl rfl fun abI abJ H hS=> ?_;try simp only [W]
       refine A9 (a:= .agg [.int .i64 Gd.Kind,.int .i64 Gd.X,.int .i64 Gd.Y]) (y' := .agg [.int .i64 Gd.Kind,.int .i64 Gd.X,.int .i64 Gd.Y]) 0 hS rfl rfl rfl rfl rfl rfl rfl rfl fun H hS=> ?_
       try simp only [W]
       refine AE JM ?_;refine Aw fun OQ Il=> ?_;refine AS gC ?_;try simp only [W,EE,reduceIte,Nat.reduceAdd,Nat.reduceLeDiff,hS.var 1 rfl,hS.var 0 rfl]
       refine Bh h fun Sl X2 h=> ?_;refine TX X2 hS fun H hS=> ?_;try simp only [W]
       refine AE Il ?_;refine AB ?_;simp only [W];refine AR h (fun hc h=> ?_) (fun hc h=> ?_)
       ·refine Aw fun Lk Gh=> ?_;refine AS gC ?_;try simp only [W,Nat.reduceAdd]
        refine AE Gh ?_;refine Az ?_;refine AM Ia ?_;refine AF Hw ?_;try obtain rfl:=Option.some.inj h
        obtain rfl:=TZ _ rfl;have h:(some (LR.done false):Option (LR Unit (Bool)))=some (LR.done false):=rfl;refine Bl I_ ?_;refine AM F7 ?_;try obtain rfl:=Option.some.inj h
        obtain rfl:=Option.some.inj TY;have h:(some false:Option (Bool))=some false:=rfl;refine Bo Hs ?_;refine AF G5 ?_;refine AO C8 rfl ?_;try obtain rfl:=Option.some.inj h
        exact hP _ (hS.BA 2 [] (by decide))
       ·refine Ay ?_;refine AJ Ia ?_;refine AE Hw ?_;refine AS gC ?_;try simp only [W,EE,Nat.reduceAdd]
        exact Bj I_ h ⟨rfl,(hS.BA 2 [1] (by decide))⟩
      ·refine AA ?_;refine AG Hm ?_;try obtain rfl:=Option.some.inj h
       obtain rfl:=TZ _ rfl;have h:(some (LR.next ()):Option (LR Unit (Bool)))=some (LR.next ()):=rfl
       refine Bk I_ ?_;refine AK F7 ?_;exact Bn Hs ⟨(Option.some.inj h).symm,rfl,hS⟩
     ·obtain ⟨rfl,rfl,hS⟩:=hq;replace h:=TY;try dsimp only at h
      refine AE G5 ?_;refine Aw fun OT Hn=> ?_;refine Aw fun OU HV=> ?_;refine BG gC [(7,[6])] (by kernel_rfl) rfl (by kernel_rfl) ?_
      try simp only [W,reduceIte,Nat.reduceAdd,iC,lh,Nat.reduceEqDiff,BK,BL,BM,BN,BO,Nat.reduceEqDiff]
      refine Bf rfl rfl ?_;try simp only [W,EE,Nat.reduceAdd,Nat.reduceBEq,hS.var 0 rfl]
      refine BP rfl ?_;simp only [W,EE];have hS:=hS.zb 3;refine Bu (l:=([]:List Hello)) (c:=CV) 0 hS rfl mR rfl rfl rfl rfl (fun _=>rfl) rfl h fun v60 H EU X3 hm h hS=> ?_;try simp only [W,EE,Nat.reduceAdd,Nat.reduceBEq,hS.var 1 rfl]
      refine Bu (l:=EU) (c:=CV) 0 hS rfl X3 rfl rfl rfl rfl (fun _=>rfl) rfl h fun Ht H Ej JA hm h hS=> ?_;refine BH ?_;refine BI (by first|rfl|(simp [aL,W,EE,EN,bN,jl,aG,AV.cells,BM,BL,BN,hS.var 1 rfl];done)) ?_
      refine BJ ?_;try simp only [W,EE]
      refine Be 0 hS rfl JA rfl ?_;try simp only [W]
      refine AE HV ?_;obtain ⟨Ru,X4,T2⟩:=Option.bind_eq_some_iff.1 h;refine Bm gC (fun s H=>Ru=LR.next ()∧s=(u::u::u::u::u::u::u::u::u::u::u::u::u::u::u::u::u::u::u::u::u::u::u::u::u::u::u::u::u::u::u::u::u::u::u::u::u::u::u::u::u::u::u::u::u::u::u::u::u::u::u::u::u::u::u::u::u::u::u::u::u::u::u::u::u::u::u::u::u::u::u::u::u::u::u::u::u::u::u::u::u::u::u::u::u::u::u::u::u::u::u::u::u::u::u::u::u::u::u::u::u::u::u::u::u::u::u::u::u::u::u::u::u::u::u::u::u::u::u::u::u::u::u::[])∧ay H (F)) (fun O7 HA=> ?_) (fun s H hq=> ?_)
      ·refine Ax fun O2 HZ=> ?_;refine Bi gC X4 (fun x s H=>s=(u:: .ptr C6 C7 0 0::u::u::u::u::u::u::u::u::u::u::u::u::u::u::u::u::u::u::u::u::u::u::u::u::u::u::u::u::u::u::u::u::u::u::u::u::u::u::u::u::u::u::u::u::u::u::u::u::u::u::u::u::u::u::u::u::u::u::u::u::u::u::u::u::u::u::u::u::u::u::u::u::u::u::u::u::u::u::u::u::u::u::u::u::u::u::u::u::u::u::u::u::u::u::u::u::u::u::u::u::u::u::u::u::u::Ht:: .int .i64 (Ej.length:Int):: .int .i64 x::u::u::u::u::u::u::u::u::u::u::u::u::u::[])∧ay H (⟨Ht,3,Ej.map CV⟩::⟨.ptr C6 C7 0 0,11,[.agg [.int .i64 a0.C0,.int .i64 a0.CY,.int .i64 a0.X,.int .i64 a0.Y,.int .i64 a0.C1,.int .i64 a0.CZ,.int .i64 a0.CW,.int .i64 a0.CX,.fz (a0.C2.map CV),.fz (a0.C3.map CV),.fz (a0.C4.map CV)]]⟩::F)) ⟨rfl,hS⟩ (fun DX y72 s H h T3 hi Qv IQ=> ?_)
       skip
       try dsimp only at hi
       obtain ⟨rfl,hS⟩:=hi;simp only [Ov] at h;refine Aw fun S8 Kf=> ?_;refine AS gC ?_;try simp only [W,EE,Nat.reduceAdd]
       refine AE Kf ?_;refine Aw fun S4 IY=> ?_;refine AB ?_;simp only [W];refine AR h (fun hc h=> ?_) (fun hc h=> ?_)
       ·refine Ay ?_;refine AE IY ?_;refine Aw fun QH H4=> ?_;refine Ax fun Vx O9=> ?_;refine Aw fun U9 OV=> ?_;refine AS gC ?_;try simp only [W,EE,Nat.reduceAdd]
        refine Bb 0 hS rfl rfl rfl rfl rfl h (fun IJ abK abL abM X5 h X6=> ?_) JA.ne;obtain ⟨abN,X7,X8⟩:=hS.elem 0 rfl X6 X5;try simp only [W,EE,EN,reduceIte,Nat.reduceAdd,Nat.reduceLeDiff,X7,X8]
        refine A8 hS rfl rfl fun abO abP H hS=> ?_;try simp only [W]
        refine A9 (a:= .agg [.int .i64 IJ.Kind,.int .i64 IJ.X,.int .i64 IJ.Y]) (y' := .agg [.int .i64 IJ.Kind,.int .i64 IJ.X,.int .i64 IJ.Y]) 0 hS rfl rfl rfl rfl rfl rfl rfl rfl fun H hS=> ?_
        try simp only [W]
        refine AE OV ?_;refine Aw fun O3 Is=> ?_;obtain ⟨X9,h,X_⟩:=Option.bind_eq_some_iff.1 h;refine Bm gC (fun s H=> ∃HP:Bool,X9=(HP)∧s=(u:: .ptr C6 C7 0 0::u::u::u::u::u::u::u::u::u::u::u::u::u::u::u::u::u::u::u::u::u::u::u::u::u::u::u::u::u::u::u::u::u::u::u::u::u::u::u::u::u::u::u::u::u::u::u::u::u::u::u::u::u::u::u::u::u::u::u::u::u::u::u::u::u::u::u::u::u::u::u::u::u::u::u::u::u::u::u::u::u::u::u::u::u::u::u::u::u::u::u::u::u::u::u::u::u::u::u::u::u::u::u::u::u::Ht:: .int .i64 (Ej.length:Int):: .int .i64 DX::u::u::u::u::u::u::u::u::u::u::u:: .bool HP::u::[])∧ay H (⟨Ht,3,Ej.map CV⟩::⟨.ptr C6 C7 0 0,11,[.agg [.int .i64 a0.C0,.int .i64 a0.CY,.int .i64 a0.X,.int .i64 a0.Y,.int .i64 a0.C1,.int .i64 a0.CZ,.int .i64 a0.CW,.int .i64 a0.CX,.fz (a0.C2.map CV),.fz (a0.C3.map CV),.fz (a0.C4.map CV)]]⟩::F)) (fun S9 Kg=> ?_) (fun s H hq=> ?_)
        ·refine Aw fun T4 JQ=> ?_;refine AS gC ?_;try simp only [W,EE,Nat.reduceAdd,Nat.reduceBEq,hS.var 0 rfl]
         refine BE h (fun hc h=> ?_) (fun hc h=> ?_)
         ·try simp only [W,hc]
          refine AE JQ ?_;refine CC (s' :=(u:: .ptr C6 C7 0 0::u::u::u::u::u::u::u::u::u::u::u::u::u::u::u::u::u::u::u::u::u::u::u::u::u::u::u::u::u::u::u::u::u::u::u::u::u::u::u::u::u::u::u::u::u::u::u::u::u::u::u::u::u::u::u::u::u::u::u::u::u::u::u::u::u::u::u::u::u::u::u::u::u::u::u::u::u::u::u::u::u::u::u::u::u::u::u::u::u::u::u::u::u::u::u::u::u::u::u::u::u::u::u::u::u::Ht:: .int .i64 (Ej.length:Int):: .int .i64 DX::u::u::u::u::u::u::u::u::u::u::u:: .bool true::u::[])) rfl ?_
          exact Bn Kg ⟨_,(Option.some.inj h).symm,rfl,(hS.BA 3 [1,2] (by decide))⟩
         ·try simp only [W,EE,reduceIte,Nat.reduceAdd,Nat.reduceLeDiff,hS.var 2 rfl,hS.var 0 rfl,hc]
          refine Bh h fun Nj Q8 h=> ?_;refine TX Q8 hS fun H hS=> ?_;try simp only [W,reduceIte,Bool.false_eq_true]
          refine AE JQ ?_;refine CC (s' :=(u:: .ptr C6 C7 0 0::u::u::u::u::u::u::u::u::u::u::u::u::u::u::u::u::u::u::u::u::u::u::u::u::u::u::u::u::u::u::u::u::u::u::u::u::u::u::u::u::u::u::u::u::u::u::u::u::u::u::u::u::u::u::u::u::u::u::u::u::u::u::u::u::u::u::u::u::u::u::u::u::u::u::u::u::u::u::u::u::u::u::u::u::u::u::u::u::u::u::u::u::u::u::u::u::u::u::u::u::u::u::u::u::u::Ht:: .int .i64 (Ej.length:Int):: .int .i64 DX::u::u::u::u::u::u::u::u::u::u::u:: .bool (!Nj)::u::[])) rfl ?_
          exact Bn Kg ⟨_,(Option.some.inj h).symm,rfl,(hS.BA 3 [1,2] (by decide))⟩
        ·obtain ⟨HP,Dg,rfl,hS⟩:=hq;obtain rfl:=Dg.symm;replace h:=X_;try dsimp only at h
         refine AE Is ?_;refine AB ?_;simp only [W];refine AR h (fun hc h=> ?_) (fun hc h=> ?_)
         ·refine Aw fun Qx Ho=> ?_;refine AS gC ?_;try simp only [W,Nat.reduceAdd]
          refine AE Ho ?_;refine Az ?_;refine AM O9 ?_;refine AF H4 ?_;try obtain rfl:=Option.some.inj h
          obtain rfl:=T3 _ rfl;have h:(some (LR.done false):Option (LR Unit (Bool)))=some (LR.done false):=rfl;refine Bl IQ ?_;refine AM HZ ?_;try obtain rfl:=Option.some.inj h
          obtain rfl:=Option.some.inj T2;have h:(some false:Option (Bool))=some false:=rfl;refine Bo HA ?_;refine AF Hn ?_;refine AO C8 rfl ?_;try obtain rfl:=Option.some.inj h
          exact hP _ (hS.BA 2 [] (by decide))
         ·refine Ay ?_;refine AJ O9 ?_;refine AE H4 ?_;refine AS gC ?_;try simp only [W,EE,Nat.reduceAdd]
          exact Bj IQ h ⟨rfl,hS⟩
       ·refine AA ?_;refine AG IY ?_;try obtain rfl:=Option.some.inj h
        obtain rfl:=T3 _ rfl;have h:(some (LR.next ()):Option (LR Unit (Bool)))=some (LR.next ()):=rfl
        refine Bk IQ ?_;refine AK HZ ?_;exact Bn HA ⟨(Option.some.inj h).symm,rfl,(hS.BA 2 [] (by decide))⟩
      ·obtain ⟨rfl,rfl,hS⟩:=hq;replace h:=T2;try dsimp only at h
       refine AE Hn ?_;refine Aw fun Ya PJ=> ?_;refine AS gC ?_;try simp only [W,Nat.reduceAdd]
       refine AE PJ ?_;refine Az ?_;refine AO C8 rfl ?_;try obtain rfl:=Option.some.inj h
       exact hP _ hS
theorem Yb {a0:C5} {a1:Dc} {r:(C5×Bool)} (h:KS a0 a1=some r) {F:List It} {H:J} (hS:ay H (F)) {P:AV→J→Prop} (hP: ∀G7:AV,bm G7→ ∀JN:AV,bm JN→ ∀FU:AV,bm FU→ ∀H',ay H' (⟨G7,3,r.1.C2.map CV⟩::⟨JN,3,r.1.C3.map CV⟩::⟨FU,3,r.1.C4.map CV⟩::F)→P (.aC [.agg [.int .i64 r.1.C0,.int .i64 r.1.CY,.int .i64 r.1.X,.int .i64 r.1.Y,.int .i64 r.1.C1,.int .i64 r.1.CZ,.int .i64 r.1.CW,.int .i64 r.1.CX,G7,JN,FU],.bool r.2]) H'):au C 69 [.agg [.int .i64 a0.C0,.int .i64 a0.CY,.int .i64 a0.X,.int .i64 a0.Y,.int .i64 a0.C1,.int .i64 a0.CZ,.int .i64 a0.CW,.int .i64 a0.CX,.fz (a0.C2.map CV),.fz (a0.C3.map CV),.fz (a0.C4.map CV)],.agg [.int .i64 a1.Kind,.int .i64 a1.K]] H P:=by
 refine AW gC (res:=[.cell 4 73,.tmp 5]) (n:=24) rfl rfl rfl rfl fun K0 C8=> ?_;simp only [W,Nat.reduceSub,Nat.reduceAdd,List.replicate];unfold KS at h;refine Aw fun K1 Da=> ?_;refine AS gC ?_;try simp only [W,Nat.reduceAdd]
 refine A7 hS rfl rfl rfl rfl fun C6 C7 H hS=> ?_;try simp only [W]
 refine A7 hS rfl rfl rfl rfl fun Dz DA H hS=> ?_;try simp only [W]
 refine A8 hS rfl rfl fun DE DF H hS=> ?_;try simp only [W]
 refine AE Da ?_;refine Aw fun K8 Dp=> ?_;refine Aw fun K9 Dy=> ?_;refine AS gC ?_;try simp only [W,EE,reduceIte,Nat.reduceAdd,Nat.reduceLeDiff,hS.var 2 rfl]
 refine Bh h fun DP Ih h=> ?_;refine PI Ih hS fun H hS=> ?_;try simp only [W]
 refine AE Dy ?_;refine AB ?_;simp only [W];refine AR h (fun hc h=> ?_) (fun hc h=> ?_)
 ·refine Aw fun Js Fv=> ?_;refine AS gC ?_;try simp only [W,EE,Nat.reduceAdd]
  refine BF rfl rfl rfl rfl rfl ?_;try simp only [W]
  refine A9 (a:= .agg [.int .i64 0,.int .i64 0,.int .i64 0,.int .i64 0,.int .i64 0,.int .i64 0,.int .i64 0,.int .i64 0,.nil,.nil,.nil]) (y' := .agg [.int .i64 0,.int .i64 0,.int .i64 0,.int .i64 0,.int .i64 0,.int .i64 0,.int .i64 0,.int .i64 0,.nil,.nil,.nil]) 0 hS rfl rfl rfl rfl rfl rfl rfl rfl fun H hS=> ?_
  try simp only [W]
  refine AE Fv ?_;refine Az ?_;refine AF Dp ?_;refine AN C8 (BC rfl rfl (hS.var 0 rfl) rfl (BD rfl rfl)) ?_;try obtain rfl:=Option.some.inj h
  exact hP _ mQ _ mQ _ mQ _ ((((hS.za 3).za 3).za 3).BA 6 [0,1,2] (by decide))
 ·refine Ay ?_;refine AE Dp ?_;refine Aw fun Lb FH=> ?_;refine BG gC [(3,[]),(8,[6])] (by kernel_rfl) rfl (by kernel_rfl) ?_
  try simp only [W,EE,reduceIte,Nat.reduceAdd,Nat.reduceLeDiff,Nat.reduceBEq,hS.var 2 rfl,iC,lh,Nat.reduceEqDiff,List.contains_cons,Nat.reduceBEq,Bool.or_self]
  refine B9 (bO:=[[.sc,.sc,.sc,.sc,.sc,.sc,.sc,.sc,.sl [.sc,.sc,.sc],.sl [.sc,.sc,.sc],.sl [.sc,.sc,.sc]]]) (ys:=[.agg [.int .i64 a0.C0,.int .i64 a0.CY,.int .i64 a0.X,.int .i64 a0.Y,.int .i64 a0.C1,.int .i64 a0.CZ,.int .i64 a0.CW,.int .i64 a0.CX,.fz (a0.C2.map CV),.fz (a0.C3.map CV),.fz (a0.C4.map CV)]]) h rfl (by rfl) fun FE RM h=>⟨.agg [.int .i64 FE.C0,.int .i64 FE.CY,.int .i64 FE.X,.int .i64 FE.Y,.int .i64 FE.C1,.int .i64 FE.CZ,.int .i64 FE.CW,.int .i64 FE.CX,.own 3 (FE.C2.map CV),.own 3 (FE.C3.map CV),.own 3 (FE.C4.map CV)],Lf RM (ay.nil _) fun EJ Fh FM Gb I4 JK H hS=>B1 rfl (B0 (By rfl (By rfl (By rfl (By rfl (By rfl (By rfl (By rfl (By rfl (Bz 0 hS rfl Fh (fun _ _=>by simp [aX,aO,cg,dl,CV]) fun H hS=>Bz 0 hS rfl Gb (fun _ _=>by simp [aX,aO,cg,dl,CV]) fun H hS=>Bz 0 hS rfl JK (fun _ _=>by simp [aX,aO,cg,dl,CV]) fun H hS=>Bx (BX rfl))))))))))),(Cd (Cc rfl (Cc rfl (Cc rfl (Cc rfl (Cc rfl (Cc rfl (Cc rfl (Cc rfl (Cc (Ca _ (fun _=>rfl) _) (Cc (Ca _ (fun _=>rfl) _) (Cc (Ca _ (fun _=>rfl) _) Cb)))))))))))),?_⟩
  refine B6 ?_;refine B5 ?_;refine B3 (fun _=>rfl) ?_;refine B3 (fun _=>rfl) ?_;refine B3 (fun _=>rfl) ?_;refine B3 (fun _=>rfl) ?_;refine B3 (fun _=>rfl) ?_;refine B3 (fun _=>rfl) ?_;refine B3 (fun _=>rfl) ?_;refine B3 (fun _=>rfl) ?_;refine B4 hS (fun _ _=>rfl) (fun _=>rfl) fun Kr H I7 hS=> ?_;refine B4 hS (fun _ _=>rfl) (fun _=>rfl) fun v20 H Jy hS=> ?_;refine B4 hS (fun _ _=>rfl) (fun _=>rfl) fun IT H Rg hS=> ?_;refine B2 ?_;refine B2 ?_;try simp only [List.headD_cons]
  try simp only [W,EE,reduceIte,Nat.reduceAdd,Nat.reduceLeDiff,hS.var 4 rfl]
  refine Bh h fun EW N1 h=> ?_;obtain ⟨Eh,DB⟩:=EW;try dsimp only at h
  refine NH N1 (hS.BA 6 [2,1,0,3,4,5] (by decide)) I7 Jy Rg fun Gm HY Gg Hr v30 G0 H hS=> ?_
  try simp only [W]
  refine A8 hS rfl rfl fun LW LX H hS=> ?_;try simp only [W]
  refine A9 (a:= .agg [.int .i64 Eh.C0,.int .i64 Eh.CY,.int .i64 Eh.X,.int .i64 Eh.Y,.int .i64 Eh.C1,.int .i64 Eh.CZ,.int .i64 Eh.CW,.int .i64 Eh.CX,Gm,Gg,v30]) (y' := .agg [.int .i64 Eh.C0,.int .i64 Eh.CY,.int .i64 Eh.X,.int .i64 Eh.Y,.int .i64 Eh.C1,.int .i64 Eh.CZ,.int .i64 Eh.CW,.int .i64 Eh.CX,Gm,Gg,v30]) 0 hS rfl rfl rfl rfl rfl (by simp only [dB,List.all_cons,List.all_nil,HY.pF,Hr.pF,G0.pF];rfl) rfl rfl fun H hS=> ?_
  refine BH ?_;refine BI (by first|rfl|(simp [aL,W,EE,EN,bN,jl,aG,AV.cells,hS.var 0 rfl,hS.var 4 rfl,hS.var 5 rfl,hS.var 6 rfl];done)) ?_
  refine BJ ?_;try simp only [W]
  refine AE FH ?_;refine Aw fun J_ F7=> ?_;refine Aw fun T1 I_=> ?_;refine AS gC ?_;try simp only [W,Nat.reduceAdd]
  refine AE I_ ?_;refine AB ?_;simp only [W];refine AR h (fun hc h=> ?_) (fun hc h=> ?_)
  ·refine Aw fun Yc N2=> ?_;refine AS gC ?_;try simp only [W,EE,Nat.reduceAdd]
   refine BF rfl rfl rfl rfl rfl ?_;try simp only [W]
   refine A9 (a:= .agg [.int .i64 0,.int .i64 0,.int .i64 0,.int .i64 0,.int .i64 0,.int .i64 0,.int .i64 0,.int .i64 0,.nil,.nil,.nil]) (y' := .agg [.int .i64 0,.int .i64 0,.int .i64 0,.int .i64 0,.int .i64 0,.int .i64 0,.int .i64 0,.int .i64 0,.nil,.nil,.nil]) 4 hS rfl rfl rfl rfl rfl rfl rfl rfl fun H hS=> ?_
   try simp only [W]
   refine AE N2 ?_;refine Az ?_;refine AF F7 ?_;refine AN C8 (BC rfl rfl (hS.var 4 rfl) rfl (BD rfl rfl)) ?_;try obtain rfl:=Option.some.inj h
   exact hP _ mQ _ mQ _ mQ _ ((((hS.za 3).za 3).za 3).BA 10 [0,1,2] (by decide))
  ·refine Ay ?_;refine AE F7 ?_;refine Aw fun Ty Ku=> ?_;refine AS gC ?_;try simp only [W,EE,reduceIte,Nat.reduceAdd,Nat.reduceLeDiff,Nat.reduceBEq,hS.var 0 rfl,List.contains_cons,Nat.reduceBEq,Bool.or_self]
   refine B9 (bO:=[[.sc,.sc,.sc,.sc,.sc,.sc,.sc,.sc,.sl [.sc,.sc,.sc],.sl [.sc,.sc,.sc],.sl [.sc,.sc,.sc]]]) (ys:=[.agg [.int .i64 Eh.C0,.int .i64 Eh.CY,.int .i64 Eh.X,.int .i64 Eh.Y,.int .i64 Eh.C1,.int .i64 Eh.CZ,.int .i64 Eh.CW,.int .i64 Eh.CX,.fz (Eh.C2.map CV),.fz (Eh.C3.map CV),.fz (Eh.C4.map CV)]]) h rfl (BW (BR (zk rfl (zk rfl (zk rfl (zk rfl (zk rfl (zk rfl (zk rfl (zk rfl (zk (BT hS 1 rfl HY (fun _=>rfl)) (zk (BT hS 2 rfl Hr (fun _=>rfl)) (zk (BT hS 3 rfl G0 (fun _=>rfl)) (BQ _))))))))))))) BV) fun Eo RN h=>⟨.agg [.int .i64 Eo.C0,.int .i64 Eo.CY,.int .i64 Eo.X,.int .i64 Eo.Y,.int .i64 Eo.C1,.int .i64 Eo.CZ,.int .i64 Eo.CW,.int .i64 Eo.CX,.own 3 (Eo.C2.map CV),.own 3 (Eo.C3.map CV),.own 3 (Eo.C4.map CV)],Lf RN (ay.nil _) fun GF GG TD NV LK Ks H hS=>B1 rfl (B0 (By rfl (By rfl (By rfl (By rfl (By rfl (By rfl (By rfl (By rfl (Bz 0 hS rfl GG (fun _ _=>by simp [aX,aO,cg,dl,CV]) fun H hS=>Bz 0 hS rfl NV (fun _ _=>by simp [aX,aO,cg,dl,CV]) fun H hS=>Bz 0 hS rfl Ks (fun _ _=>by simp [aX,aO,cg,dl,CV]) fun H hS=>Bx (BX rfl))))))))))),(Cd (Cc rfl (Cc rfl (Cc rfl (Cc rfl (Cc rfl (Cc rfl (Cc rfl (Cc rfl (Cc (Ca _ (fun _=>rfl) _) (Cc (Ca _ (fun _=>rfl) _) (Cc (Ca _ (fun _=>rfl) _) Cb)))))))))))),?_⟩
   refine B6 ?_;refine B5 ?_;refine B3 (fun _=>rfl) ?_;refine B3 (fun _=>rfl) ?_;refine B3 (fun _=>rfl) ?_;refine B3 (fun _=>rfl) ?_;refine B3 (fun _=>rfl) ?_;refine B3 (fun _=>rfl) ?_;refine B3 (fun _=>rfl) ?_;refine B3 (fun _=>rfl) ?_;refine B4 hS (fun _ _=>rfl) (fun _=>rfl) fun FL H F8 hS=> ?_;refine B4 hS (fun _ _=>rfl) (fun _=>rfl) fun EA H Hy hS=> ?_;refine B4 hS (fun _ _=>rfl) (fun _=>rfl) fun Lq H Kd hS=> ?_;refine B2 ?_;refine B2 ?_;try simp only [List.headD_cons]
   try simp only [W]
   refine A9 (a:= .agg [.int .i64 Eo.C0,.int .i64 Eo.CY,.int .i64 Eo.X,.int .i64 Eo.Y,.int .i64 Eo.C1,.int .i64 Eo.CZ,.int .i64 Eo.CW,.int .i64 Eo.CX,FL,EA,Lq]) (y' := .agg [.int .i64 Eo.C0,.int .i64 Eo.CY,.int .i64 Eo.X,.int .i64 Eo.Y,.int .i64 Eo.C1,.int .i64 Eo.CZ,.int .i64 Eo.CW,.int .i64 Eo.CX,FL,EA,Lq]) 7 hS rfl rfl rfl rfl rfl (by simp only [dB,List.all_cons,List.all_nil,F8.pF,Hy.pF,Kd.pF];rfl) rfl rfl fun H hS=> ?_
   try simp only [W]
   refine AE Ku ?_;refine Az ?_;refine AN C8 (BC rfl rfl (hS.var 7 rfl) rfl (BD rfl rfl)) ?_;try obtain rfl:=Option.some.inj h
   exact hP _ F8 _ Hy _ Kd _ (hS.BA 10 [2,1,0] (by decide))
end Go.Gq
