import Derived.Test.YtclgbpneokeaeaaGreatVeG1
import Derived.Test.YtclgbpneokeaeaaGreatProg
import Derived.Test.YtclgbpneokeaeaaGreatVaG
import Derived.KernelRfl
open Go Go.VS
set_option maxRecDepth 8000
set_option maxHeartbeats 4000000
namespace Go.GC
theorem Tm {a0:List Span} {a1:Int} {r:(Bool)} (h:Le a0 a1=some r) {F:List It} {H:J} (hS:az H (F)) {P:AV→J→Prop} (hP: ∀H',az H' (F)→P (.bool r) H'):aq C 71 [.fz (a0.map Ej),.int .i64 a1] H P:=by
 refine Cn gC (res:=[.tmp 4]) (n:=23) rfl rfl rfl rfl fun K0 El=> ?_;simp only [W,Nat.reduceSub,Nat.reduceAdd,List.replicate];unfold Le at h;refine B3 fun K1 Er=> ?_;refine Ck gC ?_;try simp only [W,Nat.reduceAdd]
 refine B_ Er ?_;refine B3 fun K2 zU=> ?_;refine Ck gC ?_;try simp only [W,Nat.reduceAdd]
 refine CB h fun b3 kQ h=> ?_;refine O1 kQ hS fun H hS=> ?_;try simp only [W]
 refine C4 h (fun hc h=> ?_) (fun hc h=> ?_)
 ·try simp only [W,EE,hc]
  refine C4 h (fun hc h=> ?_) (fun hc h=> ?_)
  ·try simp only [W,reduceIte,hc]
   refine B_ zU ?_;refine B6 ?_;refine Ch El rfl ?_;try obtain rfl:=Option.some.inj h
   exact hP _ hS
  ·try simp only [W,EE,hc]
   refine Cu rfl rfl rfl (fun _=>rfl) h fun F7 Kw h=> ?_;try simp only [W,EE,EN,reduceIte,Nat.reduceAdd,Nat.reduceBEq,Bool.false_eq_true]
   refine B_ zU ?_;refine B6 ?_;refine Ch El rfl ?_;try obtain rfl:=Option.some.inj h
   exact hP _ hS
 ·try simp only [W,hc]
  refine B_ zU ?_;refine B6 ?_;refine Ch El rfl ?_;try obtain rfl:=Option.some.inj h
  exact hP _ hS
theorem XG {a0:Span} {a1:Int} {i1:Nat} {w1:Nat} {r:(Bool)} (h:N6 a0 a1=some r) {F:List It} {H:J} (O2:⟨.ptr i1 w1 0 0,1,[.int .i64 a1]⟩∈F) (hS:az H (F)) {P:AV→J→Prop} (hP: ∀H',az H' (F)→P (.bool r) H'):aq C 143 [.agg [.int .i64 a0.En,.int .i64 a0.To],.ptr i1 w1 0 0] H P:=by
 refine Cn gC (res:=[.tmp 3]) (n:=14) rfl rfl rfl rfl fun K0 El=> ?_;simp only [W,Nat.reduceSub,Nat.reduceAdd,List.replicate];unfold N6 at h;refine B3 fun K1 Er=> ?_;refine Ck gC ?_;try simp only [W,Nat.reduceAdd]
 refine Cq hS rfl rfl rfl rfl fun Eo Ep H hS=> ?_;try simp only [W]
 refine B_ Er ?_;refine B3 fun K4 EC=> ?_;refine Ck gC ?_;try simp only [W,EE,Nat.reduceAdd,Nat.reduceBEq,hS.CQ (List.mem_cons_of_mem _ (O2)),hS.var 0 rfl]
 refine C4 h (fun hc h=> ?_) (fun hc h=> ?_)
 ·try simp only [W,EE,reduceIte,Nat.reduceAdd,Nat.reduceBEq,hS.CQ (List.mem_cons_of_mem _ (O2)),hS.var 0 rfl,hc]
  refine B_ EC ?_;refine B6 ?_;refine Ch El rfl ?_;try obtain rfl:=Option.some.inj h
  exact hP _ (hS.C0 1 [] (by decide))
 ·try simp only [W,hc]
  refine B_ EC ?_;refine B6 ?_;refine Ch El rfl ?_;try obtain rfl:=Option.some.inj h
  exact hP _ (hS.C0 1 [] (by decide))
theorem XH {a0:List Span} {g1:Span→Option Bool} {f1:FuncId} {c1:List AV} {r:(Int)} (h:My a0 g1=some r) {F:List It} {H:J} (cJ: ∀{x0:Span} {r:Bool},g1 x0=some r→ ∀(L:List It) (n:Nat),L.drop n=F→ ∀(H:J),az H L→ ∀(P:AV→J→Prop),(∀H',az H' L→P (.bool r) H')→aq C f1 ([.agg [.int .i64 x0.En,.int .i64 x0.To]] ++ c1) H P) (hS:az H (F)) {P:AV→J→Prop} (hP: ∀H',az H' (F)→P (.int .i64 r) H'):aq C 184 [.fz (a0.map Ej),.fn f1 c1] H P:=by
 refine Cn gC (res:=[.tmp 4]) (n:=19) rfl rfl rfl rfl fun K0 El=> ?_;simp only [W,Nat.reduceSub,Nat.reduceAdd,List.replicate];unfold My at h;refine B3 fun K1 Er=> ?_;refine Ck gC ?_;try simp only [W,Nat.reduceAdd]
 refine B_ Er ?_;refine B3 fun K2 zU=> ?_;refine B3 fun K3 EJ=> ?_;refine Ck gC ?_;try simp only [W,EE,Nat.reduceAdd]
 refine B_ EJ ?_;obtain ⟨Gp,GJ,g12⟩:=Option.bind_eq_some_iff.1 h;refine CG gC (fun s H=>Gp=LR.next ()∧s=[u,u,u,u,u,u,u,u,u,u,u,u,u,u,u,u,u,u,u]∧az H (F)) (fun K7 EI=> ?_) (fun s H hq=> ?_)
 ·refine B4 fun K8 EK=> ?_;refine CC gC GJ (fun x s H=>s=[.fz (a0.map Ej),.fn f1 c1,u,u,u,u,u,.int .i64 (a0.length:Int),.int .i64 x,u,u,u,u,u,u,u,u,u,u]∧az H (F)) ⟨rfl,hS⟩ (fun Ey HV s H h FP hi K9 EL=> ?_)
  skip
  try dsimp only at hi
  obtain ⟨rfl,hS⟩:=hi;simp only [PJ] at h;refine B3 fun Hi Fz=> ?_;refine Ck gC ?_;try simp only [W,EE,Nat.reduceAdd]
  refine B_ Fz ?_;refine B3 fun G4 E8=> ?_;refine B8 ?_;simp only [W];refine Cj h (fun hc h=> ?_) (fun hc h=> ?_)
  ·refine B5 ?_;refine B_ E8 ?_;refine B3 fun Gm EP=> ?_;refine B4 fun Gc EM=> ?_;refine B3 fun Gd EQ=> ?_;refine Ck gC ?_;try simp only [W,Nat.reduceAdd]
   refine B_ EQ ?_;refine B3 fun GR Fa=> ?_;refine Ck gC ?_;try simp only [W,EE,Nat.reduceAdd]
   refine Cu rfl rfl rfl (fun _=>rfl) h fun FE Ll h=> ?_;try simp only [W,EE,EN,reduceIte,Nat.reduceAdd,Nat.reduceLeDiff]
   refine CB h fun EW Ip h=> ?_;refine cJ Ip _ 0 rfl _ hS _ fun H hS=> ?_;try simp only [W]
   refine B_ Fa ?_;refine B8 ?_;simp only [W];refine Cj h (fun hc h=> ?_) (fun hc h=> ?_)
   ·refine B3 fun Ik FH=> ?_;refine Ck gC ?_;try simp only [W,Nat.reduceAdd]
    refine B_ FH ?_;refine B6 ?_;refine Cf EM ?_;refine Ca EP ?_;try obtain rfl:=Option.some.inj h
    obtain rfl:=FP _ rfl;have h:(some (LR.done Ey):Option (LR Unit (Int)))=some (LR.done Ey):=rfl;refine CF EL ?_;refine Cf EK ?_;try obtain rfl:=Option.some.inj h
    obtain rfl:=Option.some.inj g12;have h:(some Ey:Option (Int))=some Ey:=rfl;refine CI EI ?_;refine Ca zU ?_;refine Ch El rfl ?_;try obtain rfl:=Option.some.inj h
    exact hP _ hS
   ·refine B5 ?_;refine Cd EM ?_;refine B_ EP ?_;refine Ck gC ?_;try simp only [W,EE,Nat.reduceAdd]
    exact CD EL h ⟨rfl,hS⟩
  ·refine B7 ?_;refine Cb E8 ?_;try obtain rfl:=Option.some.inj h
   obtain rfl:=FP _ rfl;have h:(some (LR.next ()):Option (LR Unit (Int)))=some (LR.next ()):=rfl
   refine CE EL ?_;refine Ce EK ?_;exact CH EI ⟨(Option.some.inj h).symm,rfl,hS⟩
 ·obtain ⟨rfl,rfl,hS⟩:=hq;replace h:=g12;try dsimp only at h
  refine B_ zU ?_;refine B3 fun Il FD=> ?_;refine Ck gC ?_;try simp only [W,Nat.reduceAdd]
  refine B_ FD ?_;refine B6 ?_;refine Ch El rfl ?_;try obtain rfl:=Option.some.inj h
  exact hP _ hS
theorem XI {a0:List Span} {g1:Span→Option Bool} {f1:FuncId} {c1:List AV} {r:(Bool)} (h:Mz a0 g1=some r) {F:List It} {H:J} (cJ: ∀{x0:Span} {r:Bool},g1 x0=some r→ ∀(L:List It) (n:Nat),L.drop n=F→ ∀(H:J),az H L→ ∀(P:AV→J→Prop),(∀H',az H' L→P (.bool r) H')→aq C f1 ([.agg [.int .i64 x0.En,.int .i64 x0.To]] ++ c1) H P) (hS:az H (F)) {P:AV→J→Prop} (hP: ∀H',az H' (F)→P (.bool r) H'):aq C 142 [.fz (a0.map Ej),.fn f1 c1] H P:=by
 refine Cn gC (res:=[.tmp 4]) (n:=9) rfl rfl rfl rfl fun K0 El=> ?_;simp only [W,Nat.reduceSub,Nat.reduceAdd,List.replicate];unfold Mz at h;refine B3 fun K1 Er=> ?_;refine Ck gC ?_;try simp only [W,Nat.reduceAdd]
 refine B_ Er ?_;refine B3 fun K2 zU=> ?_;refine Ck gC ?_;try simp only [W,Nat.reduceAdd]
 refine CB h fun b3 kQ h=> ?_;refine XH kQ cJ hS fun H hS=> ?_;try simp only [W,EE]
 refine B_ zU ?_;refine B6 ?_;refine Ch El rfl ?_;try obtain rfl:=Option.some.inj h
 exact hP _ hS
theorem KH {a0:List Span} {a1:Int} {r:(Bool)} (h:I6 a0 a1=some r) {F:List It} {H:J} (hS:az H (F)) {P:AV→J→Prop} (hP: ∀H',az H' (F)→P (.bool r) H'):aq C 73 [.fz (a0.map Ej),.int .i64 a1] H P:=by
 refine Cn gC (res:=[.tmp 4]) (n:=8) rfl rfl rfl rfl fun K0 El=> ?_;simp only [W,Nat.reduceSub,Nat.reduceAdd,List.replicate];unfold I6 at h;refine B3 fun K1 Er=> ?_;refine Ck gC ?_;try simp only [W,Nat.reduceAdd]
 refine Cq hS rfl rfl rfl rfl fun Eo Ep H hS=> ?_;try simp only [W]
 refine B_ Er ?_;refine B3 fun K4 EC=> ?_;refine Ck gC ?_;try simp only [W,Nat.reduceAdd]
 refine CB h fun Hs QI h=> ?_;refine XI QI (fun h _ n hL _ hS _ hP=>XG h (C1 hL (List.mem_of_getElem? (i:=0) rfl)) hS hP) hS fun H hS=> ?_;try simp only [W]
 refine B_ EC ?_;refine B6 ?_;refine Ch El rfl ?_;try obtain rfl:=Option.some.inj h
 exact hP _ (hS.C0 1 [] (by decide))
theorem LK {a0:Et} {r:(Bool)} (h:Hz a0=some r) {F:List It} {H:J} (hS:az H (F)) {P:AV→J→Prop} (hP: ∀H',az H' (F)→P (.bool r) H'):aq C 15 [.agg [.int .i64 a0.Next,.fz (a0.Em.map Ej),.fz (a0.Ek.map (AV.int .i64))]] H P:=by
 refine Cn gC (res:=[.tmp 2]) (n:=52) rfl rfl rfl rfl fun K0 El=> ?_;simp only [W,Nat.reduceSub,Nat.reduceAdd,List.replicate];unfold Hz at h;refine B3 fun K1 Er=> ?_;refine Ck gC ?_;try simp only [W,Nat.reduceAdd]
 refine Cq hS rfl rfl rfl rfl fun Eo Ep H hS=> ?_;try simp only [W]
 refine B_ Er ?_;refine B3 fun K4 EC=> ?_;refine B3 fun K5 EZ=> ?_;obtain ⟨P9,h,g8⟩:=Option.bind_eq_some_iff.1 h;refine CG gC (fun s H=> ∃FJ:Bool,P9=(FJ)∧s=[u,.ptr Eo Ep 0 0,u,u,u,u,u,u,u,u,u,u,u,u,u,u,.bool FJ,u,u,u,u,u,u,u,u,u,u,u,u,u,u,u,u,u,u,u,u,u,u,u,u,u,u,u,u,u,u,u,u,u,u,u]∧az H (⟨.ptr Eo Ep 0 0,3,[.agg [.int .i64 a0.Next,.fz (a0.Em.map Ej),.fz (a0.Ek.map (AV.int .i64))]]⟩::F)) (fun K9 EL=> ?_) (fun s H hq=> ?_)
 ·refine B3 fun JN FX=> ?_;refine Ck gC ?_;try simp only [W,EE,Nat.reduceAdd,Nat.reduceBEq,hS.var 0 rfl]
  refine CB h fun HM P_ h=> ?_;refine Q1 P_ hS fun H hS=> ?_;try simp only [W]
  refine C4 h (fun hc h=> ?_) (fun hc h=> ?_)
  ·try simp only [W,hc]
   refine B_ FX ?_;refine B9 ?_;exact CH EL ⟨_,(Option.some.inj h).symm,rfl,hS⟩
  ·try simp only [W,EE,Nat.reduceAdd,Nat.reduceBEq,hS.var 0 rfl,hc]
   refine CB h fun L7 Qa h=> ?_;refine Tm Qa hS fun H hS=> ?_;try simp only [W,reduceIte,Bool.false_eq_true]
   refine B_ FX ?_;refine B9 ?_;exact CH EL ⟨_,(Option.some.inj h).symm,rfl,hS⟩
 ·obtain ⟨FJ,Es,rfl,hS⟩:=hq;obtain rfl:=Es.symm;replace h:=g8;try dsimp only at h
  refine B_ EZ ?_;refine B8 ?_;simp only [W];refine Cj h (fun hc h=> ?_) (fun hc h=> ?_)
  ·refine B3 fun Hi Fz=> ?_;refine Ck gC ?_;try simp only [W,Nat.reduceAdd]
   refine B_ Fz ?_;refine B6 ?_;refine Ca EC ?_;refine Ch El rfl ?_;try obtain rfl:=Option.some.inj h
   exact hP _ (hS.C0 1 [] (by decide))
  ·refine B5 ?_;refine B_ EC ?_;refine B3 fun G4 E8=> ?_;refine B3 fun Gm EP=> ?_;refine Ck gC ?_;try simp only [W,EE,Nat.reduceAdd,Nat.reduceBEq,hS.var 0 rfl]
   refine B_ EP ?_;obtain ⟨Nc,PU,g24⟩:=Option.bind_eq_some_iff.1 h;refine CG gC (fun s H=>Nc=LR.next ()∧s=[u,u,u,u,u,u,u,u,u,u,u,u,u,u,u,u,u,u,u,u,u,u,u,u,u,u,u,u,u,u,u,u,u,u,u,u,u,u,u,u,u,u,u,u,u,u,u,u,u,u,u,u]∧az H (F)) (fun GI E9=> ?_) (fun s H hq=> ?_)
   ·refine B4 fun HB Fv=> ?_;refine CC gC PU (fun x s H=>s=[u,.ptr Eo Ep 0 0,u,u,u,u,u,u,u,u,u,u,u,u,u,u,u,u,.fz (a0.Ek.map (AV.int .i64)),.int .i64 (a0.Ek.length:Int),.int .i64 x,u,u,u,u,u,u,u,u,u,u,u,u,u,u,u,u,u,u,u,u,u,u,u,u,u,u,u,u,u,u,u]∧az H (⟨.ptr Eo Ep 0 0,3,[.agg [.int .i64 a0.Next,.fz (a0.Em.map Ej),.fz (a0.Ek.map (AV.int .i64))]]⟩::F)) ⟨rfl,hS⟩ (fun Ht Kr s H h Om hi Ik FH=> ?_)
    skip
    try dsimp only at hi
    obtain ⟨rfl,hS⟩:=hi;simp only [N7] at h;refine B3 fun Jc FO=> ?_;refine Ck gC ?_;try simp only [W,EE,Nat.reduceAdd]
    refine B_ FO ?_;refine B3 fun HT FA=> ?_;refine B8 ?_;simp only [W];refine Cj h (fun hc h=> ?_) (fun hc h=> ?_)
    ·refine B5 ?_;refine B_ FA ?_;refine B3 fun Gn E2=> ?_;refine B4 fun Il FD=> ?_;refine B3 fun Kv Gz=> ?_;refine Ck gC ?_;try simp only [W,EE,Nat.reduceAdd]
     refine Cu rfl rfl rfl (fun _=>rfl) h fun GG O0 h=> ?_;try simp only [W,EE]
     refine B_ Gz ?_;refine B3 fun Kx G5=> ?_;obtain ⟨XJ,h,XK⟩:=Option.bind_eq_some_iff.1 h;refine CG gC (fun s H=> ∃Fm:Bool,XJ=(Fm)∧s=[u,.ptr Eo Ep 0 0,u,u,u,u,u,u,u,u,u,u,u,u,u,u,u,u,.fz (a0.Ek.map (AV.int .i64)),.int .i64 (a0.Ek.length:Int),.int .i64 Ht,u,u,u,u,u,u,u,u,u,u,u,u,u,u,u,u,u,u,u,u,u,u,u,u,u,u,u,u,u,.bool Fm,u]∧az H (⟨.ptr Eo Ep 0 0,3,[.agg [.int .i64 a0.Next,.fz (a0.Em.map Ej),.fz (a0.Ek.map (AV.int .i64))]]⟩::F)) (fun OZ Hm=> ?_) (fun s H hq=> ?_)
     ·refine B3 fun On HU=> ?_;refine Ck gC ?_;try simp only [W,EE,Nat.reduceAdd,Nat.reduceBEq,hS.var 0 rfl]
      refine CB h fun Ie Q2 h=> ?_;refine Q1 Q2 hS fun H hS=> ?_;try simp only [W]
      refine C4 h (fun hc h=> ?_) (fun hc h=> ?_)
      ·try simp only [W,hc]
       refine B_ HU ?_;refine B9 ?_;exact CH Hm ⟨_,(Option.some.inj h).symm,rfl,hS⟩
      ·try simp only [W,EE,Nat.reduceAdd,Nat.reduceBEq,hS.var 0 rfl,hc]
       refine CB h fun HQ PX h=> ?_;refine KH PX hS fun H hS=> ?_;try simp only [W,reduceIte,Bool.false_eq_true]
       refine C4 h (fun hc h=> ?_) (fun hc h=> ?_)
       ·try simp only [W,hc]
        refine B_ HU ?_;refine B9 ?_;exact CH Hm ⟨_,(Option.some.inj h).symm,rfl,hS⟩
       ·try simp only [W,EE,hc]
        refine C4 h (fun hc h=> ?_) (fun hc h=> ?_)
        ·try simp only [W,EE,Nat.reduceAdd,Nat.reduceBEq,hS.var 0 rfl,hc]
         refine Cu rfl rfl rfl (fun _=>rfl) h fun LQ acT h=> ?_;try simp only [W,EE,reduceIte,Bool.false_eq_true]
         refine B_ HU ?_;refine B9 ?_;exact CH Hm ⟨_,(Option.some.inj h).symm,rfl,hS⟩
        ·try simp only [W,reduceIte,Bool.false_eq_true,hc]
         refine B_ HU ?_;refine B9 ?_;exact CH Hm ⟨_,(Option.some.inj h).symm,rfl,hS⟩
     ·obtain ⟨Fm,Es,rfl,hS⟩:=hq;obtain rfl:=Es.symm;replace h:=XK;try dsimp only at h
      refine B_ G5 ?_;refine B8 ?_;simp only [W];refine Cj h (fun hc h=> ?_) (fun hc h=> ?_)
      ·refine B3 fun Qg JT=> ?_;refine Ck gC ?_;try simp only [W,Nat.reduceAdd]
       refine B_ JT ?_;refine B6 ?_;refine Cf FD ?_;refine Ca E2 ?_;try obtain rfl:=Option.some.inj h
       obtain rfl:=Om _ rfl;have h:(some (LR.done false):Option (LR Unit (Bool)))=some (LR.done false):=rfl;refine CF FH ?_;refine Cf Fv ?_;try obtain rfl:=Option.some.inj h
       obtain rfl:=Option.some.inj g24;have h:(some false:Option (Bool))=some false:=rfl;refine CI E9 ?_;refine Ca E8 ?_;refine Ch El rfl ?_;try obtain rfl:=Option.some.inj h
       exact hP _ (hS.C0 1 [] (by decide))
      ·refine B5 ?_;refine Cd FD ?_;refine B_ E2 ?_;refine Ck gC ?_;try simp only [W,EE,Nat.reduceAdd]
       exact CD FH h ⟨rfl,hS⟩
    ·refine B7 ?_;refine Cb FA ?_;try obtain rfl:=Option.some.inj h
     obtain rfl:=Om _ rfl;have h:(some (LR.next ()):Option (LR Unit (Bool)))=some (LR.next ()):=rfl
     refine CE FH ?_;refine Ce Fv ?_;exact CH E9 ⟨(Option.some.inj h).symm,rfl,(hS.C0 1 [] (by decide))⟩
   ·obtain ⟨rfl,rfl,hS⟩:=hq;replace h:=g24;try dsimp only at h
    refine B_ E8 ?_;refine B3 fun P0 JP=> ?_;refine Ck gC ?_;try simp only [W,Nat.reduceAdd]
    refine B_ JP ?_;refine B6 ?_;refine Ch El rfl ?_;try obtain rfl:=Option.some.inj h
    exact hP _ hS
theorem XL {a1:Int} {r:(List Span)} (h:MA a1=some r) {F:List It} {H:J} (hS:az H (F)) {P:AV→J→Prop} (hP: ∀v25:AV,bA v25→ ∀H',az H' (⟨v25,2,r.map Ej⟩::F)→P (v25) H'):aq C 183 [.nil,.int .i64 a1] H P:=by
 refine Cn gC (res:=[.tmp 4]) (n:=27) rfl rfl rfl rfl fun K0 El=> ?_;simp only [W,Nat.reduceSub,Nat.reduceAdd,List.replicate];unfold MA at h;refine B3 fun K1 Er=> ?_;refine Ck gC ?_;try simp only [W,Nat.reduceAdd]
 refine B_ Er ?_;refine B3 fun K2 zU=> ?_;refine B3 fun K3 EJ=> ?_;refine Ck gC ?_;try simp only [W,EE,Nat.reduceAdd]
 refine B_ EJ ?_;obtain ⟨O3,h,g5⟩:=Option.bind_eq_some_iff.1 h;refine CG gC (fun s H=>O3=()∧s=[.nil,.int .i64 a1,u,u,u,u,u,u,u,u,u,u,u,u,u,u,u,u,u,u,u,u,u,u,u,u,u]∧az H (F)) (fun K6 E6=> ?_) (fun s H hq=> ?_)
 ·refine B3 fun K7 EI=> ?_;refine B8 ?_;simp only [W];refine Cj h (fun hc h=> ?_) (fun hc h=> ?_)
  ·refine Ck gC ?_;try simp only [W,Nat.reduceAdd]
   exact absurd h (by simp)
  ·refine B5 ?_;refine B_ EI ?_;refine B9 ?_;exact CH E6 ⟨(Option.some.inj h).symm,rfl,hS⟩
 ·obtain ⟨rfl,rfl,hS⟩:=hq;replace h:=g5;try dsimp only at h
  refine B_ zU ?_;refine B3 fun K8 EK=> ?_;refine B3 fun K9 EL=> ?_;refine Ck gC ?_;try simp only [W,Nat.reduceAdd]
  refine DI rfl rfl rfl ?_;try simp only [W,EE]
  refine B_ EL ?_;refine B3 fun JN FX=> ?_;refine Ck gC ?_;try simp only [W,EE,Nat.reduceAdd]
  refine B_ FX ?_;obtain ⟨IN,h,g15⟩:=Option.bind_eq_some_iff.1 h;refine CG gC (fun s H=> ∃EX:List Span,IN=(EX)∧ ∃v12:AV,bA v12∧s=[v12,u,u,u,u,u,u,u,u,u,u,u,u,u,u,u,u,u,u,u,u,u,u,u,u,u,u]∧az H (⟨v12,2,EX.map Ej⟩::F)) (fun Gc EM=> ?_) (fun s H hq=> ?_)
  ·refine B3 fun Gd EQ=> ?_;refine B8 ?_;simp only [W];refine Cj h (fun hc h=> ?_) (fun hc h=> ?_)
   ·refine Ck gC ?_;try simp only [W,Nat.reduceAdd]
    refine DI rfl rfl rfl ?_;try simp only [W,EE]
    refine DJ rfl rfl rfl rfl rfl ?_;try simp only [W,EE]
    refine DO (c:=Ej) hS rfl rfl rfl rfl rfl rfl h fun v18 H Gh XM hm h hS=> ?_;try simp only [W,EE]
    refine CO 0 hS rfl XM rfl rfl rfl h fun v22 RR OM acU h hS=> ?_;try simp only [W]
    refine B_ EQ ?_;refine B9 ?_;exact CH EM ⟨_,(Option.some.inj h).symm,_,OM,rfl,hS⟩
   ·refine B5 ?_;refine B_ EQ ?_;refine B9 ?_;exact CH EM ⟨_,(Option.some.inj h).symm,_,nr,rfl,(hS.Ap 2)⟩
  ·obtain ⟨EX,Es,v12,JS,rfl,hS⟩:=hq;obtain rfl:=Es.symm;replace h:=g15;try dsimp only at h
   refine B_ EK ?_;refine B3 fun Hj Fu=> ?_;refine Ck gC ?_;try simp only [W,Nat.reduceAdd]
   refine B_ Fu ?_;refine B6 ?_;refine Ch El rfl ?_;try obtain rfl:=Option.some.inj h
   exact hP _ JS _ hS
theorem XO {a0:List (List Span)} {r:(List Span)} (h:MD a0=some r) {F:List It} {H:J} (hS:az H (F)) {P:AV→J→Prop} (hP: ∀v66:AV,bA v66→ ∀H',az H' (⟨v66,2,r.map Ej⟩::F)→P (v66) H'):aq C 141 [.fz (a0.map (Au Ej))] H P:=by
 refine Cn gC (res:=[.tmp 2]) (n:=36) rfl rfl rfl rfl fun K0 El=> ?_;simp only [W,Nat.reduceSub,Nat.reduceAdd,List.replicate];unfold MD at h;refine B3 fun K1 Er=> ?_;refine Ck gC ?_;try simp only [W,Nat.reduceAdd]
 refine B_ Er ?_;refine B3 fun K2 zU=> ?_;refine Ck gC ?_;try simp only [W,Nat.reduceAdd]
 refine B_ zU ?_;refine B3 fun K3 EJ=> ?_;refine B3 fun K4 EC=> ?_;refine Ck gC ?_;try simp only [W,EE,Nat.reduceAdd]
 refine B_ EC ?_;obtain ⟨Jo,Jp,g15⟩:=Option.bind_eq_some_iff.1 h;refine CG gC (fun s H=> ∃EO:Int,Jo=(EO)∧s=[.fz (a0.map (Au Ej)),u,u,.int .i64 EO,u,u,u,u,u,u,u,u,u,u,u,u,u,u,u,u,u,u,u,u,u,u,u,u,u,u,u,u,u,u,u,u]∧az H (F)) (fun JN FX=> ?_) (fun s H hq=> ?_)
 ·refine B4 fun Ii Fy=> ?_;refine CC gC Jp (fun x s H=>match x with|(EF,FJ)=>s=[.fz (a0.map (Au Ej)),u,u,.int .i64 EF,u,u,u,u,u,.fz (a0.map (Au Ej)),.int .i64 (a0.length:Int),.int .i64 FJ,u,u,u,u,u,u,u,u,u,u,u,u,u,u,u,u,u,u,u,u,u,u,u,u]∧az H (F)) ⟨rfl,hS⟩ (fun x IN s H h HX hi Ij Fs=> ?_)
  obtain ⟨EF,FJ⟩:=x;try dsimp only at hi
  obtain ⟨rfl,hS⟩:=hi;simp only [MB] at h;refine B3 fun Gc EM=> ?_;refine Ck gC ?_;try simp only [W,EE,Nat.reduceAdd]
  refine B_ EM ?_;refine B3 fun Gd EQ=> ?_;refine B8 ?_;simp only [W];refine Cj h (fun hc h=> ?_) (fun hc h=> ?_)
  ·refine B5 ?_;refine B_ EQ ?_;refine B3 fun GR Fa=> ?_;obtain ⟨Lp,h,g22⟩:=Option.bind_eq_some_iff.1 h;refine CG gC (fun s H=> ∃Gh:Int,Lp=(Gh)∧s=[.fz (a0.map (Au Ej)),u,u,.int .i64 Gh,u,u,u,u,u,.fz (a0.map (Au Ej)),.int .i64 (a0.length:Int),.int .i64 FJ,u,u,u,u,u,u,u,u,u,u,u,u,u,u,u,u,u,u,u,u,u,u,u,u]∧az H (F)) (fun IM FW=> ?_) (fun s H hq=> ?_)
   ·refine B4 fun GI E9=> ?_;refine B3 fun Hj Fu=> ?_;refine Ck gC ?_;try simp only [W,EE,Nat.reduceAdd]
    refine Cu rfl rfl rfl (fun _=>rfl) h fun GD OA h=> ?_;try simp only [W,EE,EN]
    refine B_ Fu ?_;refine B3 fun HT FA=> ?_;refine Ck gC ?_;try simp only [W,EE,Nat.reduceAdd]
    refine B_ FA ?_;refine B3 fun Gn E2=> ?_;refine Ck gC ?_;try simp only [W,EE,Nat.reduceAdd]
    refine B_ E2 ?_;obtain ⟨Q3,h,Q4⟩:=Option.bind_eq_some_iff.1 h;refine CG gC (fun s H=>Q3=()∧s=[.fz (a0.map (Au Ej)),u,u,.int .i64 (IntKind.i64.wrap (EF+(GD.length:Int))),u,u,u,u,u,.fz (a0.map (Au Ej)),.int .i64 (a0.length:Int),.int .i64 FJ,u,u,u,u,u,u,u,u,u,u,u,u,u,u,u,u,u,u,u,u,u,u,u,u]∧az H (F)) (fun Lq Hk=> ?_) (fun s H hq=> ?_)
    ·refine B3 fun Kx G5=> ?_;refine B8 ?_;simp only [W];refine Cj h (fun hc h=> ?_) (fun hc h=> ?_)
     ·refine Ck gC ?_;try simp only [W,Nat.reduceAdd]
      exact absurd h (by simp)
     ·refine B5 ?_;refine B_ G5 ?_;refine B9 ?_;exact CH Hk ⟨(Option.some.inj h).symm,rfl,hS⟩
    ·obtain ⟨rfl,rfl,hS⟩:=hq;replace h:=Q4;try dsimp only at h
     refine Cc E9 ?_;exact CH FW ⟨_,(Option.some.inj h).symm,rfl,hS⟩
   ·obtain ⟨Gh,Es,rfl,hS⟩:=hq;obtain rfl:=Es.symm;replace h:=g22;try dsimp only at h
    refine B_ Fa ?_;refine Ck gC ?_;try simp only [W,EE,Nat.reduceAdd]
    exact CD Fs h ⟨rfl,hS⟩
  ·refine B7 ?_;refine Cb EQ ?_;try obtain rfl:=Option.some.inj h
   obtain rfl:=HX _ rfl;have h:(some (EF):Option (Int))=some (EF):=rfl;refine CE Fs ?_;refine Ce Fy ?_;exact CH FX ⟨_,(Option.some.inj h).symm,rfl,hS⟩
 ·obtain ⟨EO,Es,rfl,hS⟩:=hq;obtain rfl:=Es.symm;replace h:=g15;try dsimp only at h
  refine B_ EJ ?_;refine B3 fun Jd FY=> ?_;refine Ck gC ?_;try simp only [W,Nat.reduceAdd]
  refine CB h fun Fx Jq h=> ?_;refine XL Jq hS fun SS Nk H hS=> ?_;try simp only [W]
  refine B_ FY ?_;refine B3 fun XP O4=> ?_;refine B3 fun Tl LJ=> ?_;refine Ck gC ?_;try simp only [W,EE,Nat.reduceAdd]
  refine B_ LJ ?_;obtain ⟨XQ,XR,XS⟩:=Option.bind_eq_some_iff.1 h;refine CG gC (fun s H=> ∃Ia:List Span,XQ=(Ia)∧ ∃v45:AV,bA v45∧s=[u,u,u,u,u,u,v45,u,u,u,u,u,u,u,u,u,u,u,u,u,u,u,u,u,u,u,u,u,u,u,u,u,u,u,u,u]∧az H (⟨v45,2,Ia.map Ej⟩::F)) (fun WK OO=> ?_) (fun s H hq=> ?_)
  ·refine B4 fun OB IP=> ?_;refine CC gC XR (fun x s H=>match x with|(FG,Gx)=> ∃v41:AV,bA v41∧s=[u,u,u,u,u,u,v41,u,u,u,u,u,u,u,u,u,u,u,u,u,u,u,u,u,u,.fz (a0.map (Au Ej)),.int .i64 (a0.length:Int),.int .i64 Gx,u,u,u,u,u,u,u,u]∧az H (⟨v41,2,FG.map Ej⟩::F)) ⟨_,Nk,rfl,hS⟩ (fun x y52 s H h XT hi Nl HE=> ?_)
   obtain ⟨FG,Gx⟩:=x;try dsimp only at hi
   obtain ⟨v41,KF,rfl,hS⟩:=hi;simp only [MC] at h;refine B3 fun WM QJ=> ?_;refine Ck gC ?_;try simp only [W,EE,Nat.reduceAdd]
   refine B_ QJ ?_;refine B3 fun Oq HD=> ?_;refine B8 ?_;simp only [W];refine Cj h (fun hc h=> ?_) (fun hc h=> ?_)
   ·refine B5 ?_;refine B_ HD ?_;refine B3 fun Ot IH=> ?_;refine B4 fun Ti LH=> ?_;refine B3 fun K58 XU=> ?_;refine Ck gC ?_;try simp only [W,EE,Nat.reduceAdd]
    refine Cu rfl rfl rfl (fun _=>rfl) h fun H8 Tn h=> ?_;try simp only [W,EE,EN]
    refine B_ XU ?_;refine Ck gC ?_;try simp only [W,EE,Nat.reduceAdd]
    refine CP (l:=FG) (c:=Ej) 0 hS rfl KF rfl rfl rfl rfl (fun _=>rfl) rfl h fun Iq H Ft KE hm h hS=> ?_;try simp only [W]
    refine Cd LH ?_;refine B_ IH ?_;refine Ck gC ?_;try simp only [W,EE,Nat.reduceAdd]
    exact CD HE h ⟨_,KE,rfl,hS⟩
   ·refine B7 ?_;refine Cb HD ?_;try obtain rfl:=Option.some.inj h
    obtain rfl:=XT _ rfl;have h:(some (FG):Option ((List Span)))=some (FG):=rfl;refine CE HE ?_;refine Ce IP ?_;exact CH OO ⟨_,(Option.some.inj h).symm,_,KF,rfl,hS⟩
  ·obtain ⟨Ia,Es,v45,Q5,rfl,hS⟩:=hq;obtain rfl:=Es.symm;replace h:=XS;try dsimp only at h
   refine B_ O4 ?_;refine B3 fun XV O5=> ?_;refine Ck gC ?_;try simp only [W,Nat.reduceAdd]
   refine B_ O5 ?_;refine B6 ?_;refine Ch El rfl ?_;try obtain rfl:=Option.some.inj h
   exact hP _ Q5 _ hS
theorem Tp {a0:List Span} {r:List Span} (h:ME a0=some r) {F:List It} {H:J} (hS:az H F) {P:AV→J→Prop} (hP: ∀v0:AV,bA v0→ ∀H',az H' (⟨v0,2,r.map Ej⟩::F)→P v0 H'):aq C 88 [.fz (a0.map Ej)] H P:=
 Ee (I:=Ih) rfl (sz:=2) (b:=16) (by simp [Ih,Nb]) (fun _=>rfl) (by decide) h hS hP
theorem XW {a0 r:List Span} (h:PM a0=some r) {F:List It} {H:J} {m0:AV} (hS:az H (⟨m0,2,a0.map Ej⟩::F)) (Ir:bA m0) {P:AV→J→Prop} (hP: ∀H',az H' (⟨m0,2,r.map Ej⟩::F)→P (.ay []) H'):aq C 181 [m0,.fn 182 []] H P:=
 Ef (I:=Ih) rfl (by simp [Ih,qn]) (by decide) (fun _=>rfl) (fun _=>rfl) h hS Ir hP
theorem XX {a0:List Span} {r:(List Span)} (h:Lf a0=some r) {F:List It} {H:J} (hS:az H (F)) {P:AV→J→Prop} (hP: ∀Q6:AV,bA Q6→ ∀H',az H' (⟨Q6,2,r.map Ej⟩::F)→P (Q6) H'):aq C 140 [.fz (a0.map Ej)] H P:=by
 refine Cn gC (res:=[.tmp 2]) (n:=52) rfl rfl rfl rfl fun K0 El=> ?_;simp only [W,Nat.reduceSub,Nat.reduceAdd,List.replicate];unfold Lf at h;refine B3 fun K1 Er=> ?_;refine Ck gC ?_;try simp only [W,Nat.reduceAdd]
 refine B_ Er ?_;refine B3 fun K2 zU=> ?_;refine Ck gC ?_;try simp only [W,Nat.reduceAdd]
 refine CB h fun b3 kQ h=> ?_;refine Tp kQ hS fun v4 Q7 H hS=> ?_;try simp only [W]
 refine Cz rfl rfl ?_;try simp only [W]
 refine B_ zU ?_;refine B3 fun K6 E6=> ?_;refine Ck gC ?_;try simp only [W,Nat.reduceAdd]
 refine CB h fun EA Kz h=> ?_;refine XW Kz hS Q7 fun H hS=> ?_;try simp only [W]
 refine B_ E6 ?_;refine B3 fun K8 EK=> ?_;refine B3 fun K9 EL=> ?_;refine Ck gC ?_;try simp only [W,EE,Nat.reduceAdd]
 refine Cy 0 hS rfl Q7 rfl ?_;try simp only [W]
 refine B_ EL ?_;obtain ⟨Nw,QO,g23⟩:=Option.bind_eq_some_iff.1 h;refine CG gC (fun s H=> ∃E_:List Span,Nw=(E_)∧ ∃F0:AV,bA F0∧s=[u,u,u,u,F0,u,u,u,u,u,u,u,u,u,u,u,u,u,u,u,u,u,u,u,u,u,u,u,u,u,u,u,u,u,u,u,u,u,u,u,u,u,u,u,u,u,u,u,u,u,u,u]∧az H (⟨F0,2,E_.map Ej⟩::F)) (fun GR Fa=> ?_) (fun s H hq=> ?_)
 ·refine B4 fun GI E9=> ?_;refine CC gC QO (fun x s H=>match x with|(EB,EU)=> ∃v11:AV,bA v11∧s=[u,u,u,u,v11,u,u,u,u,u,u,u,u,v4,.int .i64 (EA.length:Int),.int .i64 EU,u,u,u,u,u,u,u,u,u,u,u,u,u,u,u,u,u,u,u,u,u,u,u,u,u,u,u,u,u,u,u,u,u,u,u,u]∧az H (⟨v11,2,EB.map Ej⟩::⟨v4,2,EA.map Ej⟩::F)) ⟨_,nt,rfl,(hS.Aq 2)⟩ (fun x Xf s H h QP hi HB Fv=> ?_)
  obtain ⟨EB,EU⟩:=x;try dsimp only at hi
  obtain ⟨v11,Gj,rfl,hS⟩:=hi;simp only [MF] at h;refine B3 fun Hj Fu=> ?_;refine Ck gC ?_;try simp only [W,EE,Nat.reduceAdd]
  refine B_ Fu ?_;refine B3 fun Jc FO=> ?_;refine B8 ?_;simp only [W];refine Cj h (fun hc h=> ?_) (fun hc h=> ?_)
  ·refine B5 ?_;refine B_ FO ?_;refine B3 fun HT FA=> ?_;obtain ⟨NA,h,NB⟩:=Option.bind_eq_some_iff.1 h;refine CG gC (fun s H=> ∃Fg:List Span,NA=(Fg)∧ ∃Gs:AV,bA Gs∧s=[u,u,u,u,Gs,u,u,u,u,u,u,u,u,v4,.int .i64 (EA.length:Int),.int .i64 EU,u,u,u,u,u,u,u,u,u,u,u,u,u,u,u,u,u,u,u,u,u,u,u,u,u,u,u,u,u,u,u,u,u,u,u,u]∧az H (⟨Gs,2,Fg.map Ej⟩::⟨v4,2,EA.map Ej⟩::F)) (fun QF IT=> ?_) (fun s H hq=> ?_)
   ·refine B4 fun Gn E2=> ?_;refine B3 fun Jd FY=> ?_;refine Ck gC ?_;try simp only [W,EE,Nat.reduceAdd]
    refine Cv 1 hS rfl rfl rfl rfl rfl h (fun Fx acV acW acX Jq h XY=> ?_) Q7.ne;obtain ⟨acY,XZ,X0⟩:=hS.elem 1 rfl XY Jq;try simp only [W,EE,EN,reduceIte,Nat.reduceAdd,Nat.reduceLeDiff,XZ,X0]
    refine Cr hS rfl rfl fun Tq Ts H hS=> ?_;try simp only [W]
    refine Cs (a:= .agg [.int .i64 Fx.En,.int .i64 Fx.To]) (y' := .agg [.int .i64 Fx.En,.int .i64 Fx.To]) 0 hS rfl rfl rfl rfl rfl rfl rfl rfl fun H hS=> ?_
    try simp only [W]
    refine B_ FY ?_;refine B3 fun Tl LJ=> ?_;refine B3 fun Qg JT=> ?_;refine Ck gC ?_;try simp only [W,EE,Nat.reduceAdd]
    refine Cy 1 hS rfl Gj rfl ?_;try simp only [W,EE]
    refine B_ JT ?_;refine B3 fun Qc Jf=> ?_;obtain ⟨QY,h,QZ⟩:=Option.bind_eq_some_iff.1 h;refine CG gC (fun s H=> ∃FC:Bool,QY=(FC)∧s=[u,u,u,u,v11,u,.ptr Tq Ts 0 0,.int .i64 (IntKind.i64.wrap ((EB.length:Int)-1)),u,u,u,u,u,v4,.int .i64 (EA.length:Int),.int .i64 EU,u,u,u,u,u,u,u,u,u,u,u,u,u,u,u,u,u,.bool FC,u,u,u,u,u,u,u,u,u,u,u,u,u,u,u,u,u,u]∧az H (⟨v11,2,EB.map Ej⟩::⟨v4,2,EA.map Ej⟩::⟨.ptr Tq Ts 0 0,2,[.agg [.int .i64 Fx.En,.int .i64 Fx.To]]⟩::F)) (fun QS IU=> ?_) (fun s H hq=> ?_)
    ·refine B3 fun PZ IG=> ?_;refine Cm gC (by kernel_rfl) ?_
     try simp only [W,EE,Nat.reduceAdd]
     refine C4 h (fun hc h=> ?_) (fun hc h=> ?_)
     ·try simp only [W,EE,Nat.reduceAdd,Nat.reduceBEq,hS.var 0 rfl,hc]
      refine Cv 1 hS rfl rfl rfl rfl rfl h (fun N8 acZ ac0 ac1 Q0 h X1=> ?_) Gj.ne;obtain ⟨ac2,X2,X3⟩:=hS.elem 1 rfl X1 Q0;try simp only [W,EE,EN,reduceIte,Nat.reduceAdd,Nat.reduceBEq,X2,X3]
      refine B_ IG ?_;refine B9 ?_;exact CH IU ⟨_,(Option.some.inj h).symm,rfl,(hS.C0 3 [1,2,0] (by decide))⟩
     ·try simp only [W,hc]
      refine B_ IG ?_;refine B9 ?_;exact CH IU ⟨_,(Option.some.inj h).symm,rfl,(hS.C0 3 [1,2,0] (by decide))⟩
    ·obtain ⟨FC,Es,rfl,hS⟩:=hq;obtain rfl:=Es.symm;replace h:=QZ;try dsimp only at h
     refine B_ Jf ?_;refine B8 ?_;simp only [W];refine Cj h (fun hc h=> ?_) (fun hc h=> ?_)
     ·refine B3 fun OB IP=> ?_;refine C6 gC [(12,[])] (by kernel_rfl) rfl (by kernel_rfl) ?_
      try simp only [W,EE,reduceIte,Nat.reduceAdd,iV,lG,Nat.reduceEqDiff]
      refine Cv 0 hS rfl rfl rfl rfl rfl h (fun I7 ac3 ac4 ac5 Q8 h X4=> ?_) Gj.ne;obtain ⟨ac6,X5,X6⟩:=hS.elem 0 rfl X4 Q8;try simp only [W,EE,EN,Nat.reduceAdd,Nat.reduceBEq,hS.var 2 rfl,X5,X6]
      refine Cv 0 hS rfl rfl rfl rfl rfl h (fun JH ac7 ac8 ac9 Tt h Tu=> ?_) Gj.ne;obtain ⟨ac_,X7,ada⟩:=hS.elem 0 rfl Tu Tt;try simp only [W,EE,Nat.reduceAdd,Nat.reduceBEq,X7]
      refine Cw (a:= .int .i64 (if Fx.To>I7.To then Fx.To else I7.To)) (y' :=(⟨JH.En,(if Fx.To>I7.To then Fx.To else I7.To)⟩:Span)) 0 hS rfl Tu Tt rfl rfl rfl rfl rfl rfl rfl fun H hS=> ?_
      try simp only [W]
      refine B_ IP ?_;refine B7 ?_;refine Cb LJ ?_;refine Ce E2 ?_;exact CH IT ⟨_,(Option.some.inj h).symm,_,Gj,rfl,(hS.C0 3 [0,1] (by decide))⟩
     ·refine B5 ?_;refine B_ LJ ?_;refine Ck gC ?_;try simp only [W,EE,reduceIte,Nat.reduceAdd,Nat.reduceLeDiff,hS.var 2 rfl]
      refine CA (el:=([Fx]:List Span).map Ej) hS rfl rfl rfl rfl rfl rfl rfl fun v54 H X8 hS=> ?_;try simp only [W,EE]
      refine CP (l:=EB) (c:=Ej) 1 hS rfl Gj rfl rfl rfl (hS.il 0 rfl X8) (fun _=>rfl) rfl h fun v57 H He X9 hm h hS=> ?_;try simp only [W]
      refine Cc E2 ?_;exact CH IT ⟨_,(Option.some.inj h).symm,_,X9,rfl,(hS.C0 4 [1,2] (by decide))⟩
   ·obtain ⟨Fg,Es,Gs,JX,rfl,hS⟩:=hq;obtain rfl:=Es.symm;replace h:=NB;try dsimp only at h
    refine B_ FA ?_;refine Ck gC ?_;try simp only [W,EE,Nat.reduceAdd]
    exact CD Fv h ⟨_,JX,rfl,hS⟩
  ·refine B7 ?_;refine Cb FO ?_;try obtain rfl:=Option.some.inj h
   obtain rfl:=QP _ rfl;have h:(some (EB):Option ((List Span)))=some (EB):=rfl;refine CE Fv ?_;refine Ce E9 ?_;exact CH Fa ⟨_,(Option.some.inj h).symm,_,Gj,rfl,(hS.C0 2 [0] (by decide))⟩
 ·obtain ⟨E_,Es,F0,KA,rfl,hS⟩:=hq;obtain rfl:=Es.symm;replace h:=g23;try dsimp only at h
  refine B_ EK ?_;refine B3 fun OC GU=> ?_;refine Ck gC ?_;try simp only [W,Nat.reduceAdd]
  refine B_ GU ?_;refine B6 ?_;refine Ch El rfl ?_;try obtain rfl:=Option.some.inj h
  exact hP _ KA _ hS
theorem X_ {a0:List Span} {r:(List Span×Bool)} (h:Lg a0=some r) {F:List It} {H:J} (hS:az H (F)) {P:AV→J→Prop} (hP: ∀H',az H' (F)→P (.ay [.fz (r.1.map Ej),.bool r.2]) H'):aq C 139 [.fz (a0.map Ej)] H P:=by
 refine Cn gC (res:=[.tmp 2,.tmp 3]) (n:=8) rfl rfl rfl rfl fun K0 El=> ?_;simp only [W,Nat.reduceSub,Nat.reduceAdd,List.replicate];unfold Lg at h;refine B3 fun K1 Er=> ?_;refine Ck gC ?_;try simp only [W,Nat.reduceAdd]
 refine B_ Er ?_;refine B3 fun K2 zU=> ?_;refine B3 fun K3 EJ=> ?_;refine Ck gC ?_;try simp only [W,EE,Nat.reduceAdd]
 refine B_ EJ ?_;refine B8 ?_;simp only [W];refine Cj h (fun hc h=> ?_) (fun hc h=> ?_)
 ·refine B3 fun K4 EC=> ?_;refine B3 fun K5 EZ=> ?_;refine Ck gC ?_;try simp only [W,Nat.reduceAdd]
  refine B_ EZ ?_;refine CZ ?_;refine CS rfl ?_;simp only [W];refine B_ EC ?_;refine B6 ?_;refine Ca zU ?_;refine Ci El rfl rfl ?_;try obtain rfl:=Option.some.inj h
  exact hP _ hS
 ·refine B5 ?_;refine B_ zU ?_;refine B3 fun K6 E6=> ?_;refine Ck gC ?_;try simp only [W,Nat.reduceAdd]
  refine B_ E6 ?_;refine B6 ?_;refine Ci El rfl rfl ?_;try obtain rfl:=Option.some.inj h
  exact hP _ hS
theorem Ya {a0:List Span} {a1:List Span} {r:(List Span×Bool)} (h:MH a0 a1=some r) {F:List It} {H:J} (hS:az H (F)) {P:AV→J→Prop} (hP: ∀H',az H' (F)→P (.ay [.fz (r.1.map Ej),.bool r.2]) H'):aq C 72 [.fz (a0.map Ej),.fz (a1.map Ej)] H P:=by
 refine Cn gC (res:=[.tmp 4,.tmp 5]) (n:=22) rfl rfl rfl rfl fun K0 El=> ?_;simp only [W,Nat.reduceSub,Nat.reduceAdd,List.replicate];unfold MH at h;refine B3 fun K1 Er=> ?_;refine Ck gC ?_;try simp only [W,Nat.reduceAdd]
 refine B_ Er ?_;refine B3 fun K2 zU=> ?_;refine B3 fun K3 EJ=> ?_;obtain ⟨Gp,h,g6⟩:=Option.bind_eq_some_iff.1 h;refine CG gC (fun s H=> ∃Ey:Bool,Gp=(Ey)∧s=[.fz (a0.map Ej),.fz (a1.map Ej),u,u,u,u,u,u,u,u,u,u,u,.bool Ey,u,u,u,u,u,u,u,u]∧az H (F)) (fun K7 EI=> ?_) (fun s H hq=> ?_)
 ·refine B3 fun K8 EK=> ?_;refine Ck gC ?_;try simp only [W,Nat.reduceAdd]
  refine CB h fun E1 Ji h=> ?_;refine O1 Ji hS fun H hS=> ?_;try simp only [W]
  refine C4 h (fun hc h=> ?_) (fun hc h=> ?_)
  ·try simp only [W,hc]
   refine B_ EK ?_;refine B9 ?_;exact CH EI ⟨_,(Option.some.inj h).symm,rfl,hS⟩
  ·try simp only [W,hc]
   refine CB h fun FI Sl h=> ?_;refine O1 Sl hS fun H hS=> ?_;try simp only [W,reduceIte,Bool.false_eq_true]
   refine B_ EK ?_;refine B9 ?_;exact CH EI ⟨_,(Option.some.inj h).symm,rfl,hS⟩
 ·obtain ⟨Ey,Es,rfl,hS⟩:=hq;obtain rfl:=Es.symm;replace h:=g6;try dsimp only at h
  refine B_ EJ ?_;refine B8 ?_;simp only [W];refine Cj h (fun hc h=> ?_) (fun hc h=> ?_)
  ·refine B3 fun Ii Fy=> ?_;refine B3 fun Ij Fs=> ?_;refine Ck gC ?_;try simp only [W,Nat.reduceAdd]
   refine B_ Fs ?_;refine CZ ?_;refine CS rfl ?_;simp only [W];refine B_ Fy ?_;refine B6 ?_;refine Ca zU ?_;refine Ci El rfl rfl ?_;try obtain rfl:=Option.some.inj h
   exact hP _ hS
  ·refine B5 ?_;refine B_ zU ?_;refine B3 fun Hi Fz=> ?_;refine Cl (fz:=[(5,[([18],[.sl [.sc,.sc]])])]) gC ?_;try simp only [W,Nat.reduceAdd,Nat.reduceBEq,List.contains_cons,Nat.reduceBEq,Bool.or_true,Bool.or_self]
   refine CA (el:=([a0,a1]:List (List Span)).map (Au Ej)) hS rfl rfl rfl rfl rfl rfl rfl fun JU H Lu hS=> ?_;try simp only [W,Nat.reduceAdd,Nat.reduceBEq,Nat.reduceBEq]
   refine Du (bP:=[[.sl [.sc,.sc]]]) (ys:=[.fz (([a0,a1]:List (List Span)).map (Au Ej))]) h rfl (Dg (Dd hS 0 rfl Lu (fun _=>rfl)) Df) fun Gb KI h=>⟨.own 2 (Gb.map Ej),XO KI (az.nil _) fun v17 Jr H hS=>Dl rfl (Dj 0 hS rfl Jr (fun _ _=>by simp [aY,aN,ck,dp,Ej]) fun H hS=>Dh rfl),(Dw _ (fun _=>rfl) _),?_⟩
   refine Dr ?_;refine Dp hS (fun _ _=>rfl) (fun _=>rfl) fun Fe H F4 hS=> ?_;refine Dm ?_;try simp only [List.headD_cons]
   try simp only [W,Nat.reduceAdd,Nat.reduceBEq,Nat.reduceBEq]
   refine Du (bP:=[[.sl [.sc,.sc]]]) (ys:=[.fz (Gb.map Ej)]) h rfl (Dg (Dd hS 0 rfl F4 (fun _=>rfl)) Df) fun EW Ip h=>⟨.own 2 (EW.map Ej),XX Ip (az.nil _) fun v21 JY H hS=>Dl rfl (Dj 0 hS rfl JY (fun _ _=>by simp [aY,aN,ck,dp,Ej]) fun H hS=>Dh rfl),(Dw _ (fun _=>rfl) _),?_⟩
   refine Dr ?_;refine Dp hS (fun _ _=>rfl) (fun _=>rfl) fun v23 H Hl hS=> ?_;refine Dm ?_;try simp only [List.headD_cons]
   try simp only [W,Nat.reduceAdd]
   refine CR 0 hS rfl Hl rfl (fun _ _=>by simp [aY,aN,ck,dp,Ej]) (fun _=>rfl) fun H r6 hS=> ?_
   try simp only [W]
   refine CB h fun I5 QQ h=> ?_;obtain ⟨GD,IB⟩:=I5;try dsimp only at h
   refine X_ QQ hS fun H hS=> ?_;try simp only [W,Nat.reduceAdd,Nat.reduceBEq,Nat.reduceBEq]
   refine B_ Fz ?_;refine B6 ?_;refine Ci El rfl rfl ?_;try obtain rfl:=Option.some.inj h
   exact hP _ (hS.C0 2 [] (by decide))
theorem Tv {a0:List Int} {r:List Int} (h:Lh a0=some r) {F:List It} {H:J} (hS:az H F) {P:AV→J→Prop} (hP: ∀v0:AV,bA v0→ ∀H',az H' (⟨v0,1,r.map (AV.int .i64)⟩::F)→P v0 H'):aq C 75 [.fz (a0.map (AV.int .i64))] H P:=
 Ee (I:=Ih) rfl (sz:=1) (b:=8) (by simp [Ih,Nb]) (fun _=>rfl) (by decide) h hS hP
theorem Yb {a0:Int} {a1:List Span} {i1:Nat} {w1:Nat} {r:(Bool)} (h:JI a0 a1=some r) {F:List It} {H:J} (O2:⟨.ptr i1 w1 0 0,1,[.fz (a1.map Ej)]⟩∈F) (hS:az H (F)) {P:AV→J→Prop} (hP: ∀H',az H' (F)→P (.bool r) H'):aq C 76 [.int .i64 a0,.ptr i1 w1 0 0] H P:=by
 refine Cn gC (res:=[.tmp 3]) (n:=7) rfl rfl rfl rfl fun K0 El=> ?_;simp only [W,Nat.reduceSub,Nat.reduceAdd,List.replicate];unfold JI at h;refine B3 fun K1 Er=> ?_;refine Ck gC ?_;try simp only [W,Nat.reduceAdd]
 refine B_ Er ?_;refine B3 fun K2 zU=> ?_;refine Ck gC ?_;try simp only [W,EE,Nat.reduceAdd,hS.CQ O2]
 refine CB h fun b3 kQ h=> ?_;refine KH kQ hS fun H hS=> ?_;try simp only [W]
 refine B_ zU ?_;refine B6 ?_;refine Ch El rfl ?_;try obtain rfl:=Option.some.inj h
 exact hP _ hS
theorem Yc {a0:List Int} {g1:Int→Option Bool} {f1:FuncId} {c1:List AV} {r:(Int)} (h:MI a0 g1=some r) {F:List It} {H:J} (cJ: ∀{x0:Int} {r:Bool},g1 x0=some r→ ∀(L:List It) (n:Nat),L.drop n=F→ ∀(H:J),az H L→ ∀(P:AV→J→Prop),(∀H',az H' L→P (.bool r) H')→aq C f1 ([.int .i64 x0] ++ c1) H P) (hS:az H (F)) {P:AV→J→Prop} (hP: ∀H',az H' (F)→P (.int .i64 r) H'):aq C 144 [.fz (a0.map (AV.int .i64)),.fn f1 c1] H P:=by
 refine Cn gC (res:=[.tmp 4]) (n:=19) rfl rfl rfl rfl fun K0 El=> ?_;simp only [W,Nat.reduceSub,Nat.reduceAdd,List.replicate];unfold MI at h;refine B3 fun K1 Er=> ?_;refine Ck gC ?_;try simp only [W,Nat.reduceAdd]
 refine B_ Er ?_;refine B3 fun K2 zU=> ?_;refine B3 fun K3 EJ=> ?_;refine Ck gC ?_;try simp only [W,EE,Nat.reduceAdd]
 refine B_ EJ ?_;obtain ⟨Gp,GJ,g12⟩:=Option.bind_eq_some_iff.1 h;refine CG gC (fun s H=>Gp=LR.next ()∧s=[u,u,u,u,u,u,u,u,u,u,u,u,u,u,u,u,u,u,u]∧az H (F)) (fun K7 EI=> ?_) (fun s H hq=> ?_)
 ·refine B4 fun K8 EK=> ?_;refine CC gC GJ (fun x s H=>s=[.fz (a0.map (AV.int .i64)),.fn f1 c1,u,u,u,u,u,.int .i64 (a0.length:Int),.int .i64 x,u,u,u,u,u,u,u,u,u,u]∧az H (F)) ⟨rfl,hS⟩ (fun Ey HV s H h FP hi K9 EL=> ?_)
  skip
  try dsimp only at hi
  obtain ⟨rfl,hS⟩:=hi;simp only [PN] at h;refine B3 fun Hi Fz=> ?_;refine Ck gC ?_;try simp only [W,EE,Nat.reduceAdd]
  refine B_ Fz ?_;refine B3 fun G4 E8=> ?_;refine B8 ?_;simp only [W];refine Cj h (fun hc h=> ?_) (fun hc h=> ?_)
  ·refine B5 ?_;refine B_ E8 ?_;refine B3 fun Gm EP=> ?_;refine B4 fun Gc EM=> ?_;refine B3 fun Gd EQ=> ?_;refine Ck gC ?_;try simp only [W,Nat.reduceAdd]
   refine B_ EQ ?_;refine B3 fun GR Fa=> ?_;refine Ck gC ?_;try simp only [W,EE,Nat.reduceAdd]
   refine Cu rfl rfl rfl (fun _=>rfl) h fun FE Ll h=> ?_;try simp only [W,EE]
   refine CB h fun EW Ip h=> ?_;refine cJ Ip _ 0 rfl _ hS _ fun H hS=> ?_;try simp only [W]
   refine B_ Fa ?_;refine B8 ?_;simp only [W];refine Cj h (fun hc h=> ?_) (fun hc h=> ?_)
   ·refine B3 fun Ik FH=> ?_;refine Ck gC ?_;try simp only [W,Nat.reduceAdd]
    refine B_ FH ?_;refine B6 ?_;refine Cf EM ?_;refine Ca EP ?_;try obtain rfl:=Option.some.inj h
    obtain rfl:=FP _ rfl;have h:(some (LR.done Ey):Option (LR Unit (Int)))=some (LR.done Ey):=rfl;refine CF EL ?_;refine Cf EK ?_;try obtain rfl:=Option.some.inj h
    obtain rfl:=Option.some.inj g12;have h:(some Ey:Option (Int))=some Ey:=rfl;refine CI EI ?_;refine Ca zU ?_;refine Ch El rfl ?_;try obtain rfl:=Option.some.inj h
    exact hP _ hS
   ·refine B5 ?_;refine Cd EM ?_;refine B_ EP ?_;refine Ck gC ?_;try simp only [W,EE,Nat.reduceAdd]
    exact CD EL h ⟨rfl,hS⟩
  ·refine B7 ?_;refine Cb E8 ?_;try obtain rfl:=Option.some.inj h
   obtain rfl:=FP _ rfl;have h:(some (LR.next ()):Option (LR Unit (Int)))=some (LR.next ()):=rfl
   refine CE EL ?_;refine Ce EK ?_;exact CH EI ⟨(Option.some.inj h).symm,rfl,hS⟩
 ·obtain ⟨rfl,rfl,hS⟩:=hq;replace h:=g12;try dsimp only at h
  refine B_ zU ?_;refine B3 fun Il FD=> ?_;refine Ck gC ?_;try simp only [W,Nat.reduceAdd]
  refine B_ FD ?_;refine B6 ?_;refine Ch El rfl ?_;try obtain rfl:=Option.some.inj h
  exact hP _ hS
theorem Yd {a0:Int} {a1:List Span} {r:(Bool)} (h:JI a0 a1=some r) {F:List It} {H:J} (hS:az H (F)) {P:AV→J→Prop} (hP: ∀H',az H' (F)→P (.bool r) H'):aq C 76 [.int .i64 a0,.fe (.fz (a1.map Ej)) 0] H P:=by
 refine Cn gC (res:=[.tmp 3]) (n:=7) rfl rfl rfl rfl fun K0 El=> ?_;simp only [W,Nat.reduceSub,Nat.reduceAdd,List.replicate];unfold JI at h;refine B3 fun K1 Er=> ?_;refine Ck gC ?_;try simp only [W,Nat.reduceAdd]
 refine B_ Er ?_;refine B3 fun K2 zU=> ?_;refine Ck gC ?_;try simp only [W,EE,Nat.reduceAdd]
 refine CB h fun b3 kQ h=> ?_;refine KH kQ hS fun H hS=> ?_;try simp only [W]
 refine B_ zU ?_;refine B6 ?_;refine Ch El rfl ?_;try obtain rfl:=Option.some.inj h
 exact hP _ hS
theorem Ye {a0:List Int} {a2:List Span} {i2:Nat} {w2:Nat} {m0:AV} {r:(List Int)} (h:MJ a0 a2=some r) {F:List It} {H:J} (kL:⟨.ptr i2 w2 0 0,1,[.fz (a2.map Ej)]⟩∈F) (hS:az H (⟨m0,1,a0.map (AV.int .i64)⟩::F)) (Ir:bA m0) {P:AV→J→Prop} (hP: ∀v54:AV,bA v54→ ∀H',az H' (⟨v54,1,r.map (AV.int .i64)⟩::F)→P (v54) H'):aq C 74 [m0,.fn 76 [.ptr i2 w2 0 0]] H P:=by
 refine Cn gC (res:=[.tmp 4]) (n:=42) rfl rfl rfl rfl fun K0 El=> ?_;simp only [W,Nat.reduceSub,Nat.reduceAdd,List.replicate];unfold MJ at h;refine B3 fun K1 Er=> ?_;refine Ck gC ?_;try simp only [W,Nat.reduceAdd]
 refine B_ Er ?_;refine B3 fun K2 zU=> ?_;refine Ck gC ?_;try simp only [W,Nat.reduceAdd]
 refine Dt (bP:=[[.sc]]) (ys:=[.fz (a0.map (AV.int .i64)),.fn 76 [.fe (.fz (a2.map Ej)) 0]]) h rfl (Dg (Dd hS 0 rfl Ir (fun _=>rfl)) (Dg (Dc (Ax (De hS (List.mem_cons_of_mem _ (kL)) rfl) (Da _))) Df)) fun b3 kQ h=>⟨.int .i64 b3,Yc kQ (fun h _ n hL _ hS _ hP=>Yd h hS hP) (az.nil _) fun H hS=>Dl rfl (Di rfl (Dh rfl)),⟨rfl,rfl,fun _=>rfl⟩,?_⟩;try simp only [W]
 refine B_ zU ?_;refine B3 fun K4 EC=> ?_;refine B3 fun K5 EZ=> ?_;refine Ck gC ?_;try simp only [W,EE,Nat.reduceAdd]
 refine B_ EZ ?_;refine B8 ?_;simp only [W];refine Cj h (fun hc h=> ?_) (fun hc h=> ?_)
 ·refine B3 fun K6 E6=> ?_;refine Ck gC ?_;try simp only [W,Nat.reduceAdd]
  refine B_ E6 ?_;refine B6 ?_;refine Ca EC ?_;refine Ch El rfl ?_;try obtain rfl:=Option.some.inj h
  exact hP _ Ir _ hS
 ·refine B5 ?_;refine B_ EC ?_;refine B3 fun K7 EI=> ?_;refine B3 fun K8 EK=> ?_;refine Ck gC ?_;try simp only [W,EE,Nat.reduceAdd]
  refine B_ EK ?_;obtain ⟨IN,Qd,g21⟩:=Option.bind_eq_some_iff.1 h;refine CG gC (fun s H=> ∃Fq:List Int,∃EU:Int,IN=(Fq,EU)∧s=[m0,u,u,u,u,.int .i64 EU,u,u,u,u,u,u,u,u,u,u,u,u,u,u,u,u,u,u,u,u,u,u,u,u,u,u,u,u,u,u,u,u,u,u,u,u]∧az H (⟨m0,1,Fq.map (AV.int .i64)⟩::F)) (fun Gc EM=> ?_) (fun s H hq=> ?_)
  ·refine B4 fun Gd EQ=> ?_;refine CC gC Qd (fun x s H=>match x with|(Fj,EB,EX)=>s=[m0,.fn 76 [.ptr i2 w2 0 0],u,u,u,.int .i64 EB,.int .i64 EX,u,u,u,u,u,u,u,u,u,u,u,u,u,u,u,u,u,u,u,u,u,u,u,u,u,u,u,u,u,u,u,u,u,u,u]∧az H (⟨m0,1,Fj.map (AV.int .i64)⟩::F)) ⟨rfl,hS⟩ (fun x Qe s H h Qf hi GR Fa=> ?_)
   obtain ⟨Fj,EB,EX⟩:=x;try dsimp only at hi
   obtain ⟨rfl,hS⟩:=hi;simp only [N9] at h;refine B3 fun JO F3=> ?_;refine B3 fun IM FW=> ?_;refine Ck gC ?_;try simp only [W,EE,Nat.reduceAdd]
   refine Cy 0 hS rfl Ir rfl ?_;try simp only [W,EE]
   refine B_ FW ?_;refine B8 ?_;simp only [W];refine Cj h (fun hc h=> ?_) (fun hc h=> ?_)
   ·refine B5 ?_;refine B_ F3 ?_;refine B3 fun Hj Fu=> ?_;obtain ⟨Q3,h,Q4⟩:=Option.bind_eq_some_iff.1 h;refine CG gC (fun s H=> ∃GN:List Int,∃Hw:Int,Q3=(GN,Hw)∧s=[m0,.fn 76 [.ptr i2 w2 0 0],u,u,u,.int .i64 Hw,.int .i64 EX,u,u,u,u,u,u,u,u,u,u,u,u,u,u,u,u,u,u,u,u,u,u,u,u,u,u,u,u,u,u,u,u,u,u,u]∧az H (⟨m0,1,GN.map (AV.int .i64)⟩::F)) (fun Lq Hk=> ?_) (fun s H hq=> ?_)
    ·refine B4 fun Jc FO=> ?_;refine B3 fun Kx G5=> ?_;refine Ck gC ?_;try simp only [W,EE,Nat.reduceAdd]
     refine Cv 0 hS rfl rfl rfl rfl rfl h (fun HN adb ade adf SR h Yf=> ?_) Ir.ne;obtain ⟨adg,Yg,Yh⟩:=hS.elem 0 rfl Yf SR;try simp only [W,EE,Yg,Yh]
     refine B_ G5 ?_;refine B3 fun Jd FY=> ?_;refine Ck gC ?_;try simp only [W,Nat.reduceAdd]
     refine CB h fun Fx Jq h=> ?_;refine Yb Jq (List.mem_cons_of_mem _ (kL)) hS fun H hS=> ?_;try simp only [W]
     refine B_ FY ?_;obtain ⟨Yi,h,Yj⟩:=Option.bind_eq_some_iff.1 h;refine CG gC (fun s H=> ∃F1:List Int,∃Ga:Int,Yi=(F1,Ga)∧s=[m0,.fn 76 [.ptr i2 w2 0 0],u,u,u,.int .i64 Ga,.int .i64 EX,u,u,u,u,u,u,u,u,u,u,u,u,u,u,u,u,u,u,u,u,u,u,u,u,u,u,u,u,u,u,u,u,u,u,u]∧az H (⟨m0,1,F1.map (AV.int .i64)⟩::F)) (fun Qg JT=> ?_) (fun s H hq=> ?_)
     ·refine B3 fun Qc Jf=> ?_;refine B8 ?_;simp only [W];refine Cj h (fun hc h=> ?_) (fun hc h=> ?_)
      ·refine B3 fun OE HW=> ?_;refine Ck gC ?_;try simp only [W,EE,Nat.reduceAdd]
       refine Cv 0 hS rfl rfl rfl rfl rfl h (fun PG adh adi adj OF h Tw=> ?_) Ir.ne;obtain ⟨adk,adl,adn⟩:=hS.elem 0 rfl Tw OF;try simp only [W]
       refine Cw (a:= .int .i64 HN) (y' :=HN) 0 hS rfl Tw OF rfl rfl rfl rfl rfl rfl rfl fun H hS=> ?_
       try simp only [W]
       refine B_ HW ?_;refine Ck gC ?_;try simp only [W,EE,Nat.reduceAdd]
       refine B_ Jf ?_;refine B9 ?_;exact CH JT ⟨_,_,(Option.some.inj h).symm,rfl,hS⟩
      ·refine B5 ?_;refine B_ Jf ?_;refine B9 ?_;exact CH JT ⟨_,_,(Option.some.inj h).symm,rfl,hS⟩
     ·obtain ⟨F1,Ga,rfl,rfl,hS⟩:=hq;replace h:=Yj;try dsimp only at h
      refine Cc FO ?_;exact CH Hk ⟨_,_,(Option.some.inj h).symm,rfl,hS⟩
    ·obtain ⟨GN,Hw,rfl,rfl,hS⟩:=hq;replace h:=Q4;try dsimp only at h
     refine B_ Fu ?_;refine Ck gC ?_;try simp only [W,EE,Nat.reduceAdd]
     exact CD Fa h ⟨rfl,hS⟩
   ·refine B7 ?_;refine Cb F3 ?_;try obtain rfl:=Option.some.inj h
    obtain rfl:=Qf _ rfl;have h:(some (Fj,EB):Option ((List Int)×Int))=some (Fj,EB):=rfl;refine CE Fa ?_;refine Ce EQ ?_;exact CH EM ⟨_,_,(Option.some.inj h).symm,rfl,hS⟩
  ·obtain ⟨Fq,EU,rfl,rfl,hS⟩:=hq;replace h:=g21;try dsimp only at h
   refine B_ EI ?_;refine B3 fun P0 JP=> ?_;refine Ck gC ?_;try simp only [W,EE,Nat.reduceAdd]
   refine DK 0 hS rfl Ir rfl rfl rfl h fun v49 RU ado Yk Yl h=> ?_;try simp only [W]
   refine DN (d:=(0:Int)) 0 hS rfl rfl rfl rfl rfl rfl Yk Yl fun H hS=> ?_;try simp only [W]
   refine B_ JP ?_;refine B3 fun Nl HE=> ?_;refine Ck gC ?_;try simp only [W,EE,Nat.reduceAdd]
   refine CO 0 hS rfl Ir rfl rfl rfl h fun Jg RV Qt adp h hS=> ?_;try simp only [W]
   refine B_ HE ?_;refine B6 ?_;refine Ch El rfl ?_;try obtain rfl:=Option.some.inj h
   exact hP _ Qt _ hS
theorem Ym {a0:List Int} {a1:Int} {r:(Int)} (h:Oa a0 a1=some r) {F:List It} {H:J} (hS:az H (F)) {P:AV→J→Prop} (hP: ∀H',az H' (F)→P (.int .i64 r) H'):aq C 156 [.fz (a0.map (AV.int .i64)),.int .i64 a1] H P:=by
 refine Cn gC (res:=[.tmp 4]) (n:=19) rfl rfl rfl rfl fun K0 El=> ?_;simp only [W,Nat.reduceSub,Nat.reduceAdd,List.replicate];unfold Oa at h;refine B3 fun K1 Er=> ?_;refine Ck gC ?_;try simp only [W,Nat.reduceAdd]
 refine B_ Er ?_;refine B3 fun K2 zU=> ?_;refine B3 fun K3 EJ=> ?_;refine Ck gC ?_;try simp only [W,EE,Nat.reduceAdd]
 refine B_ EJ ?_;obtain ⟨Gp,GJ,g12⟩:=Option.bind_eq_some_iff.1 h;refine CG gC (fun s H=>Gp=LR.next ()∧s=[u,u,u,u,u,u,u,u,u,u,u,u,u,u,u,u,u,u,u]∧az H (F)) (fun K7 EI=> ?_) (fun s H hq=> ?_)
 ·refine B4 fun K8 EK=> ?_;refine CC gC GJ (fun x s H=>s=[.fz (a0.map (AV.int .i64)),.int .i64 a1,u,u,u,u,u,.int .i64 (a0.length:Int),.int .i64 x,u,u,u,u,u,u,u,u,u,u]∧az H (F)) ⟨rfl,hS⟩ (fun Ey HV s H h FP hi K9 EL=> ?_)
  skip
  try dsimp only at hi
  obtain ⟨rfl,hS⟩:=hi;simp only [N_] at h;refine B3 fun Hi Fz=> ?_;refine Ck gC ?_;try simp only [W,EE,Nat.reduceAdd]
  refine B_ Fz ?_;refine B3 fun G4 E8=> ?_;refine B8 ?_;simp only [W];refine Cj h (fun hc h=> ?_) (fun hc h=> ?_)
  ·refine B5 ?_;refine B_ E8 ?_;refine B3 fun Gm EP=> ?_;refine B4 fun Gc EM=> ?_;refine B3 fun Gd EQ=> ?_;refine Ck gC ?_;try simp only [W,Nat.reduceAdd]
   refine B_ EQ ?_;refine B3 fun GR Fa=> ?_;refine Ck gC ?_;try simp only [W,EE,Nat.reduceAdd]
   refine Cu rfl rfl rfl (fun _=>rfl) h fun FE Ll h=> ?_;try simp only [W,EE]
   refine B_ Fa ?_;refine B8 ?_;simp only [W];refine Cj h (fun hc h=> ?_) (fun hc h=> ?_)
   ·refine B3 fun HB Fv=> ?_;refine Ck gC ?_;try simp only [W,Nat.reduceAdd]
    refine B_ Fv ?_;refine B6 ?_;refine Cf EM ?_;refine Ca EP ?_;try obtain rfl:=Option.some.inj h
    obtain rfl:=FP _ rfl;have h:(some (LR.done Ey):Option (LR Unit (Int)))=some (LR.done Ey):=rfl;refine CF EL ?_;refine Cf EK ?_;try obtain rfl:=Option.some.inj h
    obtain rfl:=Option.some.inj g12;have h:(some Ey:Option (Int))=some Ey:=rfl;refine CI EI ?_;refine Ca zU ?_;refine Ch El rfl ?_;try obtain rfl:=Option.some.inj h
    exact hP _ hS
   ·refine B5 ?_;refine Cd EM ?_;refine B_ EP ?_;refine Ck gC ?_;try simp only [W,EE,Nat.reduceAdd]
    exact CD EL h ⟨rfl,hS⟩
  ·refine B7 ?_;refine Cb E8 ?_;try obtain rfl:=Option.some.inj h
   obtain rfl:=FP _ rfl;have h:(some (LR.next ()):Option (LR Unit (Int)))=some (LR.next ()):=rfl
   refine CE EL ?_;refine Ce EK ?_;exact CH EI ⟨(Option.some.inj h).symm,rfl,hS⟩
 ·obtain ⟨rfl,rfl,hS⟩:=hq;replace h:=g12;try dsimp only at h
  refine B_ zU ?_;refine B3 fun Gn E2=> ?_;refine Ck gC ?_;try simp only [W,Nat.reduceAdd]
  refine B_ E2 ?_;refine B6 ?_;refine Ch El rfl ?_;try obtain rfl:=Option.some.inj h
  exact hP _ hS
theorem Tx {a0:List Int} {a1:Int} {r:(Bool)} (h:MK a0 a1=some r) {F:List It} {H:J} (hS:az H (F)) {P:AV→J→Prop} (hP: ∀H',az H' (F)→P (.bool r) H'):aq C 98 [.fz (a0.map (AV.int .i64)),.int .i64 a1] H P:=by
 refine Cn gC (res:=[.tmp 4]) (n:=9) rfl rfl rfl rfl fun K0 El=> ?_;simp only [W,Nat.reduceSub,Nat.reduceAdd,List.replicate];unfold MK at h;refine B3 fun K1 Er=> ?_;refine Ck gC ?_;try simp only [W,Nat.reduceAdd]
 refine B_ Er ?_;refine B3 fun K2 zU=> ?_;refine Ck gC ?_;try simp only [W,Nat.reduceAdd]
 refine CB h fun b3 kQ h=> ?_;refine Ym kQ hS fun H hS=> ?_;try simp only [W,EE]
 refine B_ zU ?_;refine B6 ?_;refine Ch El rfl ?_;try obtain rfl:=Option.some.inj h
 exact hP _ hS
theorem Yn {a0:Et} {i0:Nat} {w0:Nat} {r:(List Int)} (h:I8 a0=some r) {F:List It} {H:J} (xO:⟨.ptr i0 w0 0 0,3,[.agg [.int .i64 a0.Next,.fz (a0.Em.map Ej),.fz (a0.Ek.map (AV.int .i64))]]⟩∈F) (hS:az H (F)) {P:AV→J→Prop} (hP: ∀Jg:AV,bA Jg→ ∀H',az H' (⟨Jg,1,r.map (AV.int .i64)⟩::F)→P (Jg) H'):aq C 77 [.ptr i0 w0 0 0] H P:=by
 refine Cn gC (res:=[.tmp 2]) (n:=35) rfl rfl rfl rfl fun K0 El=> ?_;simp only [W,Nat.reduceSub,Nat.reduceAdd,List.replicate];unfold I8 at h;refine B3 fun K1 Er=> ?_;refine Ck gC ?_;try simp only [W,Nat.reduceAdd]
 refine B_ Er ?_;refine B3 fun K2 zU=> ?_;refine Ck gC ?_;try simp only [W,Nat.reduceAdd]
 refine Cz rfl rfl ?_;try simp only [W]
 refine B_ zU ?_;refine B3 fun K3 EJ=> ?_;refine B3 fun K4 EC=> ?_;refine Ck gC ?_;try simp only [W,EE,Nat.reduceAdd,Nat.reduceBEq,hS.CQ xO]
 refine B_ EC ?_;obtain ⟨HV,Q9,g18⟩:=Option.bind_eq_some_iff.1 h;refine CG gC (fun s H=> ∃Fj:List Int,HV=(Fj)∧ ∃v10:AV,bA v10∧s=[u,u,u,v10,u,u,u,u,u,u,u,u,u,u,u,u,u,u,u,u,u,u,u,u,u,u,u,u,u,u,u,u,u,u,u]∧az H (⟨v10,1,Fj.map (AV.int .i64)⟩::F)) (fun Hi Fz=> ?_) (fun s H hq=> ?_)
 ·refine B4 fun G4 E8=> ?_;refine CC gC Q9 (fun x s H=>match x with|(EF,EH)=> ∃v6:AV,bA v6∧s=[.ptr i0 w0 0 0,u,u,v6,u,u,u,u,u,.int .i64 a0.Next,.int .i64 EH,u,u,u,u,u,u,u,u,u,u,u,u,u,u,u,u,u,u,u,u,u,u,u,u]∧az H (⟨v6,1,EF.map (AV.int .i64)⟩::F)) ⟨_,nt,rfl,(hS.Aq 1)⟩ (fun x Nc s H h Q_ hi Gm EP=> ?_)
  obtain ⟨EF,EH⟩:=x;try dsimp only at hi
  obtain ⟨v6,HC,rfl,hS⟩:=hi;simp only [ML] at h;refine B3 fun GI E9=> ?_;refine Ck gC ?_;try simp only [W,EE,Nat.reduceAdd]
  refine B_ E9 ?_;refine B3 fun HB Fv=> ?_;refine B8 ?_;simp only [W];refine Cj h (fun hc h=> ?_) (fun hc h=> ?_)
  ·refine B5 ?_;refine B_ Fv ?_;refine B3 fun Ik FH=> ?_;obtain ⟨Ni,h,Nj⟩:=Option.bind_eq_some_iff.1 h;refine CG gC (fun s H=> ∃HI:List Int,Ni=(HI)∧ ∃v24:AV,bA v24∧s=[.ptr i0 w0 0 0,u,u,v24,u,u,u,u,u,.int .i64 a0.Next,.int .i64 EH,u,u,u,u,u,u,u,u,u,u,u,u,u,u,u,u,u,u,u,u,u,u,u,u]∧az H (⟨v24,1,HI.map (AV.int .i64)⟩::F)) (fun Gn E2=> ?_) (fun s H hq=> ?_)
   ·refine B4 fun JO F3=> ?_;refine B3 fun Il FD=> ?_;refine Ck gC ?_;try simp only [W,Nat.reduceAdd]
    refine B_ FD ?_;refine B3 fun Kv Gz=> ?_;obtain ⟨NA,h,NB⟩:=Option.bind_eq_some_iff.1 h;refine CG gC (fun s H=> ∃FF:Bool,NA=(FF)∧s=[.ptr i0 w0 0 0,u,u,v6,.int .i64 EH,u,u,u,u,.int .i64 a0.Next,.int .i64 EH,u,u,u,u,u,u,u,u,u,u,u,u,u,u,u,u,u,.bool FF,u,u,u,u,u,u]∧az H (⟨v6,1,EF.map (AV.int .i64)⟩::F)) (fun QF IT=> ?_) (fun s H hq=> ?_)
    ·refine B3 fun Jd FY=> ?_;refine Ck gC ?_;try simp only [W,EE,Nat.reduceAdd,Nat.reduceBEq,hS.CQ (List.mem_cons_of_mem _ (xO))]
     refine CB h fun Fx Jq h=> ?_;refine KH Jq hS fun H hS=> ?_;try simp only [W]
     refine C4 h (fun hc h=> ?_) (fun hc h=> ?_)
     ·try simp only [W,EE,Nat.reduceAdd,Nat.reduceBEq,hS.CQ (List.mem_cons_of_mem _ (xO)),hc]
      refine CB h fun Hg Jl h=> ?_;refine Tx Jl hS fun H hS=> ?_;try simp only [W,reduceIte]
      refine B_ FY ?_;refine B9 ?_;exact CH IT ⟨_,(Option.some.inj h).symm,rfl,hS⟩
     ·try simp only [W,hc]
      refine B_ FY ?_;refine B9 ?_;exact CH IT ⟨_,(Option.some.inj h).symm,rfl,hS⟩
    ·obtain ⟨FF,Es,rfl,hS⟩:=hq;obtain rfl:=Es.symm;replace h:=NB;try dsimp only at h
     refine B_ Gz ?_;obtain ⟨O6,h,NC⟩:=Option.bind_eq_some_iff.1 h;refine CG gC (fun s H=> ∃Ga:List Int,O6=(Ga)∧ ∃GV:AV,bA GV∧s=[.ptr i0 w0 0 0,u,u,GV,u,u,u,u,u,.int .i64 a0.Next,.int .i64 EH,u,u,u,u,u,u,u,u,u,u,u,u,u,u,u,u,u,u,u,u,u,u,u,u]∧az H (⟨GV,1,Ga.map (AV.int .i64)⟩::F)) (fun OE HW=> ?_) (fun s H hq=> ?_)
     ·refine B3 fun Nx G8=> ?_;refine B8 ?_;simp only [W];refine Cj h (fun hc h=> ?_) (fun hc h=> ?_)
      ·refine Ck gC ?_;try simp only [W,Nat.reduceAdd]
       refine CA (el:=([EH]:List Int).map (AV.int .i64)) hS rfl rfl rfl rfl rfl rfl rfl fun v44 H Ra hS=> ?_;try simp only [W,EE]
       refine CP (l:=EF) (c:=(AV.int .i64)) 1 hS rfl HC rfl rfl rfl (hS.il 0 rfl Ra) (fun _=>rfl) rfl h fun FB H Gy JZ hm h hS=> ?_;try simp only [W]
       refine B_ G8 ?_;refine B9 ?_;exact CH HW ⟨_,(Option.some.inj h).symm,_,JZ,rfl,(hS.C0 2 [1] (by decide))⟩
      ·refine B5 ?_;refine B_ G8 ?_;refine B9 ?_;exact CH HW ⟨_,(Option.some.inj h).symm,_,HC,rfl,hS⟩
     ·obtain ⟨Ga,Es,GV,LC,rfl,hS⟩:=hq;obtain rfl:=Es.symm;replace h:=NC;try dsimp only at h
      refine Cc F3 ?_;exact CH E2 ⟨_,(Option.some.inj h).symm,_,LC,rfl,hS⟩
   ·obtain ⟨HI,Es,v24,Nt,rfl,hS⟩:=hq;obtain rfl:=Es.symm;replace h:=Nj;try dsimp only at h
    refine B_ FH ?_;refine Ck gC ?_;try simp only [W,EE,Nat.reduceAdd]
    exact CD EP h ⟨_,Nt,rfl,hS⟩
  ·refine B7 ?_;refine Cb Fv ?_;try obtain rfl:=Option.some.inj h
   obtain rfl:=Q_ _ rfl;have h:(some (EF):Option ((List Int)))=some (EF):=rfl;refine CE EP ?_;refine Ce E8 ?_;exact CH Fz ⟨_,(Option.some.inj h).symm,_,HC,rfl,hS⟩
 ·obtain ⟨Fj,Es,v10,IS,rfl,hS⟩:=hq;obtain rfl:=Es.symm;replace h:=g18;try dsimp only at h
  refine B_ EJ ?_;refine B3 fun Lr G6=> ?_;refine Ck gC ?_;try simp only [W,Nat.reduceAdd]
  refine B_ G6 ?_;refine B6 ?_;refine Ch El rfl ?_;try obtain rfl:=Option.some.inj h
  exact hP _ IS _ hS
theorem Yo {a0:Et} {r:(List Int)} (h:I8 a0=some r) {F:List It} {H:J} (hS:az H (F)) {P:AV→J→Prop} (hP: ∀Jg:AV,bA Jg→ ∀H',az H' (⟨Jg,1,r.map (AV.int .i64)⟩::F)→P (Jg) H'):aq C 77 [.fe (.agg [.int .i64 a0.Next,.fz (a0.Em.map Ej),.fz (a0.Ek.map (AV.int .i64))]) 0] H P:=by
 refine Cn gC (res:=[.tmp 2]) (n:=35) rfl rfl rfl rfl fun K0 El=> ?_;simp only [W,Nat.reduceSub,Nat.reduceAdd,List.replicate];unfold I8 at h;refine B3 fun K1 Er=> ?_;refine Ck gC ?_;try simp only [W,Nat.reduceAdd]
 refine B_ Er ?_;refine B3 fun K2 zU=> ?_;refine Ck gC ?_;try simp only [W,Nat.reduceAdd]
 refine Cz rfl rfl ?_;try simp only [W]
 refine B_ zU ?_;refine B3 fun K3 EJ=> ?_;refine B3 fun K4 EC=> ?_;refine Ck gC ?_;try simp only [W,EE,Nat.reduceAdd,Nat.reduceBEq]
 refine B_ EC ?_;obtain ⟨HV,Q9,g18⟩:=Option.bind_eq_some_iff.1 h;refine CG gC (fun s H=> ∃Fj:List Int,HV=(Fj)∧ ∃v10:AV,bA v10∧s=[u,u,u,v10,u,u,u,u,u,u,u,u,u,u,u,u,u,u,u,u,u,u,u,u,u,u,u,u,u,u,u,u,u,u,u]∧az H (⟨v10,1,Fj.map (AV.int .i64)⟩::F)) (fun Hi Fz=> ?_) (fun s H hq=> ?_)
 ·refine B4 fun G4 E8=> ?_;refine CC gC Q9 (fun x s H=>match x with|(EF,EH)=> ∃v6:AV,bA v6∧s=[.fe (.agg [.int .i64 a0.Next,.fz (a0.Em.map Ej),.fz (a0.Ek.map (AV.int .i64))]) 0,u,u,v6,u,u,u,u,u,.int .i64 a0.Next,.int .i64 EH,u,u,u,u,u,u,u,u,u,u,u,u,u,u,u,u,u,u,u,u,u,u,u,u]∧az H (⟨v6,1,EF.map (AV.int .i64)⟩::F)) ⟨_,nt,rfl,(hS.Aq 1)⟩ (fun x Nc s H h Q_ hi Gm EP=> ?_)
  obtain ⟨EF,EH⟩:=x;try dsimp only at hi
  obtain ⟨v6,HC,rfl,hS⟩:=hi;simp only [ML] at h;refine B3 fun GI E9=> ?_;refine Ck gC ?_;try simp only [W,EE,Nat.reduceAdd]
  refine B_ E9 ?_;refine B3 fun HB Fv=> ?_;refine B8 ?_;simp only [W];refine Cj h (fun hc h=> ?_) (fun hc h=> ?_)
  ·refine B5 ?_;refine B_ Fv ?_;refine B3 fun Ik FH=> ?_;obtain ⟨Ni,h,Nj⟩:=Option.bind_eq_some_iff.1 h;refine CG gC (fun s H=> ∃HI:List Int,Ni=(HI)∧ ∃v24:AV,bA v24∧s=[.fe (.agg [.int .i64 a0.Next,.fz (a0.Em.map Ej),.fz (a0.Ek.map (AV.int .i64))]) 0,u,u,v24,u,u,u,u,u,.int .i64 a0.Next,.int .i64 EH,u,u,u,u,u,u,u,u,u,u,u,u,u,u,u,u,u,u,u,u,u,u,u,u]∧az H (⟨v24,1,HI.map (AV.int .i64)⟩::F)) (fun Gn E2=> ?_) (fun s H hq=> ?_)
   ·refine B4 fun JO F3=> ?_;refine B3 fun Il FD=> ?_;refine Ck gC ?_;try simp only [W,Nat.reduceAdd]
    refine B_ FD ?_;refine B3 fun Kv Gz=> ?_;obtain ⟨NA,h,NB⟩:=Option.bind_eq_some_iff.1 h;refine CG gC (fun s H=> ∃FF:Bool,NA=(FF)∧s=[.fe (.agg [.int .i64 a0.Next,.fz (a0.Em.map Ej),.fz (a0.Ek.map (AV.int .i64))]) 0,u,u,v6,.int .i64 EH,u,u,u,u,.int .i64 a0.Next,.int .i64 EH,u,u,u,u,u,u,u,u,u,u,u,u,u,u,u,u,u,.bool FF,u,u,u,u,u,u]∧az H (⟨v6,1,EF.map (AV.int .i64)⟩::F)) (fun QF IT=> ?_) (fun s H hq=> ?_)
    ·refine B3 fun Jd FY=> ?_;refine Ck gC ?_;try simp only [W,EE,Nat.reduceAdd,Nat.reduceBEq]
     refine CB h fun Fx Jq h=> ?_;refine KH Jq hS fun H hS=> ?_;try simp only [W]
     refine C4 h (fun hc h=> ?_) (fun hc h=> ?_)
     ·try simp only [W,EE,Nat.reduceAdd,Nat.reduceBEq,hc]
      refine CB h fun Hg Jl h=> ?_;refine Tx Jl hS fun H hS=> ?_;try simp only [W,reduceIte]
      refine B_ FY ?_;refine B9 ?_;exact CH IT ⟨_,(Option.some.inj h).symm,rfl,hS⟩
     ·try simp only [W,hc]
      refine B_ FY ?_;refine B9 ?_;exact CH IT ⟨_,(Option.some.inj h).symm,rfl,hS⟩
    ·obtain ⟨FF,Es,rfl,hS⟩:=hq;obtain rfl:=Es.symm;replace h:=NB;try dsimp only at h
     refine B_ Gz ?_;obtain ⟨O6,h,NC⟩:=Option.bind_eq_some_iff.1 h;refine CG gC (fun s H=> ∃Ga:List Int,O6=(Ga)∧ ∃GV:AV,bA GV∧s=[.fe (.agg [.int .i64 a0.Next,.fz (a0.Em.map Ej),.fz (a0.Ek.map (AV.int .i64))]) 0,u,u,GV,u,u,u,u,u,.int .i64 a0.Next,.int .i64 EH,u,u,u,u,u,u,u,u,u,u,u,u,u,u,u,u,u,u,u,u,u,u,u,u]∧az H (⟨GV,1,Ga.map (AV.int .i64)⟩::F)) (fun OE HW=> ?_) (fun s H hq=> ?_)
     ·refine B3 fun Nx G8=> ?_;refine B8 ?_;simp only [W];refine Cj h (fun hc h=> ?_) (fun hc h=> ?_)
      ·refine Ck gC ?_;try simp only [W,Nat.reduceAdd]
       refine CA (el:=([EH]:List Int).map (AV.int .i64)) hS rfl rfl rfl rfl rfl rfl rfl fun v44 H Ra hS=> ?_;try simp only [W,EE]
       refine CP (l:=EF) (c:=(AV.int .i64)) 1 hS rfl HC rfl rfl rfl (hS.il 0 rfl Ra) (fun _=>rfl) rfl h fun FB H Gy JZ hm h hS=> ?_;try simp only [W]
       refine B_ G8 ?_;refine B9 ?_;exact CH HW ⟨_,(Option.some.inj h).symm,_,JZ,rfl,(hS.C0 2 [1] (by decide))⟩
      ·refine B5 ?_;refine B_ G8 ?_;refine B9 ?_;exact CH HW ⟨_,(Option.some.inj h).symm,_,HC,rfl,hS⟩
     ·obtain ⟨Ga,Es,GV,LC,rfl,hS⟩:=hq;obtain rfl:=Es.symm;replace h:=NC;try dsimp only at h
      refine Cc F3 ?_;exact CH E2 ⟨_,(Option.some.inj h).symm,_,LC,rfl,hS⟩
   ·obtain ⟨HI,Es,v24,Nt,rfl,hS⟩:=hq;obtain rfl:=Es.symm;replace h:=Nj;try dsimp only at h
    refine B_ FH ?_;refine Ck gC ?_;try simp only [W,EE,Nat.reduceAdd]
    exact CD EP h ⟨_,Nt,rfl,hS⟩
  ·refine B7 ?_;refine Cb Fv ?_;try obtain rfl:=Option.some.inj h
   obtain rfl:=Q_ _ rfl;have h:(some (EF):Option ((List Int)))=some (EF):=rfl;refine CE EP ?_;refine Ce E8 ?_;exact CH Fz ⟨_,(Option.some.inj h).symm,_,HC,rfl,hS⟩
 ·obtain ⟨Fj,Es,v10,IS,rfl,hS⟩:=hq;obtain rfl:=Es.symm;replace h:=g18;try dsimp only at h
  refine B_ EJ ?_;refine B3 fun Lr G6=> ?_;refine Ck gC ?_;try simp only [W,Nat.reduceAdd]
  refine B_ G6 ?_;refine B6 ?_;refine Ch El rfl ?_;try obtain rfl:=Option.some.inj h
  exact hP _ IS _ hS
theorem Yp {a0 r:List Int} (h:slices_Sort_int a0=some r) {F:List It} {H:J} {m0:AV} (hS:az H (⟨m0,1,a0.map (AV.int .i64)⟩::F)) (Ir:bA m0) {P:AV→J→Prop} (hP: ∀H',az H' (⟨m0,1,r.map (AV.int .i64)⟩::F)→P (.ay []) H'):aq C 78 [m0] H P:=
 Eh (I:=Ih) rfl (by simp [Ih,lM]) h hS Ir hP
theorem Ty {a0:Et} {a1:List Span} {r:(Et×List Int×List Int×Bool)} (h:Kk a0 a1=some r) {F:List It} {H:J} (hS:az H (F)) {P:AV→J→Prop} (hP: ∀v148:AV,bA v148→ ∀Rb:AV,bA Rb→ ∀H',az H' (⟨v148,1,r.2.1.map (AV.int .i64)⟩::⟨Rb,1,r.2.2.1.map (AV.int .i64)⟩::F)→P (.ay [.agg [.int .i64 r.1.Next,.fz (r.1.Em.map Ej),.fz (r.1.Ek.map (AV.int .i64))],v148,Rb,.bool r.2.2.2]) H'):aq C 9 [.agg [.int .i64 a0.Next,.fz (a0.Em.map Ej),.fz (a0.Ek.map (AV.int .i64))],.fz (a1.map Ej)] H P:=by
 refine Cn gC (res:=[.cell 4 26,.tmp 5,.tmp 6,.tmp 7]) (n:=106) rfl rfl rfl rfl fun K0 El=> ?_;simp only [W,Nat.reduceSub,Nat.reduceAdd,List.replicate];unfold Kk at h;refine B3 fun K1 Er=> ?_;refine Ck gC ?_;try simp only [W,Nat.reduceAdd]
 refine Cq hS rfl rfl rfl rfl fun Eo Ep H hS=> ?_;try simp only [W]
 refine Cr hS rfl rfl fun Eu Ev H hS=> ?_;try simp only [W]
 refine B_ Er ?_;refine B3 fun K6 E6=> ?_;refine B3 fun K7 EI=> ?_;obtain ⟨KD,h,g10⟩:=Option.bind_eq_some_iff.1 h;refine CG gC (fun s H=> ∃EH:Bool,KD=(EH)∧s=(u:: .fz (a1.map Ej):: .ptr Eo Ep 0 0::u:: .ptr Eu Ev 0 0::u::u::u::u::u::u::u::u::u::u::u::u::u::u::u::u::u::u::u::u::u:: .bool EH::u::u::u::u::u::u::u::u::u::u::u::u::u::u::u::u::u::u::u::u::u::u::u::u::u::u::u::u::u::u::u::u::u::u::u::u::u::u::u::u::u::u::u::u::u::u::u::u::u::u::u::u::u::u::u::u::u::u::u::u::u::u::u::u::u::u::u::u::u::u::u::u::u::u::u::u::u::u::u::[])∧az H (⟨.ptr Eo Ep 0 0,3,[.agg [.int .i64 a0.Next,.fz (a0.Em.map Ej),.fz (a0.Ek.map (AV.int .i64))]]⟩::⟨.ptr Eu Ev 0 0,3,[.agg [.int .i64 0,.nil,.nil]]⟩::F)) (fun Ii Fy=> ?_) (fun s H hq=> ?_)
 ·refine B3 fun Ij Fs=> ?_;refine Ck gC ?_;try simp only [W,EE,reduceIte,Nat.reduceAdd,Nat.reduceLeDiff,hS.var 1 rfl]
  refine CB h fun Hd Je h=> ?_;refine LK Je hS fun H hS=> ?_;try simp only [W]
  refine C4 h (fun hc h=> ?_) (fun hc h=> ?_)
  ·try simp only [W,hc]
   refine B_ Fs ?_;refine DP (s' :=(u:: .fz (a1.map Ej):: .ptr Eo Ep 0 0::u:: .ptr Eu Ev 0 0::u::u::u::u::u::u::u::u::u::u::u::u::u::u::u::u::u::u::u::u::u:: .bool true::u::u::u::u::u::u::u::u::u::u::u::u::u::u::u::u::u::u::u::u::u::u::u::u::u::u::u::u::u::u::u::u::u::u::u::u::u::u::u::u::u::u::u::u::u::u::u::u::u::u::u::u::u::u::u::u::u::u::u::u::u::u::u::u::u::u::u::u::u::u::u::u::u::u::u::u::u::u::u::[])) rfl ?_
   exact CH Fy ⟨_,(Option.some.inj h).symm,rfl,(hS.C0 2 [1,0] (by decide))⟩
  ·try simp only [W,EE,Nat.reduceAdd,Nat.reduceBEq,hS.var 1 rfl,hc]
   refine CB h fun La QC h=> ?_;refine Tm QC hS fun H hS=> ?_;try simp only [W,reduceIte,Bool.false_eq_true]
   refine B_ Fs ?_;refine DP (s' :=(u:: .fz (a1.map Ej):: .ptr Eo Ep 0 0::u:: .ptr Eu Ev 0 0::u::u::u::u::u::u::u::u::u::u::u::u::u::u::u::u::u::u::u::u::u:: .bool (!La)::u::u::u::u::u::u::u::u::u::u::u::u::u::u::u::u::u::u::u::u::u::u::u::u::u::u::u::u::u::u::u::u::u::u::u::u::u::u::u::u::u::u::u::u::u::u::u::u::u::u::u::u::u::u::u::u::u::u::u::u::u::u::u::u::u::u::u::u::u::u::u::u::u::u::u::u::u::u::u::[])) rfl ?_
   exact CH Fy ⟨_,(Option.some.inj h).symm,rfl,(hS.C0 2 [1,0] (by decide))⟩
 ·obtain ⟨EH,Es,rfl,hS⟩:=hq;obtain rfl:=Es.symm;replace h:=g10;try dsimp only at h
  refine B_ EI ?_;refine B8 ?_;simp only [W];refine Cj h (fun hc h=> ?_) (fun hc h=> ?_)
  ·refine B3 fun Gm EP=> ?_;refine Cl (fz:=[(1,[([27],[.sc,.sl [.sc,.sc],.sl [.sc]])])]) gC ?_;try simp only [W,EE,Nat.reduceAdd,Nat.reduceBEq]
   refine C5 rfl rfl rfl rfl rfl ?_;try simp only [W,Nat.reduceAdd]
   refine CY rfl ?_;refine CU rfl ?_;refine CW ?_;refine CW ?_;refine CT ?_;simp only [W];try simp only [W,EE,EN,reduceIte,Nat.reduceAdd,Nat.reduceLeDiff,Nat.reduceBEq,Nat.reduceMul,Bool.false_eq_true]
   refine Cs (a:= .agg [.int .i64 0,.fz (([]:List Span).map Ej),.fz (([]:List Int).map (AV.int .i64))]) (y' := .agg [.int .i64 0,.fz (([]:List Span).map Ej),.fz (([]:List Int).map (AV.int .i64))]) 1 hS rfl rfl rfl rfl rfl rfl rfl rfl fun H hS=> ?_
   try simp only [W,Nat.reduceAdd,Nat.reduceBEq]
   refine B_ EP ?_;refine B6 ?_;refine Ca E6 ?_;refine Cg El (C2 rfl rfl (hS.var 1 rfl) rfl (C3 rfl (C3 rfl (C3 rfl rfl)))) ?_;try obtain rfl:=Option.some.inj h
   exact hP _ nr _ nr _ (((hS.Ap 1).Ap 1).C0 4 [0,1] (by decide))
  ·refine B5 ?_;refine B_ E6 ?_;refine B3 fun Gc EM=> ?_;refine Ck gC ?_;try simp only [W,EE,Nat.reduceAdd,Nat.reduceBEq,hS.var 0 rfl]
   refine CB h fun Fp QD h=> ?_;obtain ⟨Ez,FE⟩:=Fp;try dsimp only at h
   refine Ya QD hS fun H hS=> ?_;try simp only [W]
   refine Cr hS rfl rfl fun Hn Ho H hS=> ?_;try simp only [W]
   refine Cs (a:= .fz (Ez.map Ej)) (y' := .fz (Ez.map Ej)) 0 hS rfl rfl rfl rfl rfl rfl rfl rfl fun H hS=> ?_
   try simp only [W]
   refine B_ EM ?_;refine B3 fun JO F3=> ?_;refine B3 fun IM FW=> ?_;refine Ck gC ?_;try simp only [W,Nat.reduceAdd]
   refine B_ FW ?_;refine B8 ?_;simp only [W];refine Cj h (fun hc h=> ?_) (fun hc h=> ?_)
   ·refine B3 fun Hj Fu=> ?_;refine Cl (fz:=[(1,[([37],[.sc,.sl [.sc,.sc],.sl [.sc]])])]) gC ?_;try simp only [W,EE,Nat.reduceAdd,Nat.reduceBEq]
    refine C5 rfl rfl rfl rfl rfl ?_;try simp only [W,Nat.reduceAdd]
    refine CY rfl ?_;refine CU rfl ?_;refine CW ?_;refine CW ?_;refine CT ?_;simp only [W];try simp only [W,EE,EN,reduceIte,Nat.reduceAdd,Nat.reduceLeDiff,Nat.reduceBEq,Nat.reduceMul,Bool.false_eq_true]
    refine Cs (a:= .agg [.int .i64 0,.fz (([]:List Span).map Ej),.fz (([]:List Int).map (AV.int .i64))]) (y' := .agg [.int .i64 0,.fz (([]:List Span).map Ej),.fz (([]:List Int).map (AV.int .i64))]) 2 hS rfl rfl rfl rfl rfl rfl rfl rfl fun H hS=> ?_
    try simp only [W,Nat.reduceAdd,Nat.reduceBEq]
    refine B_ Fu ?_;refine B6 ?_;refine Ca F3 ?_;refine Cg El (C2 rfl rfl (hS.var 2 rfl) rfl (C3 rfl (C3 rfl (C3 rfl rfl)))) ?_;try obtain rfl:=Option.some.inj h
    exact hP _ nr _ nr _ (((hS.Ap 1).Ap 1).C0 5 [0,1] (by decide))
   ·refine B5 ?_;refine B_ F3 ?_;refine B3 fun Jc FO=> ?_;refine Ck gC ?_;try simp only [W,Nat.reduceAdd]
    refine Cz rfl rfl ?_;try simp only [W]
    refine Cz rfl rfl ?_;try simp only [W]
    refine B_ FO ?_;refine B3 fun HT FA=> ?_;refine B3 fun Gn E2=> ?_;refine Ck gC ?_;try simp only [W,EE,Nat.reduceAdd,Nat.reduceBEq,hS.var 1 rfl]
    refine B_ E2 ?_;obtain ⟨Nd,Yq,NC⟩:=Option.bind_eq_some_iff.1 h;refine CG gC (fun s H=> ∃Fm:List Int,Nd=(Fm)∧ ∃v33:AV,bA v33∧s=(u::u:: .ptr Eo Ep 0 0::u:: .ptr Eu Ev 0 0::u::u::u:: .ptr Hn Ho 0 0::u::v33:: .e0::u::u::u::u::u::u::u::u::u::u::u::u::u::u::u::u::u::u::u::u::u::u::u::u::u::u::u::u::u::u::u::u::u::u::u::u::u::u::u::u::u::u::u::u::u::u::u::u::u::u::u::u::u::u::u::u::u::u::u::u::u::u::u::u::u::u::u::u::u::u::u::u::u::u::u::u::u::u::u::u::u::u::u::u::u::u::u::u::u::u::u::u::u::u::[])∧az H (⟨v33,1,Fm.map (AV.int .i64)⟩::⟨.ptr Eo Ep 0 0,3,[.agg [.int .i64 a0.Next,.fz (a0.Em.map Ej),.fz (a0.Ek.map (AV.int .i64))]]⟩::⟨.ptr Eu Ev 0 0,3,[.agg [.int .i64 0,.nil,.nil]]⟩::⟨.ptr Hn Ho 0 0,1,[.fz (Ez.map Ej)]⟩::F)) (fun On HU=> ?_) (fun s H hq=> ?_)
    ·refine B4 fun PW Ks=> ?_;refine CC gC Yq (fun x s H=>match x with|(Fg,EY)=> ∃Gs:AV,bA Gs∧s=(u::u:: .ptr Eo Ep 0 0::u:: .ptr Eu Ev 0 0::u::u::u:: .ptr Hn Ho 0 0::u::Gs:: .e0::u::u::u::u::u::u::u::u::u::u::u::u::u::u::u::u::u::u::u::u::u::u::u::u::u::u::u::u::u:: .int .i64 a0.Next:: .int .i64 EY::u::u::u::u::u::u::u::u::u::u::u::u::u::u::u::u::u::u::u::u::u::u::u::u::u::u::u::u::u::u::u::u::u::u::u::u::u::u::u::u::u::u::u::u::u::u::u::u::u::u::u::u::u::u::u::u::u::u::u::u::u::u::u::[])∧az H (⟨Gs,1,Fg.map (AV.int .i64)⟩::⟨.ptr Eo Ep 0 0,3,[.agg [.int .i64 a0.Next,.fz (a0.Em.map Ej),.fz (a0.Ek.map (AV.int .i64))]]⟩::⟨.ptr Eu Ev 0 0,3,[.agg [.int .i64 0,.nil,.nil]]⟩::⟨.ptr Hn Ho 0 0,1,[.fz (Ez.map Ej)]⟩::F)) ⟨_,nt,rfl,((hS.Aq 1).C0 4 [0,2,3,1] (by decide))⟩ (fun x O6 s H h Yr hi XP O4=> ?_)
     obtain ⟨Fg,EY⟩:=x;try dsimp only at hi
     obtain ⟨Gs,JX,rfl,hS⟩:=hi;simp only [Ob] at h;refine B3 fun OE HW=> ?_;refine Ck gC ?_;try simp only [W,EE,Nat.reduceAdd]
     refine B_ HW ?_;refine B3 fun Nx G8=> ?_;refine B8 ?_;simp only [W];refine Cj h (fun hc h=> ?_) (fun hc h=> ?_)
     ·refine B5 ?_;refine B_ G8 ?_;refine B3 fun Th LG=> ?_;obtain ⟨Qr,h,Qs⟩:=Option.bind_eq_some_iff.1 h;refine CG gC (fun s H=> ∃Gy:List Int,Qr=(Gy)∧ ∃FB:AV,bA FB∧s=(u::u:: .ptr Eo Ep 0 0::u:: .ptr Eu Ev 0 0::u::u::u:: .ptr Hn Ho 0 0::u::FB:: .e0::u::u::u::u::u::u::u::u::u::u::u::u::u::u::u::u::u::u::u::u::u::u::u::u::u::u::u::u::u:: .int .i64 a0.Next:: .int .i64 EY::u::u::u::u::u::u::u::u::u::u::u::u::u::u::u::u::u::u::u::u::u::u::u::u::u::u::u::u::u::u::u::u::u::u::u::u::u::u::u::u::u::u::u::u::u::u::u::u::u::u::u::u::u::u::u::u::u::u::u::u::u::u::u::[])∧az H (⟨FB,1,Gy.map (AV.int .i64)⟩::⟨.ptr Eo Ep 0 0,3,[.agg [.int .i64 a0.Next,.fz (a0.Em.map Ej),.fz (a0.Ek.map (AV.int .i64))]]⟩::⟨.ptr Eu Ev 0 0,3,[.agg [.int .i64 0,.nil,.nil]]⟩::⟨.ptr Hn Ho 0 0,1,[.fz (Ez.map Ej)]⟩::F)) (fun Nl HE=> ?_) (fun s H hq=> ?_)
      ·refine B4 fun QS IU=> ?_;refine B3 fun Lr G6=> ?_;refine Ck gC ?_;try simp only [W,Nat.reduceAdd]
       refine B_ G6 ?_;refine B3 fun OP Jj=> ?_;obtain ⟨Ys,h,Yt⟩:=Option.bind_eq_some_iff.1 h;refine CG gC (fun s H=> ∃MN:Bool,Ys=(MN)∧s=(u::u:: .ptr Eo Ep 0 0::u:: .ptr Eu Ev 0 0::u::u::u:: .ptr Hn Ho 0 0::u::Gs:: .e0:: .int .i64 EY::u::u::u::u::u::u::u::u::u::u::u::u::u::u::u::u::u::u::u::u::u::u::u::u::u::u::u::u:: .int .i64 a0.Next:: .int .i64 EY::u::u::u::u::u::u::u::u::u::u::u:: .bool MN::u::u::u::u::u::u::u::u::u::u::u::u::u::u::u::u::u::u::u::u::u::u::u::u::u::u::u::u::u::u::u::u::u::u::u::u::u::u::u::u::u::u::u::u::u::u::u::u::u::u::u::[])∧az H (⟨Gs,1,Fg.map (AV.int .i64)⟩::⟨.ptr Eo Ep 0 0,3,[.agg [.int .i64 a0.Next,.fz (a0.Em.map Ej),.fz (a0.Ek.map (AV.int .i64))]]⟩::⟨.ptr Eu Ev 0 0,3,[.agg [.int .i64 0,.nil,.nil]]⟩::⟨.ptr Hn Ho 0 0,1,[.fz (Ez.map Ej)]⟩::F)) (fun Ot IH=> ?_) (fun s H hq=> ?_)
       ·refine B3 fun Ti LH=> ?_;refine Ck gC ?_;try simp only [W,EE,Nat.reduceAdd,hS.var 3 rfl]
        refine CB h fun LV Yu h=> ?_;refine KH Yu hS fun H hS=> ?_;try simp only [W]
        refine C4 h (fun hc h=> ?_) (fun hc h=> ?_)
        ·try simp only [W,EE,Nat.reduceAdd,Nat.reduceBEq,hS.var 1 rfl,hc]
         refine CB h fun H8 Tn h=> ?_;refine KH Tn hS fun H hS=> ?_;try simp only [W,reduceIte]
         refine B_ LH ?_;refine DP (s' :=(u::u:: .ptr Eo Ep 0 0::u:: .ptr Eu Ev 0 0::u::u::u:: .ptr Hn Ho 0 0::u::Gs:: .e0:: .int .i64 EY::u::u::u::u::u::u::u::u::u::u::u::u::u::u::u::u::u::u::u::u::u::u::u::u::u::u::u::u:: .int .i64 a0.Next:: .int .i64 EY::u::u::u::u::u::u::u::u::u::u::u:: .bool (!H8)::u::u::u::u::u::u::u::u::u::u::u::u::u::u::u::u::u::u::u::u::u::u::u::u::u::u::u::u::u::u::u::u::u::u::u::u::u::u::u::u::u::u::u::u::u::u::u::u::u::u::u::[])) rfl ?_
         exact CH IH ⟨_,(Option.some.inj h).symm,rfl,hS⟩
        ·try simp only [W,hc]
         refine B_ LH ?_;refine DP (s' :=(u::u:: .ptr Eo Ep 0 0::u:: .ptr Eu Ev 0 0::u::u::u:: .ptr Hn Ho 0 0::u::Gs:: .e0:: .int .i64 EY::u::u::u::u::u::u::u::u::u::u::u::u::u::u::u::u::u::u::u::u::u::u::u::u::u::u::u::u:: .int .i64 a0.Next:: .int .i64 EY::u::u::u::u::u::u::u::u::u::u::u:: .bool false::u::u::u::u::u::u::u::u::u::u::u::u::u::u::u::u::u::u::u::u::u::u::u::u::u::u::u::u::u::u::u::u::u::u::u::u::u::u::u::u::u::u::u::u::u::u::u::u::u::u::u::[])) rfl ?_
         exact CH IH ⟨_,(Option.some.inj h).symm,rfl,hS⟩
       ·obtain ⟨MN,Es,rfl,hS⟩:=hq;obtain rfl:=Es.symm;replace h:=Yt;try dsimp only at h
        refine B_ Jj ?_;obtain ⟨Yv,h,Yw⟩:=Option.bind_eq_some_iff.1 h;refine CG gC (fun s H=> ∃Ft:List Int,Yv=(Ft)∧ ∃Iq:AV,bA Iq∧s=(u::u:: .ptr Eo Ep 0 0::u:: .ptr Eu Ev 0 0::u::u::u:: .ptr Hn Ho 0 0::u::Iq:: .e0::u::u::u::u::u::u::u::u::u::u::u::u::u::u::u::u::u::u::u::u::u::u::u::u::u::u::u::u::u:: .int .i64 a0.Next:: .int .i64 EY::u::u::u::u::u::u::u::u::u::u::u::u::u::u::u::u::u::u::u::u::u::u::u::u::u::u::u::u::u::u::u::u::u::u::u::u::u::u::u::u::u::u::u::u::u::u::u::u::u::u::u::u::u::u::u::u::u::u::u::u::u::u::u::[])∧az H (⟨Iq,1,Ft.map (AV.int .i64)⟩::⟨.ptr Eo Ep 0 0,3,[.agg [.int .i64 a0.Next,.fz (a0.Em.map Ej),.fz (a0.Ek.map (AV.int .i64))]]⟩::⟨.ptr Eu Ev 0 0,3,[.agg [.int .i64 0,.nil,.nil]]⟩::⟨.ptr Hn Ho 0 0,1,[.fz (Ez.map Ej)]⟩::F)) (fun XV O5=> ?_) (fun s H hq=> ?_)
        ·refine B3 fun Wd Nn=> ?_;refine B8 ?_;simp only [W];refine Cj h (fun hc h=> ?_) (fun hc h=> ?_)
         ·refine Ck gC ?_;try simp only [W,Nat.reduceAdd]
          refine CA (el:=([EY]:List Int).map (AV.int .i64)) hS rfl rfl rfl rfl rfl rfl rfl fun v67 H Yx hS=> ?_;try simp only [W,EE]
          refine CP (l:=Fg) (c:=(AV.int .i64)) 1 hS rfl JX rfl rfl rfl (hS.il 0 rfl Yx) (fun _=>rfl) rfl h fun v70 H RW Yy hm h hS=> ?_;try simp only [W]
          refine B_ Nn ?_;refine DP (s' :=(u::u:: .ptr Eo Ep 0 0::u:: .ptr Eu Ev 0 0::u::u::u:: .ptr Hn Ho 0 0::u::v70:: .e0::u::u::u::u::u::u::u::u::u::u::u::u::u::u::u::u::u::u::u::u::u::u::u::u::u::u::u::u::u:: .int .i64 a0.Next:: .int .i64 EY::u::u::u::u::u::u::u::u::u::u::u::u::u::u::u::u::u::u::u::u::u::u::u::u::u::u::u::u::u::u::u::u::u::u::u::u::u::u::u::u::u::u::u::u::u::u::u::u::u::u::u::u::u::u::u::u::u::u::u::u::u::u::u::[])) rfl ?_
          exact CH O5 ⟨_,(Option.some.inj h).symm,_,Yy,rfl,(hS.C0 5 [1,2,3,4] (by decide))⟩
         ·refine B5 ?_;refine B_ Nn ?_;refine DP (s' :=(u::u:: .ptr Eo Ep 0 0::u:: .ptr Eu Ev 0 0::u::u::u:: .ptr Hn Ho 0 0::u::Gs:: .e0::u::u::u::u::u::u::u::u::u::u::u::u::u::u::u::u::u::u::u::u::u::u::u::u::u::u::u::u::u:: .int .i64 a0.Next:: .int .i64 EY::u::u::u::u::u::u::u::u::u::u::u::u::u::u::u::u::u::u::u::u::u::u::u::u::u::u::u::u::u::u::u::u::u::u::u::u::u::u::u::u::u::u::u::u::u::u::u::u::u::u::u::u::u::u::u::u::u::u::u::u::u::u::u::[])) rfl ?_
          exact CH O5 ⟨_,(Option.some.inj h).symm,_,JX,rfl,hS⟩
        ·obtain ⟨Ft,Es,Iq,KE,rfl,hS⟩:=hq;obtain rfl:=Es.symm;replace h:=Yw;try dsimp only at h
         refine Cc IU ?_;exact CH HE ⟨_,(Option.some.inj h).symm,_,KE,rfl,hS⟩
      ·obtain ⟨Gy,Es,FB,JZ,rfl,hS⟩:=hq;obtain rfl:=Es.symm;replace h:=Qs;try dsimp only at h
       refine B_ LG ?_;refine Ck gC ?_;try simp only [W,EE,Nat.reduceAdd]
       exact CD O4 h ⟨_,JZ,rfl,hS⟩
     ·refine B7 ?_;refine Cb G8 ?_;try obtain rfl:=Option.some.inj h
      obtain rfl:=Yr _ rfl;have h:(some (Fg):Option ((List Int)))=some (Fg):=rfl;refine CE O4 ?_;refine Ce Ks ?_;exact CH HU ⟨_,(Option.some.inj h).symm,_,JX,rfl,hS⟩
    ·obtain ⟨Fm,Es,v33,Im,rfl,hS⟩:=hq;obtain rfl:=Es.symm;replace h:=NC;try dsimp only at h
     refine B_ FA ?_;refine B3 fun Yz Rc=> ?_;refine C6 gC [(7,[0,1,2]),(10,[])] (by kernel_rfl) rfl (by kernel_rfl) ?_
     try simp only [W,EE,reduceIte,Nat.reduceAdd,Nat.reduceBEq,hS.var 3 rfl,hS.var 1 rfl,iV,lG,Nat.reduceEqDiff,List.contains_cons,Nat.reduceBEq,Bool.or_self]
     refine Du (bP:=[[.sl [.sc]]]) (ys:=[.fz (a0.Ek.map (AV.int .i64))]) h rfl (by rfl) fun MQ Re h=>⟨.own 1 (MQ.map (AV.int .i64)),Tv Re (az.nil _) fun v76 Ly H hS=>Dl rfl (Dj 0 hS rfl Ly (fun _ _=>by simp [aY,aN,dp]) fun H hS=>Dh rfl),(Dw _ (fun _=>rfl) _),?_⟩
     refine Dr ?_;refine Dp hS (fun _ _=>rfl) (fun _=>rfl) fun v78 H O7 hS=> ?_;refine Dm ?_;try simp only [List.headD_cons]
     try simp only [W]
     refine CB h fun Hy YA h=> ?_;refine Ye YA (List.mem_of_getElem? (i:=3) rfl) hS O7 fun v80 IQ H hS=> ?_;refine C7 ?_;refine C8 (by first|rfl|(simp [gR,aP,W,EE,hS.var 2 rfl];done)|exact DE 0 hS rfl IQ rfl rfl rfl rfl rfl|exact DE 1 hS rfl Im rfl rfl rfl rfl rfl) ?_
     refine C8 (by first|rfl|(simp [gR,aP,W,EE,bT,jG,aD,AV.cells,hS.var 2 rfl];done)|exact DE 0 hS rfl IQ rfl rfl rfl rfl rfl|exact DE 1 hS rfl Im rfl rfl rfl rfl rfl) ?_
     refine C8 (by first|rfl|(simp [gR,aP,W,EE,bT,jG,aD,AV.cells,hS.var 4 rfl];done)|exact DE 0 hS rfl IQ rfl rfl rfl rfl rfl|exact DE 1 hS rfl Im rfl rfl rfl rfl rfl) ?_
     refine C9 ?_;try simp only [W,EE]
     refine C5 rfl rfl rfl rfl (by simp only [fD,IQ.Cx,IQ.cells];simp [E,splice,AV.cells,dD,cM]<;>rfl) ?_
     try simp only [W]
     refine Cr hS rfl rfl fun Hp Hq H hS=> ?_;try simp only [W]
     refine Cs (a:= .agg [.int .i64 a0.Next,.fz (Ez.map Ej),v80]) (y' := .agg [.int .i64 a0.Next,.fz (Ez.map Ej),v80]) 0 hS rfl rfl rfl rfl rfl (by simp only [dD,List.all_cons,List.all_nil,IQ.qu];rfl) rfl rfl fun H hS=> ?_
     try simp only [W]
     refine B_ Rc ?_;refine B3 fun Ou IK=> ?_;refine B3 fun Ov IL=> ?_;refine Ck gC ?_;try simp only [W,EE,Nat.reduceAdd,hS.var 5 rfl]
     refine B_ IL ?_;obtain ⟨YB,h,YC⟩:=Option.bind_eq_some_iff.1 h;refine CG gC (fun s H=> ∃Li:List Int,YB=(Li)∧ ∃v87:AV,bA v87∧s=(u::u::u::u:: .ptr Eu Ev 0 0::u::u::u::u::u::v33::v87::u:: .ptr Hp Hq 0 0::u::u::u::u::u::u::u::u::u::u::u::u::u::u::u::u::u::u::u::u::u::u::u::u::u::u::u::u::u::u::u::u::u::u::u::u::u::u::u::u::u::u::u::u::u::u::u::u::u::u::u::u::u::u::u::u::u::u::u::u::u::u::u::u::u::u::u::u::u::u::u::u::u::u::u::u::u::u::u::u::u::u::u::u::u::u::u::u::u::u::u::u::[])∧az H (⟨v33,1,Fm.map (AV.int .i64)⟩::⟨v87,1,Li.map (AV.int .i64)⟩::⟨v80,1,Hy.map (AV.int .i64)⟩::⟨.ptr Eu Ev 0 0,3,[.agg [.int .i64 0,.nil,.nil]]⟩::⟨.ptr Hp Hq 0 0,3,[.agg [.int .i64 a0.Next,.fz (Ez.map Ej),v80]]⟩::F)) (fun Wi OH=> ?_) (fun s H hq=> ?_)
     ·refine B3 fun Wj OI=> ?_;refine B8 ?_;simp only [W];refine Cj h (fun hc h=> ?_) (fun hc h=> ?_)
      ·refine B3 fun S1 Io=> ?_;refine Ck gC ?_;try simp only [W,EE,Nat.reduceAdd,hS.var 5 rfl]
       refine Cu rfl rfl rfl (fun _=>rfl) h fun Hc Sz h=> ?_;try simp only [W,EE,EN,Nat.reduceAdd,Nat.reduceBEq]
       refine B_ Io ?_;refine B3 fun Vj P3=> ?_;refine Ck gC ?_;try simp only [W,Nat.reduceAdd,Nat.reduceBEq,List.contains_cons,Nat.reduceBEq,Bool.or_self]
       refine Du (bP:=[[.sl [.sc]]]) (ys:=[.fe (.agg [.int .i64 a0.Next,.fz (Ez.map Ej),.fz (Hy.map (AV.int .i64))]) 0]) h rfl (Dg (Ay hS 0 rfl (Db (Ax rfl (Ax rfl (Ax (Dd hS 1 rfl IQ (fun _=>rfl)) (Da _)))))) Df) fun F8 P4 h=>⟨.own 1 (F8.map (AV.int .i64)),Yo P4 (az.nil _) fun v97 YD H hS=>Dl rfl (Dj 0 hS rfl YD (fun _ _=>by simp [aY,aN,dp]) fun H hS=>Dh rfl),(Dw _ (fun _=>rfl) _),?_⟩
       refine Dr ?_;refine Dp hS (fun _ _=>rfl) (fun _=>rfl) fun J0 H Tz hS=> ?_;refine Dm ?_;try simp only [List.headD_cons]
       try simp only [W,EE]
       refine Cy 0 hS rfl Tz rfl ?_;try simp only [W]
       refine B_ P3 ?_;obtain ⟨YE,YF,Qx⟩:=Option.bind_eq_some_iff.1 h;refine CG gC (fun s H=> ∃MR:List Int,YE=(MR)∧ ∃v105:AV,bA v105∧s=(u::u::u::u:: .ptr Eu Ev 0 0::u::u::u::u::u::v33::v105::u:: .ptr Hp Hq 0 0::u::u::u::u::u::u::u::u::u::u::u::u::u::u::u::u::u::u::u::u::u::u::u::u::u::u::u::u::u::u::u::u::u::u::u::u::u::u::u::u::u::u::u::u::u::u::u::u::u::u::u::u::u::u::u::u::u::u::u::u::u::u::u::u::u::u::u::u::u::u::u::u::u::u::u::u::u::u::u::u::u::u::u::u::u::u::u::u::u::u::u::u::[])∧az H (⟨v33,1,Fm.map (AV.int .i64)⟩::⟨v105,1,MR.map (AV.int .i64)⟩::⟨v80,1,Hy.map (AV.int .i64)⟩::⟨.ptr Eu Ev 0 0,3,[.agg [.int .i64 0,.nil,.nil]]⟩::⟨.ptr Hp Hq 0 0,3,[.agg [.int .i64 a0.Next,.fz (Ez.map Ej),v80]]⟩::F)) (fun SE Nf=> ?_) (fun s H hq=> ?_)
       ·refine B4 fun Wq Qw=> ?_;refine CC gC YF (fun x s H=>match x with|(I9,IF)=> ∃ND:AV,bA ND∧s=(u::u::u::u:: .ptr Eu Ev 0 0::u::u::u::u::u::v33::ND::u:: .ptr Hp Hq 0 0:: .int .i64 (IntKind.i64.wrap (Hc.To-1))::u::u::u::u::u::u::u::u::u::u::u::u::u::u::u::u::u::u::u::u::u::u::u::u::u::u::u::u::u::u::u::u::u::u::u::u::u::u::u::u::u::u::u::u::u::u::u::u::u::u::u::u::u::u::u::u::u::u::u::u::u::u::u::u::u::J0:: .int .i64 (F8.length:Int):: .int .i64 IF::u::u::u::u::u::u::u::u::u::u::u::u::u::u::u::u::u::u::u::u::u::u::u::[])∧az H (⟨v33,1,Fm.map (AV.int .i64)⟩::⟨ND,1,I9.map (AV.int .i64)⟩::⟨J0,1,F8.map (AV.int .i64)⟩::⟨v80,1,Hy.map (AV.int .i64)⟩::⟨.ptr Eu Ev 0 0,3,[.agg [.int .i64 0,.nil,.nil]]⟩::⟨.ptr Hp Hq 0 0,3,[.agg [.int .i64 a0.Next,.fz (Ez.map Ej),v80]]⟩::F)) ⟨_,nt,rfl,((hS.Aq 1).C0 8 [4,0,1,3,6,2] (by decide))⟩ (fun x S3 s H h YG hi adq TA=> ?_)
        obtain ⟨I9,IF⟩:=x;try dsimp only at hi
        obtain ⟨ND,Rf,rfl,hS⟩:=hi;simp only [MO] at h;refine B3 fun Wr OJ=> ?_;refine Ck gC ?_;try simp only [W,EE,Nat.reduceAdd]
        refine B_ OJ ?_;refine B3 fun SG JQ=> ?_;refine B8 ?_;simp only [W];refine Cj h (fun hc h=> ?_) (fun hc h=> ?_)
        ·refine B5 ?_;refine B_ JQ ?_;refine B3 fun Vv Oy=> ?_;obtain ⟨YH,h,YI⟩:=Option.bind_eq_some_iff.1 h;refine CG gC (fun s H=> ∃MP:List Int,YH=(MP)∧ ∃O8:AV,bA O8∧s=(u::u::u::u:: .ptr Eu Ev 0 0::u::u::u::u::u::v33::O8::u:: .ptr Hp Hq 0 0:: .int .i64 (IntKind.i64.wrap (Hc.To-1))::u::u::u::u::u::u::u::u::u::u::u::u::u::u::u::u::u::u::u::u::u::u::u::u::u::u::u::u::u::u::u::u::u::u::u::u::u::u::u::u::u::u::u::u::u::u::u::u::u::u::u::u::u::u::u::u::u::u::u::u::u::u::u::u::u::J0:: .int .i64 (F8.length:Int):: .int .i64 IF::u::u::u::u::u::u::u::u::u::u::u::u::u::u::u::u::u::u::u::u::u::u::u::[])∧az H (⟨v33,1,Fm.map (AV.int .i64)⟩::⟨O8,1,MP.map (AV.int .i64)⟩::⟨J0,1,F8.map (AV.int .i64)⟩::⟨v80,1,Hy.map (AV.int .i64)⟩::⟨.ptr Eu Ev 0 0,3,[.agg [.int .i64 0,.nil,.nil]]⟩::⟨.ptr Hp Hq 0 0,3,[.agg [.int .i64 a0.Next,.fz (Ez.map Ej),v80]]⟩::F)) (fun S5 LA=> ?_) (fun s H hq=> ?_)
         ·refine B4 fun Te LF=> ?_;refine B3 fun adr YJ=> ?_;refine Ck gC ?_;try simp only [W,EE,Nat.reduceAdd]
          refine Cv 2 hS rfl rfl rfl rfl rfl h (fun Kf ads adt adu YK h YL=> ?_) Tz.ne;obtain ⟨adv,YM,YN⟩:=hS.elem 2 rfl YL YK;try simp only [W,EE,YM,YN]
          refine B_ YJ ?_;refine B3 fun SH Lo=> ?_;refine Ck gC ?_;try simp only [W,EE,Nat.reduceAdd]
          refine B_ Lo ?_;obtain ⟨Qy,h,Qz⟩:=Option.bind_eq_some_iff.1 h;refine CG gC (fun s H=> ∃Ic:List Int,Qy=(Ic)∧ ∃O9:AV,bA O9∧s=(u::u::u::u:: .ptr Eu Ev 0 0::u::u::u::u::u::v33::O9::u:: .ptr Hp Hq 0 0:: .int .i64 (IntKind.i64.wrap (Hc.To-1))::u::u::u::u::u::u::u::u::u::u::u::u::u::u::u::u::u::u::u::u::u::u::u::u::u::u::u::u::u::u::u::u::u::u::u::u::u::u::u::u::u::u::u::u::u::u::u::u::u::u::u::u::u::u::u::u::u::u::u::u::u::u::u::u::u::J0:: .int .i64 (F8.length:Int):: .int .i64 IF::u::u::u::u::u::u::u::u::u::u::u::u::u::u::u::u::u::u::u::u::u::u::u::[])∧az H (⟨v33,1,Fm.map (AV.int .i64)⟩::⟨O9,1,Ic.map (AV.int .i64)⟩::⟨J0,1,F8.map (AV.int .i64)⟩::⟨v80,1,Hy.map (AV.int .i64)⟩::⟨.ptr Eu Ev 0 0,3,[.agg [.int .i64 0,.nil,.nil]]⟩::⟨.ptr Hp Hq 0 0,3,[.agg [.int .i64 a0.Next,.fz (Ez.map Ej),v80]]⟩::F)) (fun Wx Nq=> ?_) (fun s H hq=> ?_)
          ·refine B3 fun Wy Nr=> ?_;refine B8 ?_;simp only [W];refine Cj h (fun hc h=> ?_) (fun hc h=> ?_)
           ·refine Ck gC ?_;try simp only [W,Nat.reduceAdd]
            refine CA (el:=([Kf]:List Int).map (AV.int .i64)) hS rfl rfl rfl rfl rfl rfl rfl fun adw H YO hS=> ?_;try simp only [W,EE]
            refine CP (l:=I9) (c:=(AV.int .i64)) 2 hS rfl Rf rfl rfl rfl (hS.il 0 rfl YO) (fun _=>rfl) rfl h fun YP H RX YQ hm h hS=> ?_;try simp only [W]
            refine B_ Nr ?_;refine DP (s' :=(u::u::u::u:: .ptr Eu Ev 0 0::u::u::u::u::u::v33::YP::u:: .ptr Hp Hq 0 0:: .int .i64 (IntKind.i64.wrap (Hc.To-1))::u::u::u::u::u::u::u::u::u::u::u::u::u::u::u::u::u::u::u::u::u::u::u::u::u::u::u::u::u::u::u::u::u::u::u::u::u::u::u::u::u::u::u::u::u::u::u::u::u::u::u::u::u::u::u::u::u::u::u::u::u::u::u::u::u::J0:: .int .i64 (F8.length:Int):: .int .i64 IF::u::u::u::u::u::u::u::u::u::u::u::u::u::u::u::u::u::u::u::u::u::u::u::[])) rfl ?_
            exact CH Nq ⟨_,(Option.some.inj h).symm,_,YQ,rfl,(hS.C0 7 [1,2,3,4,5,6] (by decide))⟩
           ·refine B5 ?_;refine B_ Nr ?_;refine DP (s' :=(u::u::u::u:: .ptr Eu Ev 0 0::u::u::u::u::u::v33::ND::u:: .ptr Hp Hq 0 0:: .int .i64 (IntKind.i64.wrap (Hc.To-1))::u::u::u::u::u::u::u::u::u::u::u::u::u::u::u::u::u::u::u::u::u::u::u::u::u::u::u::u::u::u::u::u::u::u::u::u::u::u::u::u::u::u::u::u::u::u::u::u::u::u::u::u::u::u::u::u::u::u::u::u::u::u::u::u::u::J0:: .int .i64 (F8.length:Int):: .int .i64 IF::u::u::u::u::u::u::u::u::u::u::u::u::u::u::u::u::u::u::u::u::u::u::u::[])) rfl ?_
            exact CH Nq ⟨_,(Option.some.inj h).symm,_,Rf,rfl,hS⟩
          ·obtain ⟨Ic,Es,O9,YR,rfl,hS⟩:=hq;obtain rfl:=Es.symm;replace h:=Qz;try dsimp only at h
           refine Cc LF ?_;exact CH LA ⟨_,(Option.some.inj h).symm,_,YR,rfl,hS⟩
         ·obtain ⟨MP,Es,O8,YS,rfl,hS⟩:=hq;obtain rfl:=Es.symm;replace h:=YI;try dsimp only at h
          refine B_ Oy ?_;refine Ck gC ?_;try simp only [W,EE,Nat.reduceAdd]
          exact CD TA h ⟨_,YS,rfl,hS⟩
        ·refine B7 ?_;refine Cb JQ ?_;try obtain rfl:=Option.some.inj h
         obtain rfl:=YG _ rfl;have h:(some (I9):Option ((List Int)))=some (I9):=rfl;refine CE TA ?_;refine Ce Qw ?_;exact CH Nf ⟨_,(Option.some.inj h).symm,_,Rf,rfl,(hS.C0 6 [0,1,3,4,5] (by decide))⟩
       ·obtain ⟨MR,Es,v105,YT,rfl,hS⟩:=hq;obtain rfl:=Es.symm;replace h:=Qx;try dsimp only at h
        refine B_ OI ?_;refine DP (s' :=(u::u::u::u:: .ptr Eu Ev 0 0::u::u::u::u::u::v33::v105::u:: .ptr Hp Hq 0 0::u::u::u::u::u::u::u::u::u::u::u::u::u::u::u::u::u::u::u::u::u::u::u::u::u::u::u::u::u::u::u::u::u::u::u::u::u::u::u::u::u::u::u::u::u::u::u::u::u::u::u::u::u::u::u::u::u::u::u::u::u::u::u::u::u::u::u::u::u::u::u::u::u::u::u::u::u::u::u::u::u::u::u::u::u::u::u::u::u::u::u::u::[])) rfl ?_
        exact CH OH ⟨_,(Option.some.inj h).symm,_,YT,rfl,hS⟩
      ·refine B5 ?_;refine B_ OI ?_;refine DP (s' :=(u::u::u::u:: .ptr Eu Ev 0 0::u::u::u::u::u::v33:: .e0::u:: .ptr Hp Hq 0 0::u::u::u::u::u::u::u::u::u::u::u::u::u::u::u::u::u::u::u::u::u::u::u::u::u::u::u::u::u::u::u::u::u::u::u::u::u::u::u::u::u::u::u::u::u::u::u::u::u::u::u::u::u::u::u::u::u::u::u::u::u::u::u::u::u::u::u::u::u::u::u::u::u::u::u::u::u::u::u::u::u::u::u::u::u::u::u::u::u::u::u::u::[])) rfl ?_
       exact CH OH ⟨_,(Option.some.inj h).symm,_,nt,rfl,((hS.Aq 1).C0 7 [3,0,2,5,1] (by decide))⟩
     ·obtain ⟨Li,Es,v87,TB,rfl,hS⟩:=hq;obtain rfl:=Es.symm;replace h:=YC;try dsimp only at h
      refine B_ IK ?_;refine B3 fun adx YU=> ?_;refine Ck gC ?_;try simp only [W,EE,Nat.reduceAdd,Nat.reduceBEq,hS.var 4 rfl]
      refine CP (l:=Hy) (c:=(AV.int .i64)) 2 hS rfl IQ rfl rfl rfl (hS.il 1 rfl TB) (fun _=>rfl) rfl h fun v143 H RY KJ hm h hS=> ?_;try simp only [W,EE,Nat.reduceAdd,Nat.reduceBEq,hS.var 4 rfl]
      refine Cs (a:=v143) (y' := .agg [.int .i64 a0.Next,.fz (Ez.map Ej),v143]) 4 hS rfl rfl rfl rfl (by rw [KJ.cells];rfl) KJ.Cx (KJ.wr _ _ (by simp)) rfl fun H hS=> ?_
      try simp only [W]
      refine B_ YU ?_;refine B3 fun ady YV=> ?_;refine Ck gC ?_;try simp only [W,EE,Nat.reduceAdd,Nat.reduceBEq,hS.var 4 rfl]
      refine CB h fun Oc YW h=> ?_;refine Yp YW (hS.C0 5 [2,0,1,3,4] (by decide)) KJ fun H hS=> ?_
      try simp only [W]
      refine B_ YV ?_;refine B3 fun YX Rg=> ?_;refine Cl (fz:=[(3,[([103],[.sc,.sl [.sc,.sc],.sl [.sc]])])]) gC ?_;try simp only [W,EE,reduceIte,Nat.reduceAdd,Nat.reduceLeDiff,Nat.reduceBEq,hS.var 4 rfl]
      refine CY rfl ?_;refine CU rfl ?_;refine CV ?_;refine CX 0 hS rfl KJ (fun _ _=>by simp [aY,aN,dp]) fun H hS=> ?_
      refine CT ?_;simp only [W,u3 (c:=(AV.int .i64)) (fun _=>rfl)];try simp only [W,EE,EN,reduceIte,Nat.reduceAdd,Nat.reduceLeDiff,Nat.reduceBEq,Nat.reduceMul,Bool.false_eq_true]
      refine Cs (a:= .agg [.int .i64 a0.Next,.fz (Ez.map Ej),.fz (Oc.map (AV.int .i64))]) (y' := .agg [.int .i64 a0.Next,.fz (Ez.map Ej),.fz (Oc.map (AV.int .i64))]) 2 hS rfl rfl rfl rfl rfl rfl rfl rfl fun H hS=> ?_
      try simp only [W,Nat.reduceAdd,Nat.reduceBEq]
      refine B_ Rg ?_;refine B6 ?_;refine Cg El (C2 rfl rfl (hS.var 2 rfl) rfl (C3 rfl (C3 rfl (C3 rfl rfl)))) ?_;try obtain rfl:=Option.some.inj h
      exact hP _ Im _ TB _ (hS.C0 4 [0,1] (by decide))
theorem TD {a0:Et} {r:(List Int×Bool)} (h:Kl a0=some r) {F:List It} {H:J} (hS:az H (F)) {P:AV→J→Prop} (hP: ∀v12:AV,bA v12→ ∀H',az H' (⟨v12,1,r.1.map (AV.int .i64)⟩::F)→P (.ay [v12,.bool r.2]) H'):aq C 11 [.agg [.int .i64 a0.Next,.fz (a0.Em.map Ej),.fz (a0.Ek.map (AV.int .i64))]] H P:=by
 refine Cn gC (res:=[.tmp 2,.tmp 3]) (n:=8) rfl rfl rfl rfl fun K0 El=> ?_;simp only [W,Nat.reduceSub,Nat.reduceAdd,List.replicate];unfold Kl at h;refine B3 fun K1 Er=> ?_;refine Ck gC ?_;try simp only [W,Nat.reduceAdd]
 refine Cq hS rfl rfl rfl rfl fun Eo Ep H hS=> ?_;try simp only [W]
 refine B_ Er ?_;refine B3 fun K4 EC=> ?_;refine B3 fun K5 EZ=> ?_;refine Ck gC ?_;try simp only [W,EE,reduceIte,Nat.reduceAdd,Nat.reduceLeDiff,hS.var 0 rfl]
 refine CB h fun Fi HS h=> ?_;refine LK HS hS fun H hS=> ?_;try simp only [W]
 refine B_ EZ ?_;refine B8 ?_;simp only [W];refine Cj h (fun hc h=> ?_) (fun hc h=> ?_)
 ·refine B3 fun K7 EI=> ?_;refine Ck gC ?_;try simp only [W,Nat.reduceAdd]
  refine B_ EI ?_;refine B6 ?_;refine Ca EC ?_;refine Ci El rfl rfl ?_;try obtain rfl:=Option.some.inj h
  exact hP _ nr _ ((hS.Ap 1).C0 2 [0] (by decide))
 ·refine B5 ?_;refine B_ EC ?_;refine B3 fun K8 EK=> ?_;refine Ck gC ?_;try simp only [W,Nat.reduceAdd]
  refine CB h fun E1 Ji h=> ?_;refine Yn Ji (List.mem_of_getElem? (i:=0) rfl) hS fun v10 IS H hS=> ?_;try simp only [W]
  refine B_ EK ?_;refine B6 ?_;refine Ci El rfl rfl ?_;try obtain rfl:=Option.some.inj h
  exact hP _ IS _ (hS.C0 2 [0] (by decide))
theorem YY {a0:Et} {r:(List Int)} (h:MS a0=some r) {F:List It} {H:J} (hS:az H (F)) {P:AV→J→Prop} (hP: ∀v53:AV,bA v53→ ∀H',az H' (⟨v53,1,r.map (AV.int .i64)⟩::F)→P (v53) H'):aq C 83 [.agg [.int .i64 a0.Next,.fz (a0.Em.map Ej),.fz (a0.Ek.map (AV.int .i64))]] H P:=by
 refine Cn gC (res:=[.tmp 2]) (n:=28) rfl rfl rfl rfl fun K0 El=> ?_;simp only [W,Nat.reduceSub,Nat.reduceAdd,List.replicate];unfold MS at h;refine B3 fun K1 Er=> ?_;refine Ck gC ?_;try simp only [W,Nat.reduceAdd]
 refine Cq hS rfl rfl rfl rfl fun Eo Ep H hS=> ?_;try simp only [W]
 refine B_ Er ?_;refine B3 fun K4 EC=> ?_;refine Ck gC ?_;try simp only [W,Nat.reduceAdd]
 refine B_ EC ?_;refine B3 fun K5 EZ=> ?_;refine B3 fun K6 E6=> ?_;refine Ck gC ?_;try simp only [W,Nat.reduceAdd]
 refine B_ E6 ?_;obtain ⟨YZ,Y0,g20⟩:=Option.bind_eq_some_iff.1 h;refine CG gC (fun s H=> ∃EX:List Int,YZ=(EX)∧ ∃v12:AV,bA v12∧s=[u,u,u,v12,u,u,u,u,u,u,u,u,u,u,u,u,u,u,u,u,u,u,u,u,u,u,u,u]∧az H (⟨v12,1,EX.map (AV.int .i64)⟩::F)) (fun Gm EP=> ?_) (fun s H hq=> ?_)
 ·refine B4 fun Gc EM=> ?_;refine CC gC Y0 (fun x s H=>match x with|(EO,EB)=> ∃GS:AV,bA GS∧s=[u,.ptr Eo Ep 0 0,u,GS,.int .i64 EB,u,u,u,u,u,u,u,u,u,u,u,u,u,u,u,u,u,u,u,u,u,u,u]∧az H (⟨GS,1,EO.map (AV.int .i64)⟩::⟨.ptr Eo Ep 0 0,3,[.agg [.int .i64 a0.Next,.fz (a0.Em.map Ej),.fz (a0.Ek.map (AV.int .i64))]]⟩::F)) ⟨_,nr,rfl,(hS.Ap 1)⟩ (fun x y19 s H h Y1 hi Gd EQ=> ?_)
  obtain ⟨EO,EB⟩:=x;try dsimp only at hi
  obtain ⟨GS,JR,rfl,hS⟩:=hi;simp only [Od] at h;refine B3 fun Ik FH=> ?_;refine B3 fun JO F3=> ?_;refine Ck gC ?_;try simp only [W,EE,Nat.reduceAdd,Nat.reduceBEq,hS.var 1 rfl]
  refine B_ F3 ?_;refine B8 ?_;simp only [W];refine Cj h (fun hc h=> ?_) (fun hc h=> ?_)
  ·refine B5 ?_;refine B_ FH ?_;refine B3 fun IM FW=> ?_;obtain ⟨Y2,h,Y3⟩:=Option.bind_eq_some_iff.1 h;refine CG gC (fun s H=> ∃FN:List Int,Y2=(FN)∧ ∃v26:AV,bA v26∧s=[u,.ptr Eo Ep 0 0,u,v26,.int .i64 EB,u,u,u,u,u,u,u,u,u,u,u,u,u,u,u,u,u,u,u,u,u,u,u]∧az H (⟨v26,1,FN.map (AV.int .i64)⟩::⟨.ptr Eo Ep 0 0,3,[.agg [.int .i64 a0.Next,.fz (a0.Em.map Ej),.fz (a0.Ek.map (AV.int .i64))]]⟩::F)) (fun Kv Gz=> ?_) (fun s H hq=> ?_)
   ·refine B4 fun Hj Fu=> ?_;refine B3 fun Lq Hk=> ?_;obtain ⟨QW,h,QX⟩:=Option.bind_eq_some_iff.1 h;refine CG gC (fun s H=> ∃EY:Bool,QW=(EY)∧s=[u,.ptr Eo Ep 0 0,u,GS,.int .i64 EB,u,u,u,u,u,u,u,u,u,u,u,u,u,u,u,u,u,.bool EY,u,u,u,u,u]∧az H (⟨GS,1,EO.map (AV.int .i64)⟩::⟨.ptr Eo Ep 0 0,3,[.agg [.int .i64 a0.Next,.fz (a0.Em.map Ej),.fz (a0.Ek.map (AV.int .i64))]]⟩::F)) (fun Jd FY=> ?_) (fun s H hq=> ?_)
    ·refine B3 fun OZ Hm=> ?_;refine Ck gC ?_;try simp only [W,EE,Nat.reduceAdd,Nat.reduceBEq,hS.var 1 rfl]
     refine CB h fun Hg Jl h=> ?_;refine Ng Jl hS fun H hS=> ?_;try simp only [W]
     refine C4 h (fun hc h=> ?_) (fun hc h=> ?_)
     ·try simp only [W,EE,Nat.reduceAdd,Nat.reduceBEq,hS.var 1 rfl,hc]
      refine CB h fun Ie Q2 h=> ?_;refine Ql Q2 hS fun H hS=> ?_;try simp only [W,reduceIte]
      refine B_ Hm ?_;refine B9 ?_;exact CH FY ⟨_,(Option.some.inj h).symm,rfl,hS⟩
     ·try simp only [W,hc]
      refine B_ Hm ?_;refine B9 ?_;exact CH FY ⟨_,(Option.some.inj h).symm,rfl,hS⟩
    ·obtain ⟨EY,Es,rfl,hS⟩:=hq;obtain rfl:=Es.symm;replace h:=QX;try dsimp only at h
     refine B_ Hk ?_;obtain ⟨QR,h,Y4⟩:=Option.bind_eq_some_iff.1 h;refine CG gC (fun s H=> ∃FV:List Int,QR=(FV)∧ ∃v39:AV,bA v39∧s=[u,.ptr Eo Ep 0 0,u,v39,.int .i64 EB,u,u,u,u,u,u,u,u,u,u,u,u,u,u,u,u,u,u,u,u,u,u,u]∧az H (⟨v39,1,FV.map (AV.int .i64)⟩::⟨.ptr Eo Ep 0 0,3,[.agg [.int .i64 a0.Next,.fz (a0.Em.map Ej),.fz (a0.Ek.map (AV.int .i64))]]⟩::F)) (fun Nx G8=> ?_) (fun s H hq=> ?_)
     ·refine B3 fun Th LG=> ?_;refine B8 ?_;simp only [W];refine Cj h (fun hc h=> ?_) (fun hc h=> ?_)
      ·refine Ck gC ?_;try simp only [W,Nat.reduceAdd]
       refine CA (el:=([EB]:List Int).map (AV.int .i64)) hS rfl rfl rfl rfl rfl rfl rfl fun v45 H Q5 hS=> ?_;try simp only [W,EE]
       refine CP (l:=EO) (c:=(AV.int .i64)) 1 hS rfl JR rfl rfl rfl (hS.il 0 rfl Q5) (fun _=>rfl) rfl h fun U3 H RZ P1 hm h hS=> ?_;try simp only [W]
       refine B_ LG ?_;refine B9 ?_;exact CH G8 ⟨_,(Option.some.inj h).symm,_,P1,rfl,(hS.C0 3 [1,2] (by decide))⟩
      ·refine B5 ?_;refine B_ LG ?_;refine B9 ?_;exact CH G8 ⟨_,(Option.some.inj h).symm,_,JR,rfl,hS⟩
     ·obtain ⟨FV,Es,v39,Rh,rfl,hS⟩:=hq;obtain rfl:=Es.symm;replace h:=Y4;try dsimp only at h
      refine Cc Fu ?_;exact CH Gz ⟨_,(Option.some.inj h).symm,_,Rh,rfl,hS⟩
   ·obtain ⟨FN,Es,v26,QE,rfl,hS⟩:=hq;obtain rfl:=Es.symm;replace h:=Y3;try dsimp only at h
    refine B_ FW ?_;refine Ck gC ?_;try simp only [W,EE,Nat.reduceAdd]
    exact CD EQ h ⟨_,QE,rfl,hS⟩
  ·refine B7 ?_;refine Cb FH ?_;try obtain rfl:=Option.some.inj h
   obtain rfl:=Y1 _ rfl;have h:(some (EO):Option ((List Int)))=some (EO):=rfl;refine CE EQ ?_;refine Ce EM ?_;exact CH EP ⟨_,(Option.some.inj h).symm,_,JR,rfl,(hS.C0 2 [0] (by decide))⟩
 ·obtain ⟨EX,Es,v12,JS,rfl,hS⟩:=hq;obtain rfl:=Es.symm;replace h:=g20;try dsimp only at h
  refine B_ EZ ?_;refine B3 fun OP Jj=> ?_;refine Ck gC ?_;try simp only [W,Nat.reduceAdd]
  refine B_ Jj ?_;refine B6 ?_;refine Ch El rfl ?_;try obtain rfl:=Option.some.inj h
  exact hP _ JS _ hS
theorem Y5 {a0:Et} {r:(List Int×Bool)} (h:MT a0=some r) {F:List It} {H:J} (hS:az H (F)) {P:AV→J→Prop} (hP: ∀v12:AV,bA v12→ ∀H',az H' (⟨v12,1,r.1.map (AV.int .i64)⟩::F)→P (.ay [v12,.bool r.2]) H'):aq C 12 [.agg [.int .i64 a0.Next,.fz (a0.Em.map Ej),.fz (a0.Ek.map (AV.int .i64))]] H P:=by
 refine Cn gC (res:=[.tmp 2,.tmp 3]) (n:=9) rfl rfl rfl rfl fun K0 El=> ?_;simp only [W,Nat.reduceSub,Nat.reduceAdd,List.replicate];unfold MT at h;refine B3 fun K1 Er=> ?_;refine Ck gC ?_;try simp only [W,Nat.reduceAdd]
 refine Cq hS rfl rfl rfl rfl fun Eo Ep H hS=> ?_;try simp only [W]
 refine B_ Er ?_;refine B3 fun K4 EC=> ?_;refine B3 fun K5 EZ=> ?_;refine Ck gC ?_;try simp only [W,EE,reduceIte,Nat.reduceAdd,Nat.reduceLeDiff,hS.var 0 rfl]
 refine CB h fun Fi HS h=> ?_;refine P8 HS hS fun H hS=> ?_;try simp only [W]
 refine B_ EZ ?_;refine B8 ?_;simp only [W];refine Cj h (fun hc h=> ?_) (fun hc h=> ?_)
 ·refine B3 fun K7 EI=> ?_;refine Ck gC ?_;try simp only [W,Nat.reduceAdd]
  refine B_ EI ?_;refine B6 ?_;refine Ca EC ?_;refine Ci El rfl rfl ?_;try obtain rfl:=Option.some.inj h
  exact hP _ nr _ ((hS.Ap 1).C0 2 [0] (by decide))
 ·refine B5 ?_;refine B_ EC ?_;refine B3 fun K8 EK=> ?_;refine Ck gC ?_;try simp only [W,EE,reduceIte,Nat.reduceAdd,Nat.reduceLeDiff,hS.var 0 rfl]
  refine CB h fun E1 Ji h=> ?_;refine YY Ji hS fun v10 IS H hS=> ?_;try simp only [W]
  refine B_ EK ?_;refine B6 ?_;refine Ci El rfl rfl ?_;try obtain rfl:=Option.some.inj h
  exact hP _ IS _ (hS.C0 2 [0] (by decide))
theorem Y6 {a0:List Span} {a1:List Span} {r:(Bool)} (h:MV a0 a1=some r) {F:List It} {H:J} (hS:az H (F)) {P:AV→J→Prop} (hP: ∀H',az H' (F)→P (.bool r) H'):aq C 84 [.fz (a0.map Ej),.fz (a1.map Ej)] H P:=by
 refine Cn gC (res:=[.tmp 4]) (n:=26) rfl rfl rfl rfl fun K0 El=> ?_;simp only [W,Nat.reduceSub,Nat.reduceAdd,List.replicate];unfold MV at h;refine B3 fun K1 Er=> ?_;refine Ck gC ?_;try simp only [W,Nat.reduceAdd]
 refine B_ Er ?_;refine B3 fun K2 zU=> ?_;refine B3 fun K3 EJ=> ?_;refine Ck gC ?_;try simp only [W,EE,Nat.reduceAdd]
 refine B_ EJ ?_;refine B8 ?_;simp only [W];refine Cj h (fun hc h=> ?_) (fun hc h=> ?_)
 ·refine B3 fun K4 EC=> ?_;refine Ck gC ?_;try simp only [W,Nat.reduceAdd]
  refine B_ EC ?_;refine B6 ?_;refine Ca zU ?_;refine Ch El rfl ?_;try obtain rfl:=Option.some.inj h
  exact hP _ hS
 ·refine B5 ?_;refine B_ zU ?_;refine B3 fun K5 EZ=> ?_;refine B3 fun K6 E6=> ?_;refine Ck gC ?_;try simp only [W,EE,Nat.reduceAdd]
  refine B_ E6 ?_;obtain ⟨Jo,Jp,g15⟩:=Option.bind_eq_some_iff.1 h;refine CG gC (fun s H=>Jo=LR.next ()∧s=[u,u,u,u,u,u,u,u,u,u,u,u,u,u,u,u,u,u,u,u,u,u,u,u,u,u]∧az H (F)) (fun JN FX=> ?_) (fun s H hq=> ?_)
  ·refine B4 fun Ii Fy=> ?_;refine CC gC Jp (fun x s H=>s=[.fz (a0.map Ej),.fz (a1.map Ej),u,u,u,u,u,u,u,u,u,u,.int .i64 (a0.length:Int),.int .i64 x,u,u,u,u,u,u,u,u,u,u,u,u]∧az H (F)) ⟨rfl,hS⟩ (fun EO IN s H h HX hi Ij Fs=> ?_)
   skip
   try dsimp only at hi
   obtain ⟨rfl,hS⟩:=hi;simp only [MU] at h;refine B3 fun Gc EM=> ?_;refine Ck gC ?_;try simp only [W,EE,Nat.reduceAdd]
   refine B_ EM ?_;refine B3 fun Gd EQ=> ?_;refine B8 ?_;simp only [W];refine Cj h (fun hc h=> ?_) (fun hc h=> ?_)
   ·refine B5 ?_;refine B_ EQ ?_;refine B3 fun GR Fa=> ?_;refine B4 fun GI E9=> ?_;refine B3 fun HB Fv=> ?_;refine Ck gC ?_;try simp only [W,Nat.reduceAdd]
    refine B_ Fv ?_;refine B3 fun Ik FH=> ?_;refine Cm gC (by kernel_rfl) ?_
    try simp only [W,EE,Nat.reduceAdd]
    refine Cu rfl rfl rfl (fun _=>rfl) h fun GQ Y7 h=> ?_;try simp only [W,EE,EN,reduceIte,Nat.reduceAdd,Nat.reduceLeDiff]
    refine Cu rfl rfl rfl (fun _=>rfl) h fun JJ QV h=> ?_;try simp only [W,EE,EN,reduceIte,Nat.reduceAdd,Nat.reduceLeDiff]
    refine B_ FH ?_;refine B8 ?_;simp only [W];refine Cj h (fun hc h=> ?_) (fun hc h=> ?_)
    ·refine B3 fun Hj Fu=> ?_;refine Ck gC ?_;try simp only [W,Nat.reduceAdd]
     refine B_ Fu ?_;refine B6 ?_;refine Cf E9 ?_;refine Ca Fa ?_;try obtain rfl:=Option.some.inj h
     obtain rfl:=HX _ rfl;have h:(some (LR.done false):Option (LR Unit (Bool)))=some (LR.done false):=rfl;refine CF Fs ?_;refine Cf Fy ?_;try obtain rfl:=Option.some.inj h
     obtain rfl:=Option.some.inj g15;have h:(some false:Option (Bool))=some false:=rfl;refine CI FX ?_;refine Ca EZ ?_;refine Ch El rfl ?_;try obtain rfl:=Option.some.inj h
     exact hP _ hS
    ·refine B5 ?_;refine Cd E9 ?_;refine B_ Fa ?_;refine Ck gC ?_;try simp only [W,EE,Nat.reduceAdd]
     exact CD Fs h ⟨rfl,hS⟩
   ·refine B7 ?_;refine Cb EQ ?_;try obtain rfl:=Option.some.inj h
    obtain rfl:=HX _ rfl;have h:(some (LR.next ()):Option (LR Unit (Bool)))=some (LR.next ()):=rfl
    refine CE Fs ?_;refine Ce Fy ?_;exact CH FX ⟨(Option.some.inj h).symm,rfl,hS⟩
  ·obtain ⟨rfl,rfl,hS⟩:=hq;replace h:=g15;try dsimp only at h
   refine B_ EZ ?_;refine B3 fun Kx G5=> ?_;refine Ck gC ?_;try simp only [W,Nat.reduceAdd]
   refine B_ G5 ?_;refine B6 ?_;refine Ch El rfl ?_;try obtain rfl:=Option.some.inj h
   exact hP _ hS
theorem O_ {a0:List Int} {a1:List Int} {r:(Bool)} (h:JK a0 a1=some r) {F:List It} {H:J} (hS:az H (F)) {P:AV→J→Prop} (hP: ∀H',az H' (F)→P (.bool r) H'):aq C 14 [.fz (a0.map (AV.int .i64)),.fz (a1.map (AV.int .i64))] H P:=by
 refine Cn gC (res:=[.tmp 4]) (n:=26) rfl rfl rfl rfl fun K0 El=> ?_;simp only [W,Nat.reduceSub,Nat.reduceAdd,List.replicate];unfold JK at h;refine B3 fun K1 Er=> ?_;refine Ck gC ?_;try simp only [W,Nat.reduceAdd]
 refine B_ Er ?_;refine B3 fun K2 zU=> ?_;refine B3 fun K3 EJ=> ?_;refine Ck gC ?_;try simp only [W,EE,Nat.reduceAdd]
 refine B_ EJ ?_;refine B8 ?_;simp only [W];refine Cj h (fun hc h=> ?_) (fun hc h=> ?_)
 ·refine B3 fun K4 EC=> ?_;refine Ck gC ?_;try simp only [W,Nat.reduceAdd]
  refine B_ EC ?_;refine B6 ?_;refine Ca zU ?_;refine Ch El rfl ?_;try obtain rfl:=Option.some.inj h
  exact hP _ hS
 ·refine B5 ?_;refine B_ zU ?_;refine B3 fun K5 EZ=> ?_;refine B3 fun K6 E6=> ?_;refine Ck gC ?_;try simp only [W,EE,Nat.reduceAdd]
  refine B_ E6 ?_;obtain ⟨Jo,Jp,g15⟩:=Option.bind_eq_some_iff.1 h;refine CG gC (fun s H=>Jo=LR.next ()∧s=[u,u,u,u,u,u,u,u,u,u,u,u,u,u,u,u,u,u,u,u,u,u,u,u,u,u]∧az H (F)) (fun JN FX=> ?_) (fun s H hq=> ?_)
  ·refine B4 fun Ii Fy=> ?_;refine CC gC Jp (fun x s H=>s=[.fz (a0.map (AV.int .i64)),.fz (a1.map (AV.int .i64)),u,u,u,u,u,u,u,u,u,u,.int .i64 (a0.length:Int),.int .i64 x,u,u,u,u,u,u,u,u,u,u,u,u]∧az H (F)) ⟨rfl,hS⟩ (fun EO IN s H h HX hi Ij Fs=> ?_)
   skip
   try dsimp only at hi
   obtain ⟨rfl,hS⟩:=hi;simp only [MW] at h;refine B3 fun Gc EM=> ?_;refine Ck gC ?_;try simp only [W,EE,Nat.reduceAdd]
   refine B_ EM ?_;refine B3 fun Gd EQ=> ?_;refine B8 ?_;simp only [W];refine Cj h (fun hc h=> ?_) (fun hc h=> ?_)
   ·refine B5 ?_;refine B_ EQ ?_;refine B3 fun GR Fa=> ?_;refine B4 fun GI E9=> ?_;refine B3 fun HB Fv=> ?_;refine Ck gC ?_;try simp only [W,Nat.reduceAdd]
    refine B_ Fv ?_;refine B3 fun Ik FH=> ?_;refine Cm gC (by kernel_rfl) ?_
    try simp only [W,EE,Nat.reduceAdd]
    refine Cu rfl rfl rfl (fun _=>rfl) h fun GQ Y7 h=> ?_;try simp only [W,EE]
    refine Cu rfl rfl rfl (fun _=>rfl) h fun JJ QV h=> ?_;try simp only [W,EE]
    refine B_ FH ?_;refine B8 ?_;simp only [W];refine Cj h (fun hc h=> ?_) (fun hc h=> ?_)
    ·refine B3 fun Hj Fu=> ?_;refine Ck gC ?_;try simp only [W,Nat.reduceAdd]
     refine B_ Fu ?_;refine B6 ?_;refine Cf E9 ?_;refine Ca Fa ?_;try obtain rfl:=Option.some.inj h
     obtain rfl:=HX _ rfl;have h:(some (LR.done false):Option (LR Unit (Bool)))=some (LR.done false):=rfl;refine CF Fs ?_;refine Cf Fy ?_;try obtain rfl:=Option.some.inj h
     obtain rfl:=Option.some.inj g15;have h:(some false:Option (Bool))=some false:=rfl;refine CI FX ?_;refine Ca EZ ?_;refine Ch El rfl ?_;try obtain rfl:=Option.some.inj h
     exact hP _ hS
    ·refine B5 ?_;refine Cd E9 ?_;refine B_ Fa ?_;refine Ck gC ?_;try simp only [W,EE,Nat.reduceAdd]
     exact CD Fs h ⟨rfl,hS⟩
   ·refine B7 ?_;refine Cb EQ ?_;try obtain rfl:=Option.some.inj h
    obtain rfl:=HX _ rfl;have h:(some (LR.next ()):Option (LR Unit (Bool)))=some (LR.next ()):=rfl
    refine CE Fs ?_;refine Ce Fy ?_;exact CH FX ⟨(Option.some.inj h).symm,rfl,hS⟩
  ·obtain ⟨rfl,rfl,hS⟩:=hq;replace h:=g15;try dsimp only at h
   refine B_ EZ ?_;refine B3 fun Kx G5=> ?_;refine Ck gC ?_;try simp only [W,Nat.reduceAdd]
   refine B_ G5 ?_;refine B6 ?_;refine Ch El rfl ?_;try obtain rfl:=Option.some.inj h
   exact hP _ hS
theorem Pa {a0:Et} {a1:Et} {r:(Bool)} (h:If a0 a1=some r) {F:List It} {H:J} (hS:az H (F)) {P:AV→J→Prop} (hP: ∀H',az H' (F)→P (.bool r) H'):aq C 13 [.agg [.int .i64 a0.Next,.fz (a0.Em.map Ej),.fz (a0.Ek.map (AV.int .i64))],.agg [.int .i64 a1.Next,.fz (a1.Em.map Ej),.fz (a1.Ek.map (AV.int .i64))]] H P:=by
 refine Cn gC (res:=[.tmp 4]) (n:=24) rfl rfl rfl rfl fun K0 El=> ?_;simp only [W,Nat.reduceSub,Nat.reduceAdd,List.replicate];unfold If at h;refine B3 fun K1 Er=> ?_;refine Ck gC ?_;try simp only [W,Nat.reduceAdd]
 refine Cq hS rfl rfl rfl rfl fun Eo Ep H hS=> ?_;try simp only [W]
 refine Cq hS rfl rfl rfl rfl fun Eu Ev H hS=> ?_;try simp only [W]
 refine B_ Er ?_;refine B3 fun K6 E6=> ?_;refine Ck gC ?_;try simp only [W,EE,Nat.reduceAdd,Nat.reduceBEq,hS.var 1 rfl,hS.var 0 rfl]
 refine C4 h (fun hc h=> ?_) (fun hc h=> ?_)
 ·try simp only [W,EE,Nat.reduceAdd,Nat.reduceBEq,hS.var 1 rfl,hS.var 0 rfl,hc]
  refine CB h fun EA Kz h=> ?_;refine Y6 Kz hS fun H hS=> ?_;try simp only [W,reduceIte]
  refine C4 h (fun hc h=> ?_) (fun hc h=> ?_)
  ·try simp only [W,EE,Nat.reduceAdd,Nat.reduceBEq,hS.var 1 rfl,hS.var 0 rfl,hc]
   refine CB h fun Fo KG h=> ?_;refine O_ KG hS fun H hS=> ?_;try simp only [W,reduceIte]
   refine B_ E6 ?_;refine B6 ?_;refine Ch El rfl ?_;try obtain rfl:=Option.some.inj h
   exact hP _ (hS.C0 2 [] (by decide))
  ·try simp only [W,hc]
   refine B_ E6 ?_;refine B6 ?_;refine Ch El rfl ?_;try obtain rfl:=Option.some.inj h
   exact hP _ (hS.C0 2 [] (by decide))
 ·try simp only [W,hc]
  refine B_ E6 ?_;refine B6 ?_;refine Ch El rfl ?_;try obtain rfl:=Option.some.inj h
  exact hP _ (hS.C0 2 [] (by decide))
theorem Y8 {a0:List Span} {r:(Int)} (h:MY a0=some r) {F:List It} {H:J} (hS:az H (F)) {P:AV→J→Prop} (hP: ∀H',az H' (F)→P (.int .i64 r) H'):aq C 87 [.fz (a0.map Ej)] H P:=by
 refine Cn gC (res:=[.tmp 2]) (n:=21) rfl rfl rfl rfl fun K0 El=> ?_;simp only [W,Nat.reduceSub,Nat.reduceAdd,List.replicate];unfold MY at h;refine B3 fun K1 Er=> ?_;refine Ck gC ?_;try simp only [W,Nat.reduceAdd]
 refine B_ Er ?_;refine B3 fun K2 zU=> ?_;refine Ck gC ?_;try simp only [W,Nat.reduceAdd]
 refine B_ zU ?_;refine B3 fun K3 EJ=> ?_;refine B3 fun K4 EC=> ?_;refine Ck gC ?_;try simp only [W,EE,Nat.reduceAdd]
 refine B_ EC ?_;obtain ⟨Jo,Jp,g15⟩:=Option.bind_eq_some_iff.1 h;refine CG gC (fun s H=> ∃EO:Int,Jo=(EO)∧s=[u,u,u,.int .i64 EO,u,u,u,u,u,u,u,u,u,u,u,u,u,u,u,u,u]∧az H (F)) (fun JN FX=> ?_) (fun s H hq=> ?_)
 ·refine B4 fun Ii Fy=> ?_;refine CC gC Jp (fun x s H=>match x with|(EF,FJ)=>s=[u,u,u,.int .i64 EF,u,u,.fz (a0.map Ej),.int .i64 (a0.length:Int),.int .i64 FJ,u,u,u,u,u,u,u,u,u,u,u,u]∧az H (F)) ⟨rfl,hS⟩ (fun x IN s H h HX hi Ij Fs=> ?_)
  obtain ⟨EF,FJ⟩:=x;try dsimp only at hi
  obtain ⟨rfl,hS⟩:=hi;simp only [MX] at h;refine B3 fun Gc EM=> ?_;refine Ck gC ?_;try simp only [W,EE,Nat.reduceAdd]
  refine B_ EM ?_;refine B3 fun Gd EQ=> ?_;refine B8 ?_;simp only [W];refine Cj h (fun hc h=> ?_) (fun hc h=> ?_)
  ·refine B5 ?_;refine B_ EQ ?_;refine B3 fun GR Fa=> ?_;refine B4 fun GI E9=> ?_;refine B3 fun HB Fv=> ?_;refine Ck gC ?_;try simp only [W,EE,Nat.reduceAdd]
   refine Cu rfl rfl rfl (fun _=>rfl) h fun ET XD h=> ?_;try simp only [W,EE,EN,reduceIte,Nat.reduceAdd,Nat.reduceLeDiff]
   refine Cr hS rfl rfl fun XE XF H hS=> ?_;try simp only [W]
   refine Cs (a:= .agg [.int .i64 ET.En,.int .i64 ET.To]) (y' := .agg [.int .i64 ET.En,.int .i64 ET.To]) 0 hS rfl rfl rfl rfl rfl rfl rfl rfl fun H hS=> ?_
   try simp only [W]
   refine B_ Fv ?_;refine Ck gC ?_;try simp only [W,EE,Nat.reduceAdd,Nat.reduceBEq,hS.var 0 rfl]
   refine Cd E9 ?_;refine B_ Fa ?_;refine Ck gC ?_;try simp only [W,EE,Nat.reduceAdd]
   exact CD Fs h ⟨rfl,(hS.C0 1 [] (by decide))⟩
  ·refine B7 ?_;refine Cb EQ ?_;try obtain rfl:=Option.some.inj h
   obtain rfl:=HX _ rfl;have h:(some (EF):Option (Int))=some (EF):=rfl;refine CE Fs ?_;refine Ce Fy ?_;exact CH FX ⟨_,(Option.some.inj h).symm,rfl,hS⟩
 ·obtain ⟨EO,Es,rfl,hS⟩:=hq;obtain rfl:=Es.symm;replace h:=g15;try dsimp only at h
  refine B_ EJ ?_;refine B3 fun HT FA=> ?_;refine Ck gC ?_;try simp only [W,Nat.reduceAdd]
  refine B_ FA ?_;refine B6 ?_;refine Ch El rfl ?_;try obtain rfl:=Option.some.inj h
  exact hP _ hS
theorem TE {a0:List Span} {r:(Int×Bool)} (h:JL a0=some r) {F:List It} {H:J} (hS:az H (F)) {P:AV→J→Prop} (hP: ∀H',az H' (F)→P (.ay [.int .i64 r.1,.bool r.2]) H'):aq C 16 [.fz (a0.map Ej)] H P:=by
 refine Cn gC (res:=[.tmp 2,.tmp 3]) (n:=9) rfl rfl rfl rfl fun K0 El=> ?_;simp only [W,Nat.reduceSub,Nat.reduceAdd,List.replicate];unfold JL at h;refine B3 fun K1 Er=> ?_;refine Ck gC ?_;try simp only [W,Nat.reduceAdd]
 refine B_ Er ?_;refine B3 fun K2 zU=> ?_;refine B3 fun K3 EJ=> ?_;refine Ck gC ?_;try simp only [W,Nat.reduceAdd]
 refine CB h fun F7 Kw h=> ?_;refine O1 Kw hS fun H hS=> ?_;try simp only [W]
 refine B_ EJ ?_;refine B8 ?_;simp only [W];refine Cj h (fun hc h=> ?_) (fun hc h=> ?_)
 ·refine B3 fun K5 EZ=> ?_;refine Ck gC ?_;try simp only [W,Nat.reduceAdd]
  refine B_ EZ ?_;refine B6 ?_;refine Ca zU ?_;refine Ci El rfl rfl ?_;try obtain rfl:=Option.some.inj h
  exact hP _ hS
 ·refine B5 ?_;refine B_ zU ?_;refine B3 fun K6 E6=> ?_;refine Ck gC ?_;try simp only [W,Nat.reduceAdd]
  refine CB h fun EA Kz h=> ?_;refine Y8 Kz hS fun H hS=> ?_;try simp only [W]
  refine B_ E6 ?_;refine B6 ?_;refine Ci El rfl rfl ?_;try obtain rfl:=Option.some.inj h
  exact hP _ hS
theorem Y9 {a0:List Int} {a1:Int} {r:(Bool)} (h:MZ a0 a1=some r) {F:List It} {H:J} (hS:az H (F)) {P:AV→J→Prop} (hP: ∀H',az H' (F)→P (.bool r) H'):aq C 17 [.fz (a0.map (AV.int .i64)),.int .i64 a1] H P:=by
 refine Cn gC (res:=[.tmp 4]) (n:=17) rfl rfl rfl rfl fun K0 El=> ?_;simp only [W,Nat.reduceSub,Nat.reduceAdd,List.replicate];unfold MZ at h;refine B3 fun K1 Er=> ?_;refine Ck gC ?_;try simp only [W,Nat.reduceAdd]
 refine B_ Er ?_;refine B3 fun K2 zU=> ?_;refine B3 fun K3 EJ=> ?_;refine Ck gC ?_;try simp only [W,EE,Nat.reduceAdd]
 refine B_ EJ ?_;obtain ⟨Gp,GJ,g12⟩:=Option.bind_eq_some_iff.1 h;refine CG gC (fun s H=>Gp=LR.next ()∧s=[u,u,u,u,u,u,u,u,u,u,u,u,u,u,u,u,u]∧az H (F)) (fun K7 EI=> ?_) (fun s H hq=> ?_)
 ·refine B4 fun K8 EK=> ?_;refine CC gC GJ (fun x s H=>s=[u,.int .i64 a1,u,u,u,u,u,.fz (a0.map (AV.int .i64)),.int .i64 (a0.length:Int),.int .i64 x,u,u,u,u,u,u,u]∧az H (F)) ⟨rfl,hS⟩ (fun Ey HV s H h FP hi K9 EL=> ?_)
  skip
  try dsimp only at hi
  obtain ⟨rfl,hS⟩:=hi;simp only [Oe] at h;refine B3 fun Hi Fz=> ?_;refine Ck gC ?_;try simp only [W,EE,Nat.reduceAdd]
  refine B_ Fz ?_;refine B3 fun G4 E8=> ?_;refine B8 ?_;simp only [W];refine Cj h (fun hc h=> ?_) (fun hc h=> ?_)
  ·refine B5 ?_;refine B_ E8 ?_;refine B3 fun Gm EP=> ?_;refine B4 fun Gc EM=> ?_;refine B3 fun Gd EQ=> ?_;refine Ck gC ?_;try simp only [W,EE,Nat.reduceAdd]
   refine Cu rfl rfl rfl (fun _=>rfl) h fun Ez Ku h=> ?_;try simp only [W,EE]
   refine B_ EQ ?_;refine B3 fun GI E9=> ?_;refine Ck gC ?_;try simp only [W,EE,Nat.reduceAdd]
   refine B_ E9 ?_;refine B8 ?_;simp only [W];refine Cj h (fun hc h=> ?_) (fun hc h=> ?_)
   ·refine B3 fun HB Fv=> ?_;refine Ck gC ?_;try simp only [W,Nat.reduceAdd]
    refine B_ Fv ?_;refine B6 ?_;refine Cf EM ?_;refine Ca EP ?_;try obtain rfl:=Option.some.inj h
    obtain rfl:=FP _ rfl;have h:(some (LR.done true):Option (LR Unit (Bool)))=some (LR.done true):=rfl;refine CF EL ?_;refine Cf EK ?_;try obtain rfl:=Option.some.inj h
    obtain rfl:=Option.some.inj g12;have h:(some true:Option (Bool))=some true:=rfl;refine CI EI ?_;refine Ca zU ?_;refine Ch El rfl ?_;try obtain rfl:=Option.some.inj h
    exact hP _ hS
   ·refine B5 ?_;refine Cd EM ?_;refine B_ EP ?_;refine Ck gC ?_;try simp only [W,EE,Nat.reduceAdd]
    exact CD EL h ⟨rfl,hS⟩
  ·refine B7 ?_;refine Cb E8 ?_;try obtain rfl:=Option.some.inj h
   obtain rfl:=FP _ rfl;have h:(some (LR.next ()):Option (LR Unit (Bool)))=some (LR.next ()):=rfl
   refine CE EL ?_;refine Ce EK ?_;exact CH EI ⟨(Option.some.inj h).symm,rfl,hS⟩
 ·obtain ⟨rfl,rfl,hS⟩:=hq;replace h:=g12;try dsimp only at h
  refine B_ zU ?_;refine B3 fun Gn E2=> ?_;refine Ck gC ?_;try simp only [W,Nat.reduceAdd]
  refine B_ E2 ?_;refine B6 ?_;refine Ch El rfl ?_;try obtain rfl:=Option.some.inj h
  exact hP _ hS
theorem Y_ {a0:List Int} {r:(Et)} (h:M0 a0=some r) {F:List It} {H:J} (hS:az H (F)) {P:AV→J→Prop} (hP: ∀v28:AV,bA v28→ ∀v30:AV,bA v30→ ∀H',az H' (⟨v28,2,r.Em.map Ej⟩::⟨v30,1,r.Ek.map (AV.int .i64)⟩::F)→P (.agg [.int .i64 r.Next,v28,v30]) H'):aq C 18 [.fz (a0.map (AV.int .u8))] H P:=by
 refine Cn gC (res:=[.cell 2 26]) (n:=14) rfl rfl rfl rfl fun K0 El=> ?_;simp only [W,Nat.reduceSub,Nat.reduceAdd,List.replicate];unfold M0 at h;refine B3 fun K1 Er=> ?_;refine Ck gC ?_;try simp only [W,Nat.reduceAdd]
 refine Cr hS rfl rfl fun Eo Ep H hS=> ?_;try simp only [W]
 refine B_ Er ?_;refine B3 fun K4 EC=> ?_;refine Ck gC ?_;try simp only [W,EE,Nat.reduceAdd]
 refine C5 rfl rfl rfl rfl rfl ?_;try simp only [W]
 refine Cq hS rfl rfl rfl rfl fun Ny Nz H hS=> ?_;try simp only [W]
 refine B_ EC ?_;refine B3 fun K7 EI=> ?_;refine Ck gC ?_;try simp only [W,Nat.reduceAdd]
 refine CB h fun Fo KG h=> ?_;obtain ⟨E1,FI⟩:=Fo;try dsimp only at h
 refine Tb KG hS fun v11 Gj E7 FT H hS=> ?_;try simp only [W]
 refine Cr hS rfl rfl fun Jm Jn H hS=> ?_;try simp only [W]
 refine Cs (a:= .agg [.int .i64 E1.Next,v11,E7]) (y' := .agg [.int .i64 E1.Next,v11,E7]) 0 hS rfl rfl rfl rfl rfl (by simp only [dD,List.all_cons,List.all_nil,Gj.qu,FT.qu];rfl) rfl rfl fun H hS=> ?_
 try simp only [W]
 refine B_ EI ?_;refine B3 fun Gd EQ=> ?_;refine B3 fun GR Fa=> ?_;refine Ck gC ?_;try simp only [W,Nat.reduceAdd]
 refine CB h fun FE Ll h=> ?_;obtain ⟨EW,ET⟩:=FE;try dsimp only at h
 refine Jb Ll (hS.C0 5 [3,0,1,2,4] (by decide)) fun H hS=> ?_
 try simp only [W]
 refine B_ Fa ?_;obtain ⟨Kr,h,g24⟩:=Option.bind_eq_some_iff.1 h;refine CG gC (fun s H=> ∃Gk:Int,Kr=(Gk)∧s=[u,u,.ptr Eo Ep 0 0,u,.ptr Jm Jn 0 0,u,u,u,u,u,u,u,u,u]∧az H (⟨v11,2,E1.Em.map Ej⟩::⟨E7,1,E1.Ek.map (AV.int .i64)⟩::⟨.ptr Eo Ep 0 0,3,[.agg [.int .i64 0,.nil,.nil]]⟩::⟨.ptr Jm Jn 0 0,3,[.agg [.int .i64 Gk,v11,E7]]⟩::F)) (fun Jc FO=> ?_) (fun s H hq=> ?_)
 ·refine B3 fun HT FA=> ?_;refine B8 ?_;simp only [W];refine Cj h (fun hc h=> ?_) (fun hc h=> ?_)
  ·refine Ck gC ?_;try simp only [W,EE,Nat.reduceAdd,Nat.reduceBEq,hS.var 1 rfl]
   refine Cs (a:= .int .i64 60) (y' := .agg [.int .i64 60,v11,E7]) 1 hS rfl rfl rfl rfl rfl rfl rfl rfl fun H hS=> ?_
   try simp only [W]
   refine B_ FA ?_;refine B9 ?_;exact CH FO ⟨_,(Option.some.inj h).symm,rfl,(hS.C0 5 [2,3,4,1] (by decide))⟩
  ·refine B5 ?_;refine B_ FA ?_;refine B9 ?_;exact CH FO ⟨_,(Option.some.inj h).symm,rfl,(hS.C0 5 [2,3,4,1] (by decide))⟩
 ·obtain ⟨Gk,Es,rfl,hS⟩:=hq;obtain rfl:=Es.symm;replace h:=g24;try dsimp only at h
  refine B_ EQ ?_;refine B3 fun Gn E2=> ?_;refine Ck gC ?_;try simp only [W,EE,reduceIte,Nat.reduceAdd,Nat.reduceLeDiff,hS.var 3 rfl]
  refine Cs (a:= .agg [.int .i64 Gk,v11,E7]) (y' := .agg [.int .i64 Gk,v11,E7]) 2 hS rfl rfl rfl rfl rfl (by simp only [dD,List.all_cons,List.all_nil,Gj.qu,FT.qu];rfl) rfl rfl fun H hS=> ?_
  try simp only [W]
  refine B_ E2 ?_;refine B6 ?_;refine Cg El (C2 rfl rfl (hS.var 2 rfl) rfl rfl) ?_;try obtain rfl:=Option.some.inj h
  exact hP _ Gj _ FT _ (hS.C0 4 [0,1] (by decide))
theorem Za {a0:Et} {r:(Et×Int×Bool)} (h:M1 a0=some r) {F:List It} {H:J} (hS:az H (F)) {P:AV→J→Prop} (hP: ∀v24:AV,bA v24→ ∀v26:AV,bA v26→ ∀H',az H' (⟨v24,2,r.1.Em.map Ej⟩::⟨v26,1,r.1.Ek.map (AV.int .i64)⟩::F)→P (.ay [.agg [.int .i64 r.1.Next,v24,v26],.int .i64 r.2.1,.bool r.2.2]) H'):aq C 19 [.agg [.int .i64 a0.Next,.fz (a0.Em.map Ej),.fz (a0.Ek.map (AV.int .i64))]] H P:=by
 refine Cn gC (res:=[.cell 2 26,.tmp 3,.tmp 4]) (n:=26) rfl rfl rfl rfl fun K0 El=> ?_;simp only [W,Nat.reduceSub,Nat.reduceAdd,List.replicate];unfold M1 at h;refine B3 fun K1 Er=> ?_;refine Ck gC ?_;try simp only [W,Nat.reduceAdd]
 refine Cq hS rfl rfl rfl rfl fun Eo Ep H hS=> ?_;try simp only [W]
 refine Cr hS rfl rfl fun Eu Ev H hS=> ?_;try simp only [W]
 refine B_ Er ?_;refine B3 fun K6 E6=> ?_;refine B3 fun K7 EI=> ?_;obtain ⟨KD,h,g10⟩:=Option.bind_eq_some_iff.1 h;refine CG gC (fun s H=> ∃EH:Bool,KD=(EH)∧s=[u,.ptr Eo Ep 0 0,.ptr Eu Ev 0 0,u,u,u,u,u,u,u,u,u,.bool EH,u,u,u,u,u,u,u,u,u,u,u,u,u]∧az H (⟨.ptr Eo Ep 0 0,3,[.agg [.int .i64 a0.Next,.fz (a0.Em.map Ej),.fz (a0.Ek.map (AV.int .i64))]]⟩::⟨.ptr Eu Ev 0 0,3,[.agg [.int .i64 0,.nil,.nil]]⟩::F)) (fun Ii Fy=> ?_) (fun s H hq=> ?_)
 ·refine B3 fun Ij Fs=> ?_;refine Ck gC ?_;try simp only [W,EE,reduceIte,Nat.reduceAdd,Nat.reduceLeDiff,hS.var 1 rfl]
  refine CB h fun Hd Je h=> ?_;refine LK Je hS fun H hS=> ?_;try simp only [W]
  refine C4 h (fun hc h=> ?_) (fun hc h=> ?_)
  ·try simp only [W,hc]
   refine B_ Fs ?_;refine B9 ?_;exact CH Fy ⟨_,(Option.some.inj h).symm,rfl,(hS.C0 2 [1,0] (by decide))⟩
  ·try simp only [W,EE,reduceIte,Nat.reduceAdd,Nat.reduceBEq,Bool.false_eq_true,hS.var 1 rfl,hc]
   refine B_ Fs ?_;refine B9 ?_;exact CH Fy ⟨_,(Option.some.inj h).symm,rfl,(hS.C0 2 [1,0] (by decide))⟩
 ·obtain ⟨EH,Es,rfl,hS⟩:=hq;obtain rfl:=Es.symm;replace h:=g10;try dsimp only at h
  refine B_ EI ?_;refine B8 ?_;simp only [W];refine Cj h (fun hc h=> ?_) (fun hc h=> ?_)
  ·refine B3 fun G4 E8=> ?_;refine Ck gC ?_;try simp only [W,EE,Nat.reduceAdd]
   refine C5 rfl rfl rfl rfl rfl ?_;try simp only [W]
   refine Cs (a:= .agg [.int .i64 0,.nil,.nil]) (y' := .agg [.int .i64 0,.nil,.nil]) 1 hS rfl rfl rfl rfl rfl rfl rfl rfl fun H hS=> ?_
   try simp only [W]
   refine B_ E8 ?_;refine B6 ?_;refine Ca E6 ?_;refine Cg El (C2 rfl rfl (hS.var 1 rfl) rfl (C3 rfl (C3 rfl rfl))) ?_;try obtain rfl:=Option.some.inj h
   exact hP _ nr _ nr _ (((hS.Ap 1).Ap 2).C0 4 [0,1] (by decide))
  ·refine B5 ?_;refine B_ E6 ?_;refine B3 fun Gm EP=> ?_;refine C6 gC [(12,[10,11])] (by kernel_rfl) rfl (by kernel_rfl) ?_
   try simp only [W,EE,reduceIte,Nat.reduceAdd,Nat.reduceBEq,hS.var 0 rfl,iV,lG,Nat.reduceEqDiff,List.contains_cons,Nat.reduceBEq,Bool.or_true,Bool.or_self]
   refine Du (bP:=[[.sl [.sc,.sc]]]) (ys:=[.fz (a0.Em.map Ej)]) h rfl (by rfl) fun Gb KI h=>⟨.own 2 (Gb.map Ej),Tp KI (az.nil _) fun v17 Jr H hS=>Dl rfl (Dj 0 hS rfl Jr (fun _ _=>by simp [aY,aN,ck,dp,Ej]) fun H hS=>Dh rfl),(Dw _ (fun _=>rfl) _),?_⟩
   refine Dr ?_;refine Dp hS (fun _ _=>rfl) (fun _=>rfl) fun Fe H F4 hS=> ?_;refine Dm ?_;try simp only [List.headD_cons]
   try simp only [W,EE,Nat.reduceAdd,Nat.reduceBEq,hS.var 1 rfl,Nat.reduceBEq]
   refine Du (bP:=[[.sl [.sc]]]) (ys:=[.fz (a0.Ek.map (AV.int .i64))]) h rfl (by rfl) fun EW Ip h=>⟨.own 1 (EW.map (AV.int .i64)),Tv Ip (az.nil _) fun v21 JY H hS=>Dl rfl (Dj 0 hS rfl JY (fun _ _=>by simp [aY,aN,dp]) fun H hS=>Dh rfl),(Dw _ (fun _=>rfl) _),?_⟩
   refine Dr ?_;refine Dp hS (fun _ _=>rfl) (fun _=>rfl) fun v23 H Hl hS=> ?_;refine Dm ?_;try simp only [List.headD_cons]
   try simp only [W,EE]
   refine C5 rfl rfl rfl rfl (by simp only [fD,F4.Cx,F4.cells,Hl.Cx,Hl.cells];simp [E,splice,AV.cells,dD,cM]<;>rfl) ?_
   try simp only [W,EE,Nat.reduceAdd,Nat.reduceBEq,hS.var 2 rfl,Nat.reduceBEq]
   refine Cs (a:= .agg [.int .i64 (IntKind.i64.wrap (a0.Next+1)),Fe,v23]) (y' := .agg [.int .i64 (IntKind.i64.wrap (a0.Next+1)),Fe,v23]) 3 hS rfl rfl rfl rfl rfl (by simp only [dD,List.all_cons,List.all_nil,F4.qu,Hl.qu];rfl) rfl rfl fun H hS=> ?_
   refine C7 ?_;refine C8 (by first|rfl|(simp [gR,aP,W,EE,hS.var 2 rfl];done)|exact DE 0 hS rfl Hl rfl rfl rfl rfl rfl|exact DE 1 hS rfl F4 rfl rfl rfl rfl rfl) ?_
   refine C8 (by first|rfl|(simp [gR,aP,W,EE,bT,jG,aD,AV.cells,hS.var 2 rfl];done)|exact DE 0 hS rfl Hl rfl rfl rfl rfl rfl|exact DE 1 hS rfl F4 rfl rfl rfl rfl rfl) ?_
   refine C9 ?_;try simp only [W]
   refine B_ EP ?_;refine B6 ?_;refine Cg El (C2 rfl rfl (hS.var 3 rfl) rfl (C3 rfl (C3 rfl rfl))) ?_;try obtain rfl:=Option.some.inj h
   exact hP _ F4 _ Hl _ (hS.C0 4 [1,0] (by decide))
theorem Zb {a0:Et} {r:(Et×Int×Bool)} (h:M2 a0=some r) {F:List It} {H:J} (hS:az H (F)) {P:AV→J→Prop} (hP: ∀v25:AV,bA v25→ ∀Ri:AV,bA Ri→ ∀H',az H' (⟨v25,2,r.1.Em.map Ej⟩::⟨Ri,1,r.1.Ek.map (AV.int .i64)⟩::F)→P (.ay [.agg [.int .i64 r.1.Next,v25,Ri],.int .i64 r.2.1,.bool r.2.2]) H'):aq C 20 [.agg [.int .i64 a0.Next,.fz (a0.Em.map Ej),.fz (a0.Ek.map (AV.int .i64))]] H P:=by
 refine Cn gC (res:=[.cell 2 26,.tmp 3,.tmp 4]) (n:=24) rfl rfl rfl rfl fun K0 El=> ?_;simp only [W,Nat.reduceSub,Nat.reduceAdd,List.replicate];unfold M2 at h;refine B3 fun K1 Er=> ?_;refine Ck gC ?_;try simp only [W,Nat.reduceAdd]
 refine Cq hS rfl rfl rfl rfl fun Eo Ep H hS=> ?_;try simp only [W]
 refine Cr hS rfl rfl fun Eu Ev H hS=> ?_;try simp only [W]
 refine B_ Er ?_;refine B3 fun K6 E6=> ?_;refine B3 fun K7 EI=> ?_;obtain ⟨KD,h,g10⟩:=Option.bind_eq_some_iff.1 h;refine CG gC (fun s H=> ∃EH:Bool,KD=(EH)∧s=[u,.ptr Eo Ep 0 0,.ptr Eu Ev 0 0,u,u,u,u,u,u,u,u,u,u,.bool EH,u,u,u,u,u,u,u,u,u,u]∧az H (⟨.ptr Eo Ep 0 0,3,[.agg [.int .i64 a0.Next,.fz (a0.Em.map Ej),.fz (a0.Ek.map (AV.int .i64))]]⟩::⟨.ptr Eu Ev 0 0,3,[.agg [.int .i64 0,.nil,.nil]]⟩::F)) (fun Ii Fy=> ?_) (fun s H hq=> ?_)
 ·refine B3 fun Ij Fs=> ?_;refine Ck gC ?_;try simp only [W,EE,reduceIte,Nat.reduceAdd,Nat.reduceLeDiff,hS.var 1 rfl]
  refine CB h fun Hd Je h=> ?_;refine P8 Je hS fun H hS=> ?_;try simp only [W]
  refine C4 h (fun hc h=> ?_) (fun hc h=> ?_)
  ·try simp only [W,hc]
   refine B_ Fs ?_;refine B9 ?_;exact CH Fy ⟨_,(Option.some.inj h).symm,rfl,(hS.C0 2 [1,0] (by decide))⟩
  ·try simp only [W,EE,reduceIte,Nat.reduceAdd,Nat.reduceBEq,Bool.false_eq_true,hS.var 1 rfl,hc]
   refine B_ Fs ?_;refine B9 ?_;exact CH Fy ⟨_,(Option.some.inj h).symm,rfl,(hS.C0 2 [1,0] (by decide))⟩
 ·obtain ⟨EH,Es,rfl,hS⟩:=hq;obtain rfl:=Es.symm;replace h:=g10;try dsimp only at h
  refine B_ EI ?_;refine B8 ?_;simp only [W];refine Cj h (fun hc h=> ?_) (fun hc h=> ?_)
  ·refine B3 fun G4 E8=> ?_;refine Ck gC ?_;try simp only [W,EE,Nat.reduceAdd]
   refine C5 rfl rfl rfl rfl rfl ?_;try simp only [W]
   refine Cs (a:= .agg [.int .i64 0,.nil,.nil]) (y' := .agg [.int .i64 0,.nil,.nil]) 1 hS rfl rfl rfl rfl rfl rfl rfl rfl fun H hS=> ?_
   try simp only [W]
   refine B_ E8 ?_;refine B6 ?_;refine Ca E6 ?_;refine Cg El (C2 rfl rfl (hS.var 1 rfl) rfl (C3 rfl (C3 rfl rfl))) ?_;try obtain rfl:=Option.some.inj h
   exact hP _ nr _ nr _ (((hS.Ap 1).Ap 2).C0 4 [0,1] (by decide))
  ·refine B5 ?_;refine B_ E6 ?_;refine B3 fun Gm EP=> ?_;refine Ck gC ?_;try simp only [W,EE,reduceIte,Nat.reduceAdd,Nat.reduceLeDiff,hS.var 0 rfl]
   refine CB h fun Gb KI h=> ?_;refine S9 KI hS fun v17 Jr Fe F4 H hS=> ?_;try simp only [W]
   refine Cr hS rfl rfl fun adz adA H hS=> ?_;try simp only [W]
   refine Cs (a:= .agg [.int .i64 Gb.Next,v17,Fe]) (y' := .agg [.int .i64 Gb.Next,v17,Fe]) 0 hS rfl rfl rfl rfl rfl (by simp only [dD,List.all_cons,List.all_nil,Jr.qu,F4.qu];rfl) rfl rfl fun H hS=> ?_
   try simp only [W]
   refine B_ EP ?_;refine B3 fun IM FW=> ?_;refine Ck gC ?_;try simp only [W,EE,Nat.reduceAdd,Nat.reduceBEq,hS.var 0 rfl]
   refine Cs (a:= .int .i64 (IntKind.i64.wrap (Gb.Next+1))) (y' := .agg [.int .i64 (IntKind.i64.wrap (Gb.Next+1)),v17,Fe]) 0 hS rfl rfl rfl rfl rfl rfl rfl rfl fun H hS=> ?_
   try simp only [W]
   refine B_ FW ?_;refine B3 fun Hj Fu=> ?_;refine C6 gC [(3,[1,2])] (by kernel_rfl) rfl (by kernel_rfl) ?_
   try simp only [W,EE,reduceIte,Nat.reduceAdd,Nat.reduceLeDiff,Nat.reduceBEq,hS.var 0 rfl,hS.var 3 rfl,iV,lG,Nat.reduceEqDiff]
   refine Cs (a:= .agg [.int .i64 (IntKind.i64.wrap (Gb.Next+1)),v17,Fe]) (y' := .agg [.int .i64 (IntKind.i64.wrap (Gb.Next+1)),v17,Fe]) 4 hS rfl rfl rfl rfl rfl (by simp only [dD,List.all_cons,List.all_nil,Jr.qu,F4.qu];rfl) rfl rfl fun H hS=> ?_
   refine C7 ?_;refine C8 (by first|rfl|(simp [gR,aP,W,EE,hS.var 3 rfl];done)|exact DE 1 hS rfl Jr rfl rfl rfl rfl rfl|exact DE 2 hS rfl F4 rfl rfl rfl rfl rfl) ?_
   refine C8 (by first|rfl|(simp [gR,aP,W,EE,bT,jG,aD,AV.cells,hS.var 3 rfl];done)|exact DE 1 hS rfl Jr rfl rfl rfl rfl rfl|exact DE 2 hS rfl F4 rfl rfl rfl rfl rfl) ?_
   refine C9 ?_;try simp only [W]
   refine B_ Fu ?_;refine B6 ?_;refine Cg El (C2 rfl rfl (hS.var 4 rfl) rfl (C3 rfl (C3 rfl rfl))) ?_;try obtain rfl:=Option.some.inj h
   exact hP _ Jr _ F4 _ (hS.C0 5 [1,2] (by decide))
theorem Zc {a0:List Int} {r:(Int)} (h:M3 a0=some r) {F:List It} {H:J} (hS:az H (F)) {P:AV→J→Prop} (hP: ∀H',az H' (F)→P (.int .i64 r) H'):aq C 21 [.fz (a0.map (AV.int .u8))] H P:=by
 refine Cn gC (res:=[.tmp 2]) (n:=10) rfl rfl rfl rfl fun K0 El=> ?_;simp only [W,Nat.reduceSub,Nat.reduceAdd,List.replicate];unfold M3 at h;refine B3 fun K1 Er=> ?_;refine Ck gC ?_;try simp only [W,Nat.reduceAdd]
 refine B_ Er ?_;refine B3 fun K2 zU=> ?_;refine Ck gC ?_;try simp only [W,EE,Nat.reduceAdd]
 refine C5 rfl rfl rfl rfl rfl ?_;try simp only [W]
 refine Cq hS rfl rfl rfl rfl fun ip3 wp3 H hS=> ?_;try simp only [W]
 refine B_ zU ?_;refine B3 fun K5 EZ=> ?_;refine Cl (fz:=[(2,[([8],[.sl [.sc]])])]) gC ?_;try simp only [W,Nat.reduceAdd,Nat.reduceBEq]
 refine CA (el:=([-1,0,7,60,61]:List Int).map (AV.int .i64)) hS rfl rfl rfl rfl rfl rfl rfl fun v6 H HC hS=> ?_;try simp only [W,Nat.reduceAdd]
 refine CR 0 hS rfl HC rfl (fun _ _=>by simp [aY,aN,dp]) (fun _=>rfl) fun H r6 hS=> ?_
 try simp only [W]
 refine CB h fun Fo KG h=> ?_;obtain ⟨E1,FI⟩:=Fo;try dsimp only at h
 refine Sp KG hS fun H hS=> ?_;try simp only [W,Nat.reduceAdd,Nat.reduceBEq]
 refine B_ EZ ?_;refine B6 ?_;refine Ch El rfl ?_;try obtain rfl:=Option.some.inj h
 exact hP _ (hS.C0 1 [] (by decide))
theorem Zd {a0:Int} {r:(Et×Bool)} (h:M4 a0=some r) {F:List It} {H:J} (hS:az H (F)) {P:AV→J→Prop} (hP: ∀v9:AV,bA v9→ ∀v11:AV,bA v11→ ∀H',az H' (⟨v9,2,r.1.Em.map Ej⟩::⟨v11,1,r.1.Ek.map (AV.int .i64)⟩::F)→P (.ay [.agg [.int .i64 r.1.Next,v9,v11],.bool r.2]) H'):aq C 22 [.int .i64 a0] H P:=by
 refine Cn gC (res:=[.cell 2 26,.tmp 3]) (n:=10) rfl rfl rfl rfl fun K0 El=> ?_;simp only [W,Nat.reduceSub,Nat.reduceAdd,List.replicate];unfold M4 at h;refine B3 fun K1 Er=> ?_;refine Ck gC ?_;try simp only [W,Nat.reduceAdd]
 refine Cr hS rfl rfl fun Eo Ep H hS=> ?_;try simp only [W]
 refine B_ Er ?_;refine B3 fun K4 EC=> ?_;refine B3 fun K5 EZ=> ?_;refine Ck gC ?_;try simp only [W,Nat.reduceAdd]
 refine CB h fun Fi HS h=> ?_;refine Q1 HS hS fun H hS=> ?_;try simp only [W]
 refine B_ EZ ?_;refine B8 ?_;simp only [W];refine Cj h (fun hc h=> ?_) (fun hc h=> ?_)
 ·refine B3 fun K7 EI=> ?_;refine Ck gC ?_;try simp only [W,EE,Nat.reduceAdd]
  refine C5 rfl rfl rfl rfl rfl ?_;try simp only [W]
  refine Cs (a:= .agg [.int .i64 0,.nil,.nil]) (y' := .agg [.int .i64 0,.nil,.nil]) 0 hS rfl rfl rfl rfl rfl rfl rfl rfl fun H hS=> ?_
  try simp only [W]
  refine B_ EI ?_;refine B6 ?_;refine Ca EC ?_;refine Cg El (C2 rfl rfl (hS.var 0 rfl) rfl (C3 rfl rfl)) ?_;try obtain rfl:=Option.some.inj h
  exact hP _ nr _ nr _ (((hS.Ap 1).Ap 2).C0 3 [0,1] (by decide))
 ·refine B5 ?_;refine B_ EC ?_;refine B3 fun K8 EK=> ?_;refine Ck gC ?_;try simp only [W,EE,Nat.reduceAdd]
  refine C5 rfl rfl rfl rfl rfl ?_;try simp only [W]
  refine Cs (a:= .agg [.int .i64 a0,.nil,.nil]) (y' := .agg [.int .i64 a0,.nil,.nil]) 0 hS rfl rfl rfl rfl rfl rfl rfl rfl fun H hS=> ?_
  try simp only [W]
  refine B_ EK ?_;refine B6 ?_;refine Cg El (C2 rfl rfl (hS.var 0 rfl) rfl (C3 rfl rfl)) ?_;try obtain rfl:=Option.some.inj h
  exact hP _ nr _ nr _ (((hS.Ap 1).Ap 2).C0 3 [0,1] (by decide))
end Go.GC
